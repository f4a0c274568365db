/- The walks of TreeChanges. -/
import Derived.Test.YtjliljlmgepmpaaGreatDoorTreB1
set_option linter.unusedSimpArgs false
set_option linter.unusedVariables false
set_option linter.unusedSectionVars false
namespace Go.Wk
open Go.HL
open Go.Proofs hiding encI
variable [DM]
theorem en_8 (args : Array Value) (w : World) : (callFunc 8 args).run Tryz.prog w = .ok (.enter 8 args) w := by kernel_rfl
theorem en_12 (args : Array Value) (w : World) : (callFunc 12 args).run Tryz.prog w = .ok (.enter 12 args) w := by kernel_rfl
theorem en_37 (args : Array Value) (w : World) : (callFunc 37 args).run Tryz.prog w = .ok (.enter 37 args) w := by kernel_rfl
theorem en_14 (args : Array Value) (w : World) : (callFunc 14 args).run Tryz.prog w = .ok (.enter 14 args) w := by kernel_rfl
theorem en_11 (args : Array Value) (w : World) : (callFunc 11 args).run Tryz.prog w = .ok (.enter 11 args) w := by kernel_rfl
theorem en_25 (args : Array Value) (w : World) : (callFunc 25 args).run Tryz.prog w = .ok (.enter 25 args) w := by kernel_rfl
theorem en_58 (args : Array Value) (w : World) : (callFunc 58 args).run Tryz.prog w = .ok (.enter 58 args) w := by kernel_rfl
theorem en_35 (args : Array Value) (w : World) : (callFunc 35 args).run Tryz.prog w = .ok (.enter 35 args) w := by kernel_rfl
theorem en_36 (args : Array Value) (w : World) : (callFunc 36 args).run Tryz.prog w = .ok (.enter 36 args) w := by kernel_rfl
def slices_Equal_s_int_int_l1 (s1 : List Int) (s2 : List Int) (Q : Bool → Prop) (K_1 : Int → Prop) (n_1 : Int) : Prop :=
 (n_1 < (s1.length : Int) → ((0 : Int) ≤ n_1 ∧ n_1 < (s1.length : Int)) ∧ (((0 : Int) ≤ n_1 ∧ n_1 < (s2.length : Int)) ∧ ((¬ ((gi s1 n_1) = (gi s2 n_1)) → Q false) ∧ ((gi s1 n_1) = (gi s2 n_1) → (I64 (n_1 + 1)) ∧ (K_1 (n_1 + 1)))))) ∧ (¬ (n_1 < (s1.length : Int)) → Q true)
def slices_Equal_s_int_int_W (s1 : List Int) (s2 : List Int) (Q : Bool → Prop) : Prop :=
 (¬ ((s1.length : Int) = (s2.length : Int)) → Q false) ∧ ((s1.length : Int) = (s2.length : Int) → loopW (fun (K_1 : Int → Prop) (s : Int) => slices_Equal_s_int_int_l1 s1 s2 Q K_1 s) 0)
set_option maxHeartbeats 40000000 in
set_option maxRecDepth 100000 in
theorem slices_Equal_s_int_int_walk {F : Fz} {fr : List Ow} {h0 : Heap} (s1 : List Int) (s2 : List Int) (vs1 : Value) (vs2 : Value) (hS : St F (fr) h0) (hL_s1 : SliceF F h0 1 encI vs1 s1) (hL_s2 : SliceF F h0 1 encI vs2 s2) {Q : Bool → Prop} (hM : slices_Equal_s_int_int_W s1 s2 Q) :
  HC Tryz.prog 58 #[vs1, vs2] h0 fun u h' => ∃ (F' : Fz) (r_1 : Bool), u = .bool r_1 ∧ Kp F h0 F' h' ∧ St F' (fr) h' ∧ (SliceF F' h' 1 encI vs1 s1) ∧ (SliceF F' h' 1 encI vs2 s2) ∧ Q r_1 := by
 unfold slices_Equal_s_int_int_W at hM
 have hK := Kp.refl F h0
 refine HC.of_HW (n := 26) Tryz.func58 rfl rfl (Nat.le_of_ble_eq_true rfl) ?_
 refine HW.seq ?_
 refine HW.region ?_
 refine oA (.bool false) rfl rfl ?_
 refine HO.nil (thenQ_normal (?_))
 refine HW.seq ?_
 refine HW.seq ?_
 refine HW.region ?_
 refine oM (vs1) rfl rfl ?_
 refine oV (.int .i64 (s1.length : Int)) (q_len ts_36 (shp hL_s1.is) rfl rfl) rfl ?_
 refine oM (vs2) rfl rfl ?_
 refine oV (.int .i64 (s2.length : Int)) (q_len ts_36 (shp hL_s2.is) rfl rfl) rfl ?_
 refine oV (.bool (!decide ((s1.length : Int) = (s2.length : Int)))) (q_neq rfl rfl) rfl ?_
 refine HO.nil (thenQ_normal (?_))
 refine HW.cond (!decide ((s1.length : Int) = (s2.length : Int))) rfl (fun c_1 => ?_) (fun c_1 => ?_)
 ·
  replace hM := hM.1 (nd_true c_1)
  refine HW.seq ?_
  refine HW.region ?_
  refine oA (.bool false) rfl rfl ?_
  refine HO.nil (thenQ_normal (?_))
  refine HW.ret (thenQ_ret (?_))
  refine ⟨.inr rfl, .bool false, res1 rfl (rt rfl), ?_⟩
  exact ⟨F, false, rfl, hK, hS, hL_s1, hL_s2, hM⟩
 ·
  replace hM := hM.2 (nd_false c_1)
  refine HW.skip (thenQ_normal (?_))
  refine HW.seq ?_
  refine HW.seq ?_
  refine HW.region ?_
  refine oM (vs1) rfl rfl ?_
  refine oV (.int .i64 (s1.length : Int)) (q_len ts_36 (shp hL_s1.is) rfl rfl) rfl ?_
  refine oM (.int .i64 0) rfl rfl ?_
  refine HO.nil (thenQ_normal (?_))
  refine HW.block ?_
  obtain ⟨I_1, m_1, hI_1, hR_1⟩ := hM
  refine HW.loop (S := Int) (fun n_1 f h => ∃ (F' : Fz), f 0 = vs1 ∧ f 1 = vs2 ∧ f 4 = .bool false ∧ f 12 = .int .i64 (s1.length : Int) ∧ f 13 = .int .i64 n_1 ∧ Kp F h0 F' h ∧ St F' (fr) h ∧ (SliceF F' h 1 encI vs1 s1) ∧ (SliceF F' h 1 encI vs2 s2) ∧ I_1 n_1) m_1 0 ⟨F, rfl, rfl, rfl, rfl, rfl, hK, hS, hL_s1, hL_s2, hI_1⟩ ?_
  rintro n_1 f_1 h_1 ⟨F_1, e0, e1, e4, e12, e13, hK, hS, hL_s1, hL_s2, hI0⟩
  obtain ⟨K_1, hKe_1⟩ : ∃ K : Int → Prop, K = fun n_1' => I_1 n_1' ∧ m_1 n_1' < m_1 n_1 := ⟨_, rfl⟩
  have hM : slices_Equal_s_int_int_l1 s1 s2 Q K_1 n_1 := by rw [hKe_1]; exact hR_1 n_1 hI0
  unfold slices_Equal_s_int_int_l1 at hM
  refine HW.fr [(0, vs1), (1, vs2), (4, .bool false), (12, .int .i64 (s1.length : Int)), (13, .int .i64 n_1)] ⟨e0, e1, e4, e12, e13, trivial⟩ ?_
  refine HW.seq ?_
  refine HW.region ?_
  refine oV (.bool (decide (n_1 < (s1.length : Int)))) (q_lss rfl rfl) rfl ?_
  refine HO.nil (thenQ_normal (?_))
  refine HW.seq ?_
  refine HW.cond (decide (n_1 < (s1.length : Int))) rfl (fun c_2 => ?_) (fun c_2 => ?_)
  ·
   replace hM := hM.1 (of_decide_eq_true c_2)
   refine HW.skip (thenQ_normal (?_))
   refine HW.seq ?_
   refine HW.block ?_
   refine HW.seq ?_
   refine HW.region ?_
   refine oM (.int .i64 n_1) rfl rfl ?_
   refine oA (.int .i64 n_1) rfl rfl ?_
   refine HO.nil (thenQ_normal (?_))
   refine HW.seq ?_
   refine HW.regionA 9 mixed (fun h => (SliceIs h 1 encI vs1 s1) ∧ (SliceIs h 1 encI vs2 s2)) [] (by kernel_rfl) ?_
   refine HA.val (k := 0) (v := vs1) rfl rfl (by kernel_rfl) (by kernel_rfl) (want_none) rfl (fun _ ⟨hL_s1, hL_s2⟩ => q_move rfl) ?_
   refine HA.val (k := 1) (v := .int .i64 n_1) rfl rfl (by kernel_rfl) (by kernel_rfl) (want_none) rfl (fun _ ⟨hL_s1, hL_s2⟩ => q_move rfl) ?_
   obtain ⟨ho_1, hM⟩ := hM
   refine HA.val (k := 2) (v := elemPtr 1 vs1 (n_1).toNat) rfl rfl (by kernel_rfl) (by kernel_rfl) (want_none) rfl (fun _ ⟨hL_s1, hL_s2⟩ => q_idx ts_36 hL_s1 rfl rfl ho_1) ?_
   refine HA.val (k := 3) (v := .int .i64 (gi s1 n_1)) rfl rfl (by kernel_rfl) (by kernel_rfl) (want_none) rfl (fun _ ⟨hL_s1, hL_s2⟩ => q_ldElem to_3 hL_s1 rfl ho_1 rfl) ?_
   refine HA.val (k := 4) (v := vs2) rfl rfl (by kernel_rfl) (by kernel_rfl) (want_none) rfl (fun _ ⟨hL_s1, hL_s2⟩ => q_move rfl) ?_
   refine HA.val (k := 5) (v := .int .i64 n_1) rfl rfl (by kernel_rfl) (by kernel_rfl) (want_none) rfl (fun _ ⟨hL_s1, hL_s2⟩ => q_move rfl) ?_
   obtain ⟨ho_2, hM⟩ := hM
   refine HA.val (k := 6) (v := elemPtr 1 vs2 (n_1).toNat) rfl rfl (by kernel_rfl) (by kernel_rfl) (want_none) rfl (fun _ ⟨hL_s1, hL_s2⟩ => q_idx ts_36 hL_s2 rfl rfl ho_2) ?_
   refine HA.val (k := 7) (v := .int .i64 (gi s2 n_1)) rfl rfl (by kernel_rfl) (by kernel_rfl) (want_none) rfl (fun _ ⟨hL_s1, hL_s2⟩ => q_ldElem to_3 hL_s2 rfl ho_2 rfl) ?_
   refine HA.val (k := 8) (v := .bool (!decide ((gi s1 n_1) = (gi s2 n_1)))) rfl rfl (by kernel_rfl) (by kernel_rfl) (want_none) rfl (fun _ ⟨hL_s1, hL_s2⟩ => q_neq rfl rfl) ?_
   refine HA.nil ⟨⟨hL_s1.is, hL_s2.is⟩, (Go.Wk.at_nil _ _)⟩ (by kernel_rfl) (thenQ_normal (?_))
   refine HW.cond (!decide ((gi s1 n_1) = (gi s2 n_1))) rfl (fun c_3 => ?_) (fun c_3 => ?_)
   ·
    replace hM := hM.1 (nd_true c_3)
    refine HW.seq ?_
    refine HW.region ?_
    refine oA (.bool false) rfl rfl ?_
    refine HO.nil (thenQ_normal (?_))
    refine HW.ret (blockQ_ret (thenQ_ret (thenQ_ret (blockQ_ret (thenQ_ret (?_))))))
    refine ⟨.inr rfl, .bool false, res1 rfl (rt rfl), ?_⟩
    exact ⟨F_1, false, rfl, hK, hS, hL_s1, hL_s2, hM⟩
   ·
    replace hM := hM.2 (nd_false c_3)
    refine HW.skip (blockQ_normal (thenQ_normal (?_)))
    refine HW.region ?_
    obtain ⟨ho_3, hM⟩ := hM
    refine oV (.int .i64 (n_1 + 1)) (q_addN _ rfl rfl rfl ho_3.1 ho_3.2) rfl ?_
    refine oM (.int .i64 (n_1 + 1)) rfl rfl ?_
    refine HO.nil (thenQ_normal (?_))
    rw [hKe_1] at hM
    exact ⟨n_1 + 1, ⟨F_1, rfl, rfl, rfl, rfl, rfl, hK, hS, hL_s1, hL_s2, hM.1⟩, hM.2⟩
  ·
   replace hM := hM.2 (of_decide_eq_false c_2)
   refine HW.exit (thenQ_exit (thenQ_exit (blockQ_exit (thenQ_normal (?_)))))
   refine HW.seq ?_
   refine HW.region ?_
   refine oA (.bool true) rfl rfl ?_
   refine HO.nil (thenQ_normal (?_))
   refine HW.ret (?_)
   refine ⟨.inr rfl, .bool true, res1 rfl (rt rfl), ?_⟩
   exact ⟨F_1, true, rfl, hK, hS, hL_s1, hL_s2, hM⟩

def tree_Changed_l2 (Q : (List Int) → Prop) (r_2 : List (Int × Value × List Int)) (K_2 : (List Int) → (List (Int × Value × List Int)) → Prop) (out_2 : List Int) (rem_3 : List (Int × Value × List Int)) : Prop :=
 (rem_3 = [] → tree_rising_W out_2 (fun r_6 => Q r_6)) ∧ (∀ (p_2 : Int × Value × List Int) (rem_4 : List (Int × Value × List Int)), List.Perm rem_3 (p_2 :: rem_4) → ((!((mget r_2 p_2.1).isSome)) = true → ((out_2.length + ([p_2.1] : List Int).length) * 8 ≤ 140737488355328) ∧ (K_2 (out_2 ++ ([p_2.1] : List Int)) rem_4)) ∧ ((!((mget r_2 p_2.1).isSome)) = false → K_2 out_2 rem_4))
def tree_Changed_l1 (Q : (List Int) → Prop) (r_2 : List (Int × Value × List Int)) (r_4 : List (Int × Value × List Int)) (K_1 : (List Int) → (List (Int × Value × List Int)) → Prop) (out_1 : List Int) (rem_1 : List (Int × Value × List Int)) : Prop :=
 (rem_1 = [] → loopW (fun (K_2 : (List Int × List (Int × Value × List Int)) → Prop) (s : List Int × List (Int × Value × List Int)) => tree_Changed_l2 Q r_2 (fun out_2 rem_3 => K_2 (out_2, rem_3)) s.1 s.2) (out_1, r_4)) ∧ (∀ (p_1 : Int × Value × List Int) (rem_2 : List (Int × Value × List Int)), List.Perm rem_1 (p_1 :: rem_2) → slices_Equal_s_int_int_W p_1.2.2 ((bagAt r_4 p_1.1).2) (fun r_7 => ((!r_7) = true → ((out_1.length + ([p_1.1] : List Int).length) * 8 ≤ 140737488355328) ∧ (K_1 (out_1 ++ ([p_1.1] : List Int)) rem_2)) ∧ ((!r_7) = false → K_1 out_1 rem_2)))
def tree_Changed_W (a_Root : Int) (a_Links : List T_api_Branch) (b_Root : Int) (b_Links : List T_api_Branch) (Q : (List Int) → Prop) : Prop :=
 tree_nexts_W a_Root a_Links (fun r_2 => tree_nexts_W b_Root b_Links (fun r_4 => loopW (fun (K_1 : (List Int × List (Int × Value × List Int)) → Prop) (s : List Int × List (Int × Value × List Int)) => tree_Changed_l1 Q r_2 r_4 (fun out_1 rem_1 => K_1 (out_1, rem_1)) s.1 s.2) ([], r_2)))
set_option maxHeartbeats 40000000 in
set_option maxRecDepth 100000 in
theorem tree_Changed_walk {F : Fz} {fr : List Ow} {h0 : Heap} (a_Root : Int) (a_Links : List T_api_Branch) (b_Root : Int) (b_Links : List T_api_Branch) (va_Links : Value) (vb_Links : Value) (hS : St F (fr) h0) (hL_a_Links : SliceF F h0 2 e_api_Branch va_Links a_Links) (hL_b_Links : SliceF F h0 2 e_api_Branch vb_Links b_Links) {Q : (List Int) → Prop} (hM : tree_Changed_W a_Root a_Links b_Root b_Links Q) :
  HC Tryz.prog 35 #[.agg #[.int .i64 a_Root, va_Links], .agg #[.int .i64 b_Root, vb_Links]] h0 fun u h' => ∃ (F' : Fz) (r_1 : List Int) (vr_1 : Value), u = vr_1 ∧ Kp F h0 F' h' ∧ St F' (Ow.own 3 1 encI vr_1 r_1 :: fr) h' ∧ (SliceF F' h' 2 e_api_Branch va_Links a_Links) ∧ (SliceF F' h' 2 e_api_Branch vb_Links b_Links) ∧ Q r_1 := by
 unfold tree_Changed_W at hM
 have hK := Kp.refl F h0
 refine HC.of_HW (n := 54) Tryz.func35 rfl rfl (Nat.le_of_ble_eq_true rfl) ?_
 refine HW.seq ?_
 refine HW.region ?_
 refine HO.eff (want_none) rfl (st_box (c := #[.int .i64 a_Root, va_Links]) (k' := 2) hS rfl rfl) ?_
 rintro _ h_1 ⟨b_1, rfl, hS, hk⟩
 replace hK := hK.trans hk
 replace hL_a_Links := hL_a_Links.kp hk
 replace hL_b_Links := hL_b_Links.kp hk
 refine HO.eff (want_none) rfl (st_box (c := #[.int .i64 b_Root, vb_Links]) (k' := 2) hS rfl rfl) ?_
 rintro _ h_2 ⟨b_2, rfl, hS, hk⟩
 replace hK := hK.trans hk
 replace hL_a_Links := hL_a_Links.kp hk
 replace hL_b_Links := hL_b_Links.kp hk
 refine oA (.slice none 0 0) rfl rfl ?_
 refine HO.nil (thenQ_normal (?_))
 refine HW.seq ?_
 refine HW.region ?_
 refine oA (.slice none 0 0) rfl rfl ?_
 refine HO.nil (thenQ_normal (?_))
 refine HW.seq ?_
 refine HW.regionA 6 mixed (fun h => (Blk h b_2 (.cells #[.int .i64 b_Root, vb_Links] 24 (0, 0))) ∧ (Blk h b_1 (.cells #[.int .i64 a_Root, va_Links] 24 (0, 0)))) [] (by kernel_rfl) ?_
 refine HA.val (k := 0) (v := .agg #[.int .i64 a_Root, va_Links]) rfl rfl (by kernel_rfl) (by kernel_rfl) (want_none) rfl (fun _ ⟨c203, c202⟩ => q_loadAgg (cs := [.int .i64 a_Root, va_Links]) ta_24 rfl rfl (Blk.cells (k := 2) c202 rfl)) ?_
 refine HA.val (k := 2) (v := .agg #[.int .i64 b_Root, vb_Links]) rfl rfl (by kernel_rfl) (by kernel_rfl) (want_none) rfl (fun _ ⟨c203, c202⟩ => q_loadAgg (cs := [.int .i64 b_Root, vb_Links]) ta_24 rfl rfl (Blk.cells (k := 2) c203 rfl)) ?_
 refine HA.one (k := 1) ⟨⟨(hS.box 0 rfl), (hS.box 1 rfl)⟩, (Go.Wk.at_nil _ _)⟩ (by kernel_rfl) ?_
 refine HS.call rfl (want_none) rfl (ec en_54 rfl rfl) (tree_nexts_walk (fr := (Ow.box b_2 24 #[.int .i64 b_Root, vb_Links] :: Ow.box b_1 24 #[.int .i64 a_Root, va_Links] :: fr)) a_Root a_Links va_Links hS hL_a_Links hM) ?_
 rintro _ h_3 ⟨F_1, r_2, r_3, rfl, hk, hS, _, hM⟩
 replace hK := hK.trans hk
 replace hL_a_Links := hL_a_Links.kp hk
 replace hL_b_Links := hL_b_Links.kp hk
 obtain ⟨F_2, hS, hk, hN_1⟩ := hS.bagOpen
 replace hK := hK.trans hk
 replace hL_a_Links := hL_a_Links.kp hk
 replace hL_b_Links := hL_b_Links.kp hk
 refine HA.one (k := 3) ⟨⟨(hS.box 1 rfl), (hS.box 2 rfl)⟩, (Go.Wk.at_nil _ _)⟩ (by kernel_rfl) ?_
 refine HS.call rfl (want_none) rfl (ec en_54 rfl rfl) (tree_nexts_walk (fr := (Ow.map r_3 kI bagV r_2 :: Ow.box b_2 24 #[.int .i64 b_Root, vb_Links] :: Ow.box b_1 24 #[.int .i64 a_Root, va_Links] :: fr)) b_Root b_Links vb_Links hS hL_b_Links hM) ?_
 rintro _ h_4 ⟨F_3, r_4, r_5, rfl, hk, hS, _, hM⟩
 replace hK := hK.trans hk
 replace hL_a_Links := hL_a_Links.kp hk
 replace hL_b_Links := hL_b_Links.kp hk
 replace hN_1 := hN_1.kp hk
 obtain ⟨F_4, hS, hk, hN_2⟩ := hS.bagOpen
 replace hK := hK.trans hk
 replace hL_a_Links := hL_a_Links.kp hk
 replace hL_b_Links := hL_b_Links.kp hk
 replace hN_1 := hN_1.kp hk
 refine HA.val (k := 4) (v := .map (some r_3)) rfl rfl (by kernel_rfl) (by kernel_rfl) (want_none) rfl (fun _ ⟨c203, c202⟩ => q_assign rfl) ?_
 refine HA.val (k := 5) (v := .map (some r_5)) rfl rfl (by kernel_rfl) (by kernel_rfl) (want_none) rfl (fun _ ⟨c203, c202⟩ => q_assign rfl) ?_
 refine HA.nil ⟨⟨(hS.box 2 rfl), (hS.box 3 rfl)⟩, (Go.Wk.at_nil _ _)⟩ (by kernel_rfl) (thenQ_normal (?_))
 refine HW.seq ?_
 refine HW.seq ?_
 refine HW.region ?_
 refine oM (.map (some r_3)) rfl rfl ?_
 refine HO.eff (want_none) rfl (st_range hS (i := 1) rfl Tryz.underlying62 rfl) ?_
 rintro _ h_5 ⟨it_1, rfl, hS, hk⟩
 replace hS : St F_4 (Ow.map r_5 kI bagV r_4 :: Ow.iter it_1 r_3 kI bagV r_2 r_2 :: Ow.box b_2 24 #[.int .i64 b_Root, vb_Links] :: Ow.box b_1 24 #[.int .i64 a_Root, va_Links] :: fr) h_5 := hS
 replace hK := hK.trans hk
 replace hL_a_Links := hL_a_Links.kp hk
 replace hL_b_Links := hL_b_Links.kp hk
 replace hN_1 := hN_1.kp hk
 replace hN_2 := hN_2.kp hk
 refine HO.nil (thenQ_normal (?_))
 refine HW.block ?_
 obtain ⟨I_1, m_1, hI_1, hR_1⟩ := hM
 replace hS := hS.nilOwn 3 1 encI
 replace hS : St F_4 (Ow.own 3 1 encI (.slice none 0 0) ([] : List Int) :: Ow.iter it_1 r_3 kI bagV r_2 r_2 :: Ow.map r_5 kI bagV r_4 :: fr) h_5 := hS.perm2 [0, 2, 1] 5 rfl rfl
 refine HW.loop (S := List Int × List (Int × Value × List Int)) (fun s f h => match s with | (out_1, rem_1) => ∃ (F' : Fz) (vout_1 : Value), f 4 = .slice none 0 0 ∧ f 5 = vout_1 ∧ f 6 = .map (some r_3) ∧ f 7 = .map (some r_5) ∧ f 18 = .pointer (some ⟨it_1, 0, none⟩) ∧ Kp F h0 F' h ∧ St F' (Ow.own 3 1 encI vout_1 out_1 :: Ow.iter it_1 r_3 kI bagV r_2 rem_1 :: Ow.map r_5 kI bagV r_4 :: fr) h ∧ (SliceF F' h 2 e_api_Branch va_Links a_Links) ∧ (SliceF F' h 2 e_api_Branch vb_Links b_Links) ∧ (NfB 1 encI F' h r_2) ∧ (NfB 1 encI F' h r_4) ∧ (NfB 1 encI F' h rem_1) ∧ I_1 (out_1, rem_1)) m_1 ([], r_2) ⟨F_4, .slice none 0 0, rfl, rfl, rfl, rfl, rfl, hK, hS, hL_a_Links, hL_b_Links, hN_1, hN_2, hN_1, hI_1⟩ ?_
 rintro ⟨out_1, rem_1⟩ f_1 h_6 ⟨F_5, vout_1, e4, e5, e6, e7, e18, hK, hS, hL_a_Links, hL_b_Links, hN_1, hN_2, hN_3, hI0⟩
 obtain ⟨K_1, hKe_1⟩ : ∃ K : (List Int) → (List (Int × Value × List Int)) → Prop, K = fun out_1' rem_1' => I_1 (out_1', rem_1') ∧ m_1 (out_1', rem_1') < m_1 (out_1, rem_1) := ⟨_, rfl⟩
 have hM : tree_Changed_l1 Q r_2 r_4 K_1 out_1 rem_1 := by rw [hKe_1]; exact hR_1 (out_1, rem_1) hI0
 unfold tree_Changed_l1 at hM
 refine HW.fr [(4, .slice none 0 0), (5, vout_1), (6, .map (some r_3)), (7, .map (some r_5)), (18, .pointer (some ⟨it_1, 0, none⟩))] ⟨e4, e5, e6, e7, e18, trivial⟩ ?_
 refine HW.seq ?_
 refine HW.region ?_
 refine HO.eff (want_none) rfl (st_next hS (i := 1) rfl rfl) ?_
 rintro _ h_7 (⟨hrem, rfl, hEq⟩ | ⟨p_1, rem_2, hperm, rfl, hS, hk⟩)
 ·
  rw [hEq]
  replace hM := hM.1 hrem
  replace hS := hS.done 1 rfl
  replace hS : St F_5 (Ow.own 3 1 encI vout_1 out_1 :: Ow.map r_3 kI bagV r_2 :: Ow.map r_5 kI bagV r_4 :: fr) h_6 := hS
  refine oV (.bool false) (q_extract rfl rfl) rfl ?_
  refine HO.nil (thenQ_normal (?_))
  refine HW.seq ?_
  refine HW.condF rfl ?_
  refine HW.exit (thenQ_exit (thenQ_exit (blockQ_exit (thenQ_normal (?_)))))
  refine HW.seq ?_
  refine HW.seq ?_
  refine HW.region ?_
  refine oM (.map (some r_5)) rfl rfl ?_
  refine HO.eff (want_none) rfl (st_range hS (i := 2) rfl Tryz.underlying62 rfl) ?_
  rintro _ h_8 ⟨it_2, rfl, hS, hk⟩
  replace hS : St F_5 (Ow.own 3 1 encI vout_1 out_1 :: Ow.map r_3 kI bagV r_2 :: Ow.iter it_2 r_5 kI bagV r_4 r_4 :: fr) h_8 := hS
  replace hK := hK.trans hk
  replace hL_a_Links := hL_a_Links.kp hk
  replace hL_b_Links := hL_b_Links.kp hk
  replace hN_1 := hN_1.kp hk
  replace hN_2 := hN_2.kp hk
  replace hN_3 := hN_3.kp hk
  refine HO.nil (thenQ_normal (?_))
  refine HW.block ?_
  obtain ⟨I_2, m_2, hI_2, hR_2⟩ := hM
  refine HW.loop (S := List Int × List (Int × Value × List Int)) (fun s f h => match s with | (out_2, rem_3) => ∃ (F' : Fz) (vout_2 : Value), f 4 = .slice none 0 0 ∧ f 5 = vout_2 ∧ f 6 = .map (some r_3) ∧ f 35 = .pointer (some ⟨it_2, 0, none⟩) ∧ Kp F h0 F' h ∧ St F' (Ow.own 3 1 encI vout_2 out_2 :: Ow.map r_3 kI bagV r_2 :: Ow.iter it_2 r_5 kI bagV r_4 rem_3 :: fr) h ∧ (SliceF F' h 2 e_api_Branch va_Links a_Links) ∧ (SliceF F' h 2 e_api_Branch vb_Links b_Links) ∧ (NfB 1 encI F' h r_2) ∧ (NfB 1 encI F' h r_4) ∧ (NfB 1 encI F' h rem_1) ∧ (NfB 1 encI F' h rem_3) ∧ I_2 (out_2, rem_3)) m_2 (out_1, r_4) ⟨F_5, vout_1, rfl, rfl, rfl, rfl, hK, hS, hL_a_Links, hL_b_Links, hN_1, hN_2, hN_3, hN_2, hI_2⟩ ?_
  rintro ⟨out_2, rem_3⟩ f_2 h_9 ⟨F_6, vout_2, e4, e5, e6, e35, hK, hS, hL_a_Links, hL_b_Links, hN_1, hN_2, hN_3, hN_4, hI0⟩
  obtain ⟨K_2, hKe_2⟩ : ∃ K : (List Int) → (List (Int × Value × List Int)) → Prop, K = fun out_2' rem_3' => I_2 (out_2', rem_3') ∧ m_2 (out_2', rem_3') < m_2 (out_2, rem_3) := ⟨_, rfl⟩
  have hM : tree_Changed_l2 Q r_2 K_2 out_2 rem_3 := by rw [hKe_2]; exact hR_2 (out_2, rem_3) hI0
  unfold tree_Changed_l2 at hM
  refine HW.fr [(4, .slice none 0 0), (5, vout_2), (6, .map (some r_3)), (35, .pointer (some ⟨it_2, 0, none⟩))] ⟨e4, e5, e6, e35, trivial⟩ ?_
  refine HW.seq ?_
  refine HW.region ?_
  refine HO.eff (want_none) rfl (st_next hS (i := 2) rfl rfl) ?_
  rintro _ h_10 (⟨hrem, rfl, hEq⟩ | ⟨p_2, rem_4, hperm, rfl, hS, hk⟩)
  ·
   rw [hEq]
   replace hM := hM.1 hrem
   replace hS := hS.done 2 rfl
   replace hS : St F_6 (Ow.own 3 1 encI vout_2 out_2 :: Ow.map r_3 kI bagV r_2 :: Ow.map r_5 kI bagV r_4 :: fr) h_9 := hS
   refine oV (.bool false) (q_extract rfl rfl) rfl ?_
   refine HO.nil (thenQ_normal (?_))
   refine HW.seq ?_
   refine HW.condF rfl ?_
   refine HW.exit (thenQ_exit (thenQ_exit (blockQ_exit (thenQ_normal (?_)))))
   refine HW.seq ?_
   refine HW.region ?_
   refine oM (vout_2) rfl rfl ?_
   refine HO.call (want_none) rfl (ec en_52 rfl rfl) (tree_rising_walk (fr := (Ow.map r_3 kI bagV r_2 :: Ow.map r_5 kI bagV r_4 :: fr)) out_2 vout_2 hS hM) ?_
   rintro vr_2 h_11 ⟨F_7, r_6, _, rfl, hk, hS, hM⟩
   replace hK := hK.trans hk
   replace hL_a_Links := hL_a_Links.kp hk
   replace hL_b_Links := hL_b_Links.kp hk
   refine oA (vr_2) rfl rfl ?_
   refine HO.nil (thenQ_normal (?_))
   refine HW.ret (?_)
   refine ⟨.inr rfl, vr_2, res1 rfl (rt rfl), ?_⟩
   replace hS : St F_7 (Ow.own 3 1 encI vr_2 r_6 :: fr) h_11 := hS.perm2 [0] 3 rfl rfl
   exact ⟨F_7, r_6, vr_2, rfl, hK, hS, hL_a_Links, hL_b_Links, hM⟩
  ·
   replace hM := hM.2 p_2 rem_4 hperm
   replace hS : St F_6 (Ow.own 3 1 encI vout_2 out_2 :: Ow.map r_3 kI bagV r_2 :: Ow.cur it_2 r_5 kI bagV r_4 rem_4 p_2 :: fr) h_10 := hS
   replace hK := hK.trans hk
   replace hL_a_Links := hL_a_Links.kp hk
   replace hL_b_Links := hL_b_Links.kp hk
   replace hN_1 := hN_1.kp hk
   replace hN_2 := hN_2.kp hk
   replace hN_3 := hN_3.kp hk
   replace hN_4 := hN_4.kp hk
   have hN_5 : NfB 1 encI F_6 h_10 rem_4 := ⟨fun p_ hp_ => hN_4.all p_ (hperm.mem_iff.2 (List.mem_cons_of_mem _ hp_))⟩
   have hL_1 : SliceF F_6 h_10 1 encI p_2.2.1 p_2.2.2 := hN_4.all p_2 (hperm.mem_iff.2 (List.mem_cons_self ..))
   refine oV (.bool true) (q_extract rfl rfl) rfl ?_
   refine HO.nil (thenQ_normal (?_))
   refine HW.seq ?_
   refine HW.condT rfl ?_
   refine HW.skip (thenQ_normal (?_))
   refine HW.block ?_
   refine HW.seq ?_
   refine HW.region ?_
   refine oV (.tuple #[.int .i64 p_2.1, p_2.2.1]) (q_entry (hS.cu 2 rfl) rfl) rfl ?_
   refine oV (.int .i64 p_2.1) (q_extract rfl rfl) rfl ?_
   refine oA (.int .i64 p_2.1) rfl rfl ?_
   refine HO.nil (thenQ_normal (?_))
   refine HW.seq ?_
   refine HW.region ?_
   refine oM (.map (some r_3)) rfl rfl ?_
   refine oM (.int .i64 p_2.1) rfl rfl ?_
   have hL_2 : SliceF F_6 h_10 1 encI ((bagAt r_2 p_2.1).1) ((bagAt r_2 p_2.1).2) := hN_1.at_ p_2.1
   refine oV (.tuple #[(bagAt r_2 p_2.1).1, .bool ((mget r_2 p_2.1).isSome)]) ((q_lookupOk (k := p_2.1) ka_3 tmk_62 (hS.mp 1 rfl) rfl rfl).of_eq (congrArg (fun v => Value.tuple #[v, _]) (bagAt_v _ _))) rfl ?_
   refine oM (.tuple #[(bagAt r_2 p_2.1).1, .bool ((mget r_2 p_2.1).isSome)]) rfl rfl ?_
   refine oV ((bagAt r_2 p_2.1).1) (q_extract rfl rfl) rfl ?_
   refine oV (.bool ((mget r_2 p_2.1).isSome)) (q_extract rfl rfl) rfl ?_
   refine oA ((bagAt r_2 p_2.1).1) rfl rfl ?_
   refine oA (.bool ((mget r_2 p_2.1).isSome)) rfl rfl ?_
   refine HO.nil (thenQ_normal (?_))
   refine HW.seq ?_
   refine HW.region ?_
   refine oM (.bool ((mget r_2 p_2.1).isSome)) rfl rfl ?_
   refine oV (.bool (!((mget r_2 p_2.1).isSome))) (q_not rfl) rfl ?_
   refine HO.nil (thenQ_normal (?_))
   refine HW.cond (!((mget r_2 p_2.1).isSome)) rfl (fun c_1 => ?_) (fun c_1 => ?_)
   ·
    replace hM := hM.1 c_1
    refine HW.region ?_
    refine oM (vout_2) rfl rfl ?_
    refine oM (.int .i64 p_2.1) rfl rfl ?_
    refine HO.eff (want_none) rfl (st_lit (enc := encI) (cells := #[.int .i64 p_2.1]) #[.int .i64 0] ([p_2.1] : List Int) hS tl_36 (by decide) (by decide) (by kernel_rfl) (by kernel_rfl) rfl (by intro x hx; rfl) rfl) ?_
    rintro _ h_12 ⟨b_3, rfl, hS, hk⟩
    replace hK := hK.trans hk
    replace hL_a_Links := hL_a_Links.kp hk
    replace hL_b_Links := hL_b_Links.kp hk
    replace hN_1 := hN_1.kp hk
    replace hN_2 := hN_2.kp hk
    replace hN_3 := hN_3.kp hk
    replace hN_5 := hN_5.kp hk
    obtain ⟨ho_1, hM⟩ := hM
    refine HO.eff (want_none) rfl (st_append te_36 hS (i := 1) rfl (hS.own 0 rfl).slice rfl rfl rfl (by intro a _ u hu; simp [encI, encI, encN, encB, encT] at hu; subst hu; rfl) ho_1 (by omega)) ?_
    rintro v_1 h_13 ⟨hS, hk⟩
    replace hS : St F_6 (Ow.own 3 1 encI (.slice (some ⟨b_3, 0, none⟩) 1 1) ([p_2.1] : List Int) :: Ow.own 3 1 encI v_1 (out_2 ++ ([p_2.1] : List Int)) :: Ow.map r_3 kI bagV r_2 :: Ow.cur it_2 r_5 kI bagV r_4 rem_4 p_2 :: fr) h_13 := hS
    replace hK := hK.trans hk
    replace hL_a_Links := hL_a_Links.kp hk
    replace hL_b_Links := hL_b_Links.kp hk
    replace hN_1 := hN_1.kp hk
    replace hN_2 := hN_2.kp hk
    replace hN_3 := hN_3.kp hk
    replace hN_5 := hN_5.kp hk
    refine oA (v_1) rfl rfl ?_
    refine HO.nil (blockQ_normal (thenQ_normal (?_)))
    replace hS := hS.again 3 rfl
    replace hS : St F_6 (Ow.own 3 1 encI (.slice (some ⟨b_3, 0, none⟩) 1 1) ([p_2.1] : List Int) :: Ow.own 3 1 encI v_1 (out_2 ++ ([p_2.1] : List Int)) :: Ow.map r_3 kI bagV r_2 :: Ow.iter it_2 r_5 kI bagV r_4 rem_4 :: fr) h_13 := hS
    replace hS : St F_6 (Ow.own 3 1 encI v_1 (out_2 ++ ([p_2.1] : List Int)) :: Ow.map r_3 kI bagV r_2 :: Ow.iter it_2 r_5 kI bagV r_4 rem_4 :: fr) h_13 := hS.perm2 [1, 2, 3] 4 rfl rfl
    rw [hKe_2] at hM
    exact ⟨(out_2 ++ ([p_2.1] : List Int), rem_4), ⟨F_6, v_1, rfl, rfl, rfl, rfl, hK, hS, hL_a_Links, hL_b_Links, hN_1, hN_2, hN_3, hN_5, hM.1⟩, hM.2⟩
   ·
    replace hM := hM.2 c_1
    refine HW.skip (blockQ_normal (thenQ_normal (?_)))
    replace hS := hS.again 2 rfl
    replace hS : St F_6 (Ow.own 3 1 encI vout_2 out_2 :: Ow.map r_3 kI bagV r_2 :: Ow.iter it_2 r_5 kI bagV r_4 rem_4 :: fr) h_10 := hS
    rw [hKe_2] at hM
    exact ⟨(out_2, rem_4), ⟨F_6, vout_2, rfl, rfl, rfl, rfl, hK, hS, hL_a_Links, hL_b_Links, hN_1, hN_2, hN_3, hN_5, hM.1⟩, hM.2⟩
 ·
  replace hM := hM.2 p_1 rem_2 hperm
  replace hS : St F_5 (Ow.own 3 1 encI vout_1 out_1 :: Ow.cur it_1 r_3 kI bagV r_2 rem_2 p_1 :: Ow.map r_5 kI bagV r_4 :: fr) h_7 := hS
  replace hK := hK.trans hk
  replace hL_a_Links := hL_a_Links.kp hk
  replace hL_b_Links := hL_b_Links.kp hk
  replace hN_1 := hN_1.kp hk
  replace hN_2 := hN_2.kp hk
  replace hN_3 := hN_3.kp hk
  have hN_6 : NfB 1 encI F_5 h_7 rem_2 := ⟨fun p_ hp_ => hN_3.all p_ (hperm.mem_iff.2 (List.mem_cons_of_mem _ hp_))⟩
  have hL_3 : SliceF F_5 h_7 1 encI p_1.2.1 p_1.2.2 := hN_3.all p_1 (hperm.mem_iff.2 (List.mem_cons_self ..))
  refine oV (.bool true) (q_extract rfl rfl) rfl ?_
  refine HO.nil (thenQ_normal (?_))
  refine HW.seq ?_
  refine HW.condT rfl ?_
  refine HW.skip (thenQ_normal (?_))
  refine HW.block ?_
  refine HW.seq ?_
  refine HW.region ?_
  refine oV (.tuple #[.int .i64 p_1.1, p_1.2.1]) (q_entry (hS.cu 1 rfl) rfl) rfl ?_
  refine oV (.int .i64 p_1.1) (q_extract rfl rfl) rfl ?_
  refine oV (p_1.2.1) (q_extract rfl rfl) rfl ?_
  refine oA (.int .i64 p_1.1) rfl rfl ?_
  refine oA (p_1.2.1) rfl rfl ?_
  refine HO.nil (thenQ_normal (?_))
  refine HW.seq ?_
  refine HW.region ?_
  refine oM (p_1.2.1) rfl rfl ?_
  refine oM (.map (some r_5)) rfl rfl ?_
  refine oM (.int .i64 p_1.1) rfl rfl ?_
  have hL_4 : SliceF F_5 h_7 1 encI ((bagAt r_4 p_1.1).1) ((bagAt r_4 p_1.1).2) := hN_2.at_ p_1.1
  refine oV ((bagAt r_4 p_1.1).1) ((q_lookup (k := p_1.1) ka_3 tmk_62 (hS.mp 2 rfl) rfl rfl).of_eq (bagAt_v _ _)) rfl ?_
  refine HO.call (want_none) rfl (ec en_58 rfl rfl) (slices_Equal_s_int_int_walk (fr := (Ow.own 3 1 encI vout_1 out_1 :: Ow.cur it_1 r_3 kI bagV r_2 rem_2 p_1 :: Ow.map r_5 kI bagV r_4 :: fr)) p_1.2.2 ((bagAt r_4 p_1.1).2) p_1.2.1 ((bagAt r_4 p_1.1).1) hS hL_3 hL_4 hM) ?_
  rintro _ h_14 ⟨F_8, r_7, rfl, hk, hS, _, _, hM⟩
  replace hK := hK.trans hk
  replace hL_a_Links := hL_a_Links.kp hk
  replace hL_b_Links := hL_b_Links.kp hk
  replace hN_1 := hN_1.kp hk
  replace hN_2 := hN_2.kp hk
  replace hN_6 := hN_6.kp hk
  refine oV (.bool (!r_7)) (q_not rfl) rfl ?_
  refine HO.nil (thenQ_normal (?_))
  refine HW.cond (!r_7) rfl (fun c_2 => ?_) (fun c_2 => ?_)
  ·
   replace hM := hM.1 c_2
   refine HW.region ?_
   refine oM (vout_1) rfl rfl ?_
   refine oM (.int .i64 p_1.1) rfl rfl ?_
   refine HO.eff (want_none) rfl (st_lit (enc := encI) (cells := #[.int .i64 p_1.1]) #[.int .i64 0] ([p_1.1] : List Int) hS tl_36 (by decide) (by decide) (by kernel_rfl) (by kernel_rfl) rfl (by intro x hx; rfl) rfl) ?_
   rintro _ h_15 ⟨b_4, rfl, hS, hk⟩
   replace hK := hK.trans hk
   replace hL_a_Links := hL_a_Links.kp hk
   replace hL_b_Links := hL_b_Links.kp hk
   replace hN_1 := hN_1.kp hk
   replace hN_2 := hN_2.kp hk
   replace hN_6 := hN_6.kp hk
   obtain ⟨ho_2, hM⟩ := hM
   refine HO.eff (want_none) rfl (st_append te_36 hS (i := 1) rfl (hS.own 0 rfl).slice rfl rfl rfl (by intro a _ u hu; simp [encI, encI, encN, encB, encT] at hu; subst hu; rfl) ho_2 (by omega)) ?_
   rintro v_2 h_16 ⟨hS, hk⟩
   replace hS : St F_8 (Ow.own 3 1 encI (.slice (some ⟨b_4, 0, none⟩) 1 1) ([p_1.1] : List Int) :: Ow.own 3 1 encI v_2 (out_1 ++ ([p_1.1] : List Int)) :: Ow.cur it_1 r_3 kI bagV r_2 rem_2 p_1 :: Ow.map r_5 kI bagV r_4 :: fr) h_16 := hS
   replace hK := hK.trans hk
   replace hL_a_Links := hL_a_Links.kp hk
   replace hL_b_Links := hL_b_Links.kp hk
   replace hN_1 := hN_1.kp hk
   replace hN_2 := hN_2.kp hk
   replace hN_6 := hN_6.kp hk
   refine oA (v_2) rfl rfl ?_
   refine HO.nil (blockQ_normal (thenQ_normal (?_)))
   replace hS := hS.again 2 rfl
   replace hS : St F_8 (Ow.own 3 1 encI (.slice (some ⟨b_4, 0, none⟩) 1 1) ([p_1.1] : List Int) :: Ow.own 3 1 encI v_2 (out_1 ++ ([p_1.1] : List Int)) :: Ow.iter it_1 r_3 kI bagV r_2 rem_2 :: Ow.map r_5 kI bagV r_4 :: fr) h_16 := hS
   replace hS : St F_8 (Ow.own 3 1 encI v_2 (out_1 ++ ([p_1.1] : List Int)) :: Ow.iter it_1 r_3 kI bagV r_2 rem_2 :: Ow.map r_5 kI bagV r_4 :: fr) h_16 := hS.perm2 [1, 2, 3] 4 rfl rfl
   rw [hKe_1] at hM
   exact ⟨(out_1 ++ ([p_1.1] : List Int), rem_2), ⟨F_8, v_2, rfl, rfl, rfl, rfl, rfl, hK, hS, hL_a_Links, hL_b_Links, hN_1, hN_2, hN_6, hM.1⟩, hM.2⟩
  ·
   replace hM := hM.2 c_2
   refine HW.skip (blockQ_normal (thenQ_normal (?_)))
   replace hS := hS.again 1 rfl
   replace hS : St F_8 (Ow.own 3 1 encI vout_1 out_1 :: Ow.iter it_1 r_3 kI bagV r_2 rem_2 :: Ow.map r_5 kI bagV r_4 :: fr) h_14 := hS
   rw [hKe_1] at hM
   exact ⟨(out_1, rem_2), ⟨F_8, vout_1, rfl, rfl, rfl, rfl, rfl, hK, hS, hL_a_Links, hL_b_Links, hN_1, hN_2, hN_6, hM.1⟩, hM.2⟩

def ref32_Changed_l2 (a_Root : Int) (a_Links : List T_api_Branch) (b_Root : Int) (b_Links : List T_api_Branch) (Q : (List Int) → Prop) (all_1 : List Int) (K_2 : (List Int) → Int → Prop) (out_1 : List Int) (i_2 : Int) : Prop :=
 (i_2 < (all_1.length : Int) → ((0 : Int) ≤ i_2 ∧ i_2 < (all_1.length : Int)) ∧ (ref32_Next_W a_Root a_Links (gi all_1 i_2) (fun r_3 => ref32_Next_W b_Root b_Links (gi all_1 i_2) (fun r_4 => ref32_SameInts_W r_3 r_4 (fun r_5 => ((!r_5) = true → ((out_1.length + ([(gi all_1 i_2)] : List Int).length) * 8 ≤ 140737488355328) ∧ ((I64 (i_2 + 1)) ∧ (K_2 (out_1 ++ ([(gi all_1 i_2)] : List Int)) (i_2 + 1)))) ∧ ((!r_5) = false → (I64 (i_2 + 1)) ∧ (K_2 out_1 (i_2 + 1)))))))) ∧ (¬ (i_2 < (all_1.length : Int)) → Q out_1)
def ref32_Changed_l1 (a_Root : Int) (a_Links : List T_api_Branch) (b_Root : Int) (b_Links : List T_api_Branch) (Q : (List Int) → Prop) (K_1 : (List Int) → Int → Prop) (all_1 : List Int) (i_1 : Int) : Prop :=
 (i_1 < (((([] : List T_api_Branch) ++ a_Links) ++ b_Links).length : Int) → ((0 : Int) ≤ i_1 ∧ i_1 < (((([] : List T_api_Branch) ++ a_Links) ++ b_Links).length : Int)) ∧ (ref32_Add_W all_1 ((gi ((([] : List T_api_Branch) ++ a_Links) ++ b_Links) i_1).1) (fun r_2 => (I64 (i_1 + 1)) ∧ (K_1 r_2 (i_1 + 1))))) ∧ (¬ (i_1 < (((([] : List T_api_Branch) ++ a_Links) ++ b_Links).length : Int)) → loopW (fun (K_2 : (List Int × Int) → Prop) (s : List Int × Int) => ref32_Changed_l2 a_Root a_Links b_Root b_Links Q all_1 (fun out_1 i_2 => K_2 (out_1, i_2)) s.1 s.2) ([], 0))
def ref32_Changed_j1 (a_Root : Int) (a_Links : List T_api_Branch) (b_Root : Int) (b_Links : List T_api_Branch) (Q : (List Int) → Prop) : Prop :=
 loopW (fun (K_1 : (List Int × Int) → Prop) (s : List Int × Int) => ref32_Changed_l1 a_Root a_Links b_Root b_Links Q (fun all_1 i_1 => K_1 (all_1, i_1)) s.1 s.2) ([], 0)
def ref32_Changed_W (a_Root : Int) (a_Links : List T_api_Branch) (b_Root : Int) (b_Links : List T_api_Branch) (Q : (List Int) → Prop) : Prop :=
 ((([] : List T_api_Branch).length + a_Links.length) * 16 ≤ 140737488355328) ∧ ((((([] : List T_api_Branch) ++ a_Links).length + b_Links.length) * 16 ≤ 140737488355328) ∧ (ref32_Changed_j1 a_Root a_Links b_Root b_Links Q))
set_option maxHeartbeats 40000000 in
set_option maxRecDepth 100000 in
theorem ref32_Changed_walk {F : Fz} {fr : List Ow} {h0 : Heap} (a_Root : Int) (a_Links : List T_api_Branch) (b_Root : Int) (b_Links : List T_api_Branch) (va_Links : Value) (vb_Links : Value) (hS : St F (fr) h0) (hL_a_Links : SliceF F h0 2 e_api_Branch va_Links a_Links) (hL_b_Links : SliceF F h0 2 e_api_Branch vb_Links b_Links) {Q : (List Int) → Prop} (hM : ref32_Changed_W a_Root a_Links b_Root b_Links Q) :
  HC Tryz.prog 36 #[.agg #[.int .i64 a_Root, va_Links], .agg #[.int .i64 b_Root, vb_Links]] h0 fun u h' => ∃ (F' : Fz) (r_1 : List Int) (vr_1 : Value), u = vr_1 ∧ Kp F h0 F' h' ∧ St F' (Ow.own 3 1 encI vr_1 r_1 :: fr) h' ∧ (SliceF F' h' 2 e_api_Branch va_Links a_Links) ∧ (SliceF F' h' 2 e_api_Branch vb_Links b_Links) ∧ Q r_1 := by
 unfold ref32_Changed_W at hM
 have hK := Kp.refl F h0
 refine HC.of_HW (n := 60) Tryz.func36 rfl rfl (Nat.le_of_ble_eq_true rfl) ?_
 refine HW.seq ?_
 refine HW.region ?_
 refine HO.eff (want_none) rfl (st_box (c := #[.int .i64 a_Root, va_Links]) (k' := 2) hS rfl rfl) ?_
 rintro _ h_1 ⟨b_1, rfl, hS, hk⟩
 replace hK := hK.trans hk
 replace hL_a_Links := hL_a_Links.kp hk
 replace hL_b_Links := hL_b_Links.kp hk
 refine HO.eff (want_none) rfl (st_box (c := #[.int .i64 b_Root, vb_Links]) (k' := 2) hS rfl rfl) ?_
 rintro _ h_2 ⟨b_2, rfl, hS, hk⟩
 replace hK := hK.trans hk
 replace hL_a_Links := hL_a_Links.kp hk
 replace hL_b_Links := hL_b_Links.kp hk
 refine oA (.slice none 0 0) rfl rfl ?_
 refine HO.nil (thenQ_normal (?_))
 refine HW.seq_mid (fun f h => ∃ (F' : Fz) (vl_1 : Value) (vall_1 : Value) (vout_1 : Value), f 2 = .pointer (some ⟨b_1, 0, none⟩) ∧ f 3 = .pointer (some ⟨b_2, 0, none⟩) ∧ f 4 = .slice none 0 0 ∧ f 5 = vl_1 ∧ f 6 = vall_1 ∧ f 7 = vout_1 ∧ Kp F h0 F' h ∧ St F' (Ow.box b_1 24 #[.int .i64 a_Root, va_Links] :: Ow.box b_2 24 #[.int .i64 b_Root, vb_Links] :: Ow.own 46 2 e_api_Branch vl_1 ((([] : List T_api_Branch) ++ a_Links) ++ b_Links) :: Ow.own 3 1 encI vall_1 ([] : List Int) :: Ow.own 3 1 encI vout_1 ([] : List Int) :: fr) h ∧ (SliceF F' h 2 e_api_Branch va_Links a_Links) ∧ (SliceF F' h 2 e_api_Branch vb_Links b_Links) ∧ ref32_Changed_j1 a_Root a_Links b_Root b_Links Q) ?_ ?_
 ·
  obtain ⟨ho_1, hM⟩ := hM
  obtain ⟨ho_2, hM⟩ := hM
  refine HW.regionA 12 mixed (fun h => (Blk h b_2 (.cells #[.int .i64 b_Root, vb_Links] 24 (0, 0))) ∧ (Blk h b_1 (.cells #[.int .i64 a_Root, va_Links] 24 (0, 0)))) [] (by kernel_rfl) ?_
  refine HA.val (k := 1) (v := .pointer (some ⟨b_1, 1, none⟩)) rfl rfl (by kernel_rfl) (by kernel_rfl) (want_none) rfl (fun _ ⟨c203, c202⟩ => q_fieldAddr fa_24_1 rfl rfl) ?_
  refine HA.val (k := 2) (v := va_Links) rfl rfl (by kernel_rfl) (by kernel_rfl) (want_none) rfl (fun _ ⟨c203, c202⟩ => q_load to_22 rfl (Blk.cell c202 rfl)) ?_
  refine HA.val (k := 4) (v := .pointer (some ⟨b_2, 1, none⟩)) rfl rfl (by kernel_rfl) (by kernel_rfl) (want_none) rfl (fun _ ⟨c203, c202⟩ => q_fieldAddr fa_24_1 rfl rfl) ?_
  refine HA.val (k := 5) (v := vb_Links) rfl rfl (by kernel_rfl) (by kernel_rfl) (want_none) rfl (fun _ ⟨c203, c202⟩ => q_load to_22 rfl (Blk.cell c203 rfl)) ?_
  refine HA.node (C1 := fun (i : Fz × Value × Value × Value) => match i with | (F', v_29, v_30, v_31) => fun h => (SliceIs h 2 e_api_Branch va_Links a_Links) ∧ (SliceIs h 2 e_api_Branch vb_Links b_Links) ∧ (OwnIs h 0 3 1 encI v_29 ([] : List Int)) ∧ (OwnIs h 0 3 1 encI v_30 ([] : List Int)) ∧ (OwnIs h 0 46 2 e_api_Branch v_31 ((([] : List T_api_Branch) ++ a_Links) ++ b_Links)) ∧ (Blk h b_2 (.cells #[.int .i64 b_Root, vb_Links] 24 (0, 0))) ∧ (Blk h b_1 (.cells #[.int .i64 a_Root, va_Links] 24 (0, 0)))) (cs1 := fun (i : Fz × Value × Value × Value) => match i with | (F', v_29, v_30, v_31) => []) (fuel1 := 0) (listed1 := #[true, true, true, true, true, true, true, true, true, true, true, true]) (fun (i : Fz × Value × Value × Value) f h => match i with | (F', v_29, v_30, v_31) => f 0 = .agg #[.int .i64 a_Root, va_Links] ∧ f 1 = .agg #[.int .i64 b_Root, vb_Links] ∧ f 2 = .pointer (some ⟨b_1, 0, none⟩) ∧ f 3 = .pointer (some ⟨b_2, 0, none⟩) ∧ f 4 = .slice none 0 0 ∧ f 5 = v_31 ∧ f 6 = v_30 ∧ f 7 = v_29 ∧ f 11 = .pointer (some ⟨b_1, 1, none⟩) ∧ f 12 = va_Links ∧ f 14 = .pointer (some ⟨b_2, 1, none⟩) ∧ f 15 = vb_Links ∧ f 16 = v_31 ∧ f 17 = v_30 ∧ f 18 = v_29 ∧ Kp F h0 F' h ∧ St F' (Ow.own 3 1 encI v_29 ([] : List Int) :: Ow.own 3 1 encI v_30 ([] : List Int) :: Ow.own 46 2 e_api_Branch v_31 ((([] : List T_api_Branch) ++ a_Links) ++ b_Links) :: Ow.box b_2 24 #[.int .i64 b_Root, vb_Links] :: Ow.box b_1 24 #[.int .i64 a_Root, va_Links] :: fr) h ∧ (SliceF F' h 2 e_api_Branch va_Links a_Links) ∧ (SliceF F' h 2 e_api_Branch vb_Links b_Links) ∧ ref32_Changed_j1 a_Root a_Links b_Root b_Links Q) ?_ (fun N_1 => ?_)
  ·
   rintro ⟨F_3, v_29, v_30, v_31⟩ f_3 h_33 ⟨e0, e1, e2, e3, e4, e5, e6, e7, e11, e12, e14, e15, e16, e17, e18, hK, hS, hL_a_Links, hL_b_Links, hM⟩
   refine HA.fr [(0, .agg #[.int .i64 a_Root, va_Links]), (1, .agg #[.int .i64 b_Root, vb_Links]), (2, .pointer (some ⟨b_1, 0, none⟩)), (3, .pointer (some ⟨b_2, 0, none⟩)), (4, .slice none 0 0), (5, v_31), (6, v_30), (7, v_29), (11, .pointer (some ⟨b_1, 1, none⟩)), (12, va_Links), (14, .pointer (some ⟨b_2, 1, none⟩)), (15, vb_Links), (16, v_31), (17, v_30), (18, v_29)] ⟨e0, e1, e2, e3, e4, e5, e6, e7, e11, e12, e14, e15, e16, e17, e18, trivial⟩ ?_
   refine HA.nil ⟨⟨hL_a_Links.is, hL_b_Links.is, (hS.own 0 rfl), (hS.own 1 rfl), (hS.own 2 rfl), (hS.box 3 rfl), (hS.box 4 rfl)⟩, (Go.Wk.at_nil _ _)⟩ (by kernel_rfl) (thenQ_normal (?_))
   replace hS : St F_3 (Ow.box b_1 24 #[.int .i64 a_Root, va_Links] :: Ow.box b_2 24 #[.int .i64 b_Root, vb_Links] :: Ow.own 46 2 e_api_Branch v_31 ((([] : List T_api_Branch) ++ a_Links) ++ b_Links) :: Ow.own 3 1 encI v_30 ([] : List Int) :: Ow.own 3 1 encI v_29 ([] : List Int) :: fr) h_33 := hS.perm2 [4, 3, 2, 1, 0] 5 rfl rfl
   exact ⟨F_3, v_31, v_30, v_29, rfl, rfl, rfl, rfl, rfl, rfl, hK, hS, hL_a_Links, hL_b_Links, hM⟩
  refine HA.node (C1 := fun (i : Fz × Value × Value) => match i with | (F', v_27, v_28) => fun h => (SliceIs h 2 e_api_Branch va_Links a_Links) ∧ (SliceIs h 2 e_api_Branch vb_Links b_Links) ∧ (OwnIs h 0 3 1 encI v_27 ([] : List Int)) ∧ (OwnIs h 0 46 2 e_api_Branch v_28 ((([] : List T_api_Branch) ++ a_Links) ++ b_Links)) ∧ (Blk h b_2 (.cells #[.int .i64 b_Root, vb_Links] 24 (0, 0))) ∧ (Blk h b_1 (.cells #[.int .i64 a_Root, va_Links] 24 (0, 0)))) (cs1 := fun (i : Fz × Value × Value) => match i with | (F', v_27, v_28) => []) (fuel1 := 2) (listed1 := #[true, true, true, true, true, true, true, true, false, true, true, false]) (fun (i : Fz × Value × Value) f h => match i with | (F', v_27, v_28) => f 0 = .agg #[.int .i64 a_Root, va_Links] ∧ f 1 = .agg #[.int .i64 b_Root, vb_Links] ∧ f 2 = .pointer (some ⟨b_1, 0, none⟩) ∧ f 3 = .pointer (some ⟨b_2, 0, none⟩) ∧ f 4 = .slice none 0 0 ∧ f 5 = v_28 ∧ f 6 = v_27 ∧ f 11 = .pointer (some ⟨b_1, 1, none⟩) ∧ f 12 = va_Links ∧ f 14 = .pointer (some ⟨b_2, 1, none⟩) ∧ f 15 = vb_Links ∧ f 16 = v_28 ∧ f 17 = v_27 ∧ Kp F h0 F' h ∧ St F' (Ow.own 3 1 encI v_27 ([] : List Int) :: Ow.own 46 2 e_api_Branch v_28 ((([] : List T_api_Branch) ++ a_Links) ++ b_Links) :: Ow.box b_2 24 #[.int .i64 b_Root, vb_Links] :: Ow.box b_1 24 #[.int .i64 a_Root, va_Links] :: fr) h ∧ (SliceF F' h 2 e_api_Branch va_Links a_Links) ∧ (SliceF F' h 2 e_api_Branch vb_Links b_Links) ∧ ref32_Changed_j1 a_Root a_Links b_Root b_Links Q) ?_ (fun N_2 => ?_)
  ·
   rintro ⟨F_6, v_27, v_28⟩ f_6 h_37 ⟨e0, e1, e2, e3, e4, e5, e6, e11, e12, e14, e15, e16, e17, hK, hS, hL_a_Links, hL_b_Links, hM⟩
   refine HA.fr [(0, .agg #[.int .i64 a_Root, va_Links]), (1, .agg #[.int .i64 b_Root, vb_Links]), (2, .pointer (some ⟨b_1, 0, none⟩)), (3, .pointer (some ⟨b_2, 0, none⟩)), (4, .slice none 0 0), (5, v_28), (6, v_27), (11, .pointer (some ⟨b_1, 1, none⟩)), (12, va_Links), (14, .pointer (some ⟨b_2, 1, none⟩)), (15, vb_Links), (16, v_28), (17, v_27)] ⟨e0, e1, e2, e3, e4, e5, e6, e11, e12, e14, e15, e16, e17, trivial⟩ ?_
   refine HA.one (k := 8) ⟨⟨hL_a_Links.is, hL_b_Links.is, (hS.own 0 rfl), (hS.own 1 rfl), (hS.box 2 rfl), (hS.box 3 rfl)⟩, (Go.Wk.at_nil _ _)⟩ (by kernel_rfl) ?_
   refine HS.eff rfl (want_none) rfl (st_litEmpty (α := Int) encI hS tl_36) ?_
   rintro _ h_38 ⟨b_24, rfl, hS, hk⟩
   replace hK := hK.trans hk
   replace hL_a_Links := hL_a_Links.kp hk
   replace hL_b_Links := hL_b_Links.kp hk
   refine HA.val (k := 11) (v := .slice (some ⟨b_24, 0, none⟩) 0 0) rfl rfl (by kernel_rfl) (by kernel_rfl) (want_none) rfl (fun _ ⟨hL_a_Links, hL_b_Links, c251, c209, c203, c202⟩ => q_assign rfl) ?_
   exact Go.Wk.HA.via (N_1 (F_6, .slice (some ⟨b_24, 0, none⟩) 0 0, v_27, v_28) _ _ ⟨rfl, rfl, rfl, rfl, rfl, rfl, rfl, rfl, rfl, rfl, rfl, rfl, rfl, rfl, rfl, hK, hS, hL_a_Links, hL_b_Links, hM⟩) (fun L_ h_ hL_ ⟨hL_a_Links, hL_b_Links, c257, c251, c209, c203, c202⟩ hs_ => ⟨⟨hL_a_Links, hL_b_Links, c251, c209, c203, c202⟩, (Go.Wk.at_nil _ _)⟩)
  refine HA.node (C1 := fun (i : Fz × Value × Value) => match i with | (F', v_25, v_26) => fun h => (SliceIs h 2 e_api_Branch va_Links a_Links) ∧ (SliceIs h 2 e_api_Branch vb_Links b_Links) ∧ (OwnIs h 0 3 1 encI v_25 ([] : List Int)) ∧ (OwnIs h 0 46 2 e_api_Branch v_26 ((([] : List T_api_Branch) ++ a_Links) ++ b_Links)) ∧ (Blk h b_2 (.cells #[.int .i64 b_Root, vb_Links] 24 (0, 0))) ∧ (Blk h b_1 (.cells #[.int .i64 a_Root, va_Links] 24 (0, 0)))) (cs1 := fun (i : Fz × Value × Value) => match i with | (F', v_25, v_26) => []) (fuel1 := 3) (listed1 := #[true, true, true, true, true, true, true, false, true, true, false, false]) (fun (i : Fz × Value × Value) f h => match i with | (F', v_25, v_26) => f 0 = .agg #[.int .i64 a_Root, va_Links] ∧ f 1 = .agg #[.int .i64 b_Root, vb_Links] ∧ f 2 = .pointer (some ⟨b_1, 0, none⟩) ∧ f 3 = .pointer (some ⟨b_2, 0, none⟩) ∧ f 4 = .slice none 0 0 ∧ f 5 = v_26 ∧ f 11 = .pointer (some ⟨b_1, 1, none⟩) ∧ f 12 = va_Links ∧ f 14 = .pointer (some ⟨b_2, 1, none⟩) ∧ f 15 = vb_Links ∧ f 16 = v_26 ∧ f 18 = v_25 ∧ Kp F h0 F' h ∧ St F' (Ow.own 3 1 encI v_25 ([] : List Int) :: Ow.own 46 2 e_api_Branch v_26 ((([] : List T_api_Branch) ++ a_Links) ++ b_Links) :: Ow.box b_2 24 #[.int .i64 b_Root, vb_Links] :: Ow.box b_1 24 #[.int .i64 a_Root, va_Links] :: fr) h ∧ (SliceF F' h 2 e_api_Branch va_Links a_Links) ∧ (SliceF F' h 2 e_api_Branch vb_Links b_Links) ∧ ref32_Changed_j1 a_Root a_Links b_Root b_Links Q) ?_ (fun N_3 => ?_)
  ·
   rintro ⟨F_9, v_25, v_26⟩ f_9 h_42 ⟨e0, e1, e2, e3, e4, e5, e11, e12, e14, e15, e16, e18, hK, hS, hL_a_Links, hL_b_Links, hM⟩
   refine HA.fr [(0, .agg #[.int .i64 a_Root, va_Links]), (1, .agg #[.int .i64 b_Root, vb_Links]), (2, .pointer (some ⟨b_1, 0, none⟩)), (3, .pointer (some ⟨b_2, 0, none⟩)), (4, .slice none 0 0), (5, v_26), (11, .pointer (some ⟨b_1, 1, none⟩)), (12, va_Links), (14, .pointer (some ⟨b_2, 1, none⟩)), (15, vb_Links), (16, v_26), (18, v_25)] ⟨e0, e1, e2, e3, e4, e5, e11, e12, e14, e15, e16, e18, trivial⟩ ?_
   refine HA.one (k := 7) ⟨⟨hL_a_Links.is, hL_b_Links.is, (hS.own 0 rfl), (hS.own 1 rfl), (hS.box 2 rfl), (hS.box 3 rfl)⟩, (Go.Wk.at_nil _ _)⟩ (by kernel_rfl) ?_
   refine HS.eff rfl (want_none) rfl (st_litEmpty (α := Int) encI hS tl_36) ?_
   rintro _ h_43 ⟨b_26, rfl, hS, hk⟩
   replace hK := hK.trans hk
   replace hL_a_Links := hL_a_Links.kp hk
   replace hL_b_Links := hL_b_Links.kp hk
   refine HA.val (k := 10) (v := .slice (some ⟨b_26, 0, none⟩) 0 0) rfl rfl (by kernel_rfl) (by kernel_rfl) (want_none) rfl (fun _ ⟨hL_a_Links, hL_b_Links, c257, c209, c203, c202⟩ => q_assign rfl) ?_
   refine HA.val (k := 11) (v := v_25) rfl rfl (by kernel_rfl) (by kernel_rfl) (want_none) rfl (fun _ ⟨hL_a_Links, hL_b_Links, c257, c209, c203, c202⟩ => q_assign rfl) ?_
   replace hS : St F_9 (Ow.own 3 1 encI v_25 ([] : List Int) :: Ow.own 3 1 encI (.slice (some ⟨b_26, 0, none⟩) 0 0) ([] : List Int) :: Ow.own 46 2 e_api_Branch v_26 ((([] : List T_api_Branch) ++ a_Links) ++ b_Links) :: Ow.box b_2 24 #[.int .i64 b_Root, vb_Links] :: Ow.box b_1 24 #[.int .i64 a_Root, va_Links] :: fr) h_43 := hS.perm2 [1, 0, 2, 3, 4] 5 rfl rfl
   exact Go.Wk.HA.via (N_1 (F_9, v_25, .slice (some ⟨b_26, 0, none⟩) 0 0, v_26) _ _ ⟨rfl, rfl, rfl, rfl, rfl, rfl, rfl, rfl, rfl, rfl, rfl, rfl, rfl, rfl, rfl, hK, hS, hL_a_Links, hL_b_Links, hM⟩) (fun L_ h_ hL_ ⟨hL_a_Links, hL_b_Links, c257, c251, c209, c203, c202⟩ hs_ => ⟨⟨hL_a_Links, hL_b_Links, c257, c209, c203, c202⟩, (Go.Wk.at_nil _ _)⟩)
  refine HA.node (C1 := fun (i : Fz × Value × Value × Value) => match i with | (F', v_21, v_22, v_23) => fun h => (SliceIs h 2 e_api_Branch va_Links a_Links) ∧ (SliceIs h 2 e_api_Branch vb_Links b_Links) ∧ (OwnIs h 0 3 1 encI v_21 ([] : List Int)) ∧ (OwnIs h 0 3 1 encI v_22 ([] : List Int)) ∧ (Blk h b_2 (.cells #[.int .i64 b_Root, vb_Links] 24 (0, 0))) ∧ (Blk h b_1 (.cells #[.int .i64 a_Root, va_Links] 24 (0, 0)))) (cs1 := fun (i : Fz × Value × Value × Value) => match i with | (F', v_21, v_22, v_23) => [(6, fun h => (OwnIs h 0 46 2 e_api_Branch v_23 (([] : List T_api_Branch) ++ a_Links)))]) (fuel1 := 4) (listed1 := #[true, true, true, true, true, true, false, true, true, false, false, false]) (fun (i : Fz × Value × Value × Value) f h => match i with | (F', v_21, v_22, v_23) => f 0 = .agg #[.int .i64 a_Root, va_Links] ∧ f 1 = .agg #[.int .i64 b_Root, vb_Links] ∧ f 2 = .pointer (some ⟨b_1, 0, none⟩) ∧ f 3 = .pointer (some ⟨b_2, 0, none⟩) ∧ f 4 = .slice none 0 0 ∧ f 11 = .pointer (some ⟨b_1, 1, none⟩) ∧ f 12 = va_Links ∧ f 13 = v_23 ∧ f 14 = .pointer (some ⟨b_2, 1, none⟩) ∧ f 15 = vb_Links ∧ f 17 = v_22 ∧ f 18 = v_21 ∧ Kp F h0 F' h ∧ St F' (Ow.own 3 1 encI v_21 ([] : List Int) :: Ow.own 3 1 encI v_22 ([] : List Int) :: Ow.own 46 2 e_api_Branch v_23 (([] : List T_api_Branch) ++ a_Links) :: Ow.box b_2 24 #[.int .i64 b_Root, vb_Links] :: Ow.box b_1 24 #[.int .i64 a_Root, va_Links] :: fr) h ∧ (SliceF F' h 2 e_api_Branch va_Links a_Links) ∧ (SliceF F' h 2 e_api_Branch vb_Links b_Links) ∧ ref32_Changed_j1 a_Root a_Links b_Root b_Links Q) ?_ (fun N_4 => ?_)
  ·
   rintro ⟨F_12, v_21, v_22, v_23⟩ f_12 h_47 ⟨e0, e1, e2, e3, e4, e11, e12, e13, e14, e15, e17, e18, hK, hS, hL_a_Links, hL_b_Links, hM⟩
   refine HA.fr [(0, .agg #[.int .i64 a_Root, va_Links]), (1, .agg #[.int .i64 b_Root, vb_Links]), (2, .pointer (some ⟨b_1, 0, none⟩)), (3, .pointer (some ⟨b_2, 0, none⟩)), (4, .slice none 0 0), (11, .pointer (some ⟨b_1, 1, none⟩)), (12, va_Links), (13, v_23), (14, .pointer (some ⟨b_2, 1, none⟩)), (15, vb_Links), (17, v_22), (18, v_21)] ⟨e0, e1, e2, e3, e4, e11, e12, e13, e14, e15, e17, e18, trivial⟩ ?_
   refine HA.one (k := 6) ⟨⟨hL_a_Links.is, hL_b_Links.is, (hS.own 0 rfl), (hS.own 1 rfl), (hS.box 3 rfl), (hS.box 4 rfl)⟩, (at_now (hS.own 2 rfl) (Go.Wk.at_nil _ _))⟩ (by kernel_rfl) ?_
   refine HS.eff rfl (want_none) rfl (st_append te_22 hS (i := 2) rfl hL_b_Links.is rfl rfl rfl (by intro a _ u hu; simp [e_api_Branch, encI, encN, encB, encT] at hu; rcases hu with rfl | rfl <;> rfl) ho_2 (by omega)) ?_
   rintro v_33 h_48 ⟨hS, hk⟩
   replace hS : St F_12 (Ow.own 3 1 encI v_21 ([] : List Int) :: Ow.own 3 1 encI v_22 ([] : List Int) :: Ow.own 46 2 e_api_Branch v_33 ((([] : List T_api_Branch) ++ a_Links) ++ b_Links) :: Ow.box b_2 24 #[.int .i64 b_Root, vb_Links] :: Ow.box b_1 24 #[.int .i64 a_Root, va_Links] :: fr) h_48 := hS
   replace hK := hK.trans hk
   replace hL_a_Links := hL_a_Links.kp hk
   replace hL_b_Links := hL_b_Links.kp hk
   refine HA.val (k := 9) (v := v_33) rfl rfl (by kernel_rfl) (by kernel_rfl) (want_none) rfl (fun _ ⟨hL_a_Links, hL_b_Links, c257, c251, c203, c202⟩ => q_assign rfl) ?_
   refine HA.val (k := 10) (v := v_22) rfl rfl (by kernel_rfl) (by kernel_rfl) (want_none) rfl (fun _ ⟨hL_a_Links, hL_b_Links, c257, c251, c203, c202⟩ => q_assign rfl) ?_
   refine HA.val (k := 11) (v := v_21) rfl rfl (by kernel_rfl) (by kernel_rfl) (want_none) rfl (fun _ ⟨hL_a_Links, hL_b_Links, c257, c251, c203, c202⟩ => q_assign rfl) ?_
   exact Go.Wk.HA.via (N_1 (F_12, v_21, v_22, v_33) _ _ ⟨rfl, rfl, rfl, rfl, rfl, rfl, rfl, rfl, rfl, rfl, rfl, rfl, rfl, rfl, rfl, hK, hS, hL_a_Links, hL_b_Links, hM⟩) (fun L_ h_ hL_ ⟨hL_a_Links, hL_b_Links, c257, c251, c209, c203, c202⟩ hs_ => ⟨⟨hL_a_Links, hL_b_Links, c257, c251, c203, c202⟩, (at_gone hL_ (by kernel_rfl) (Go.Wk.at_nil _ _))⟩)
  refine HA.node (C1 := fun (i : Fz × Value × Value) => match i with | (F', v_11, v_12) => fun h => (SliceIs h 2 e_api_Branch va_Links a_Links) ∧ (SliceIs h 2 e_api_Branch vb_Links b_Links) ∧ (OwnIs h 0 3 1 encI v_11 ([] : List Int)) ∧ (Blk h b_2 (.cells #[.int .i64 b_Root, vb_Links] 24 (0, 0))) ∧ (Blk h b_1 (.cells #[.int .i64 a_Root, va_Links] 24 (0, 0)))) (cs1 := fun (i : Fz × Value × Value) => match i with | (F', v_11, v_12) => [(6, fun h => (OwnIs h 0 46 2 e_api_Branch v_12 (([] : List T_api_Branch) ++ a_Links)))]) (fuel1 := 5) (listed1 := #[true, true, true, true, true, true, false, true, false, false, false, false]) (fun (i : Fz × Value × Value) f h => match i with | (F', v_11, v_12) => f 0 = .agg #[.int .i64 a_Root, va_Links] ∧ f 1 = .agg #[.int .i64 b_Root, vb_Links] ∧ f 2 = .pointer (some ⟨b_1, 0, none⟩) ∧ f 3 = .pointer (some ⟨b_2, 0, none⟩) ∧ f 4 = .slice none 0 0 ∧ f 11 = .pointer (some ⟨b_1, 1, none⟩) ∧ f 12 = va_Links ∧ f 13 = v_12 ∧ f 14 = .pointer (some ⟨b_2, 1, none⟩) ∧ f 15 = vb_Links ∧ f 17 = v_11 ∧ Kp F h0 F' h ∧ St F' (Ow.own 3 1 encI v_11 ([] : List Int) :: Ow.own 46 2 e_api_Branch v_12 (([] : List T_api_Branch) ++ a_Links) :: Ow.box b_2 24 #[.int .i64 b_Root, vb_Links] :: Ow.box b_1 24 #[.int .i64 a_Root, va_Links] :: fr) h ∧ (SliceF F' h 2 e_api_Branch va_Links a_Links) ∧ (SliceF F' h 2 e_api_Branch vb_Links b_Links) ∧ ref32_Changed_j1 a_Root a_Links b_Root b_Links Q) ?_ (fun N_5 => ?_)
  ·
   rintro ⟨F_15, v_11, v_12⟩ f_15 h_53 ⟨e0, e1, e2, e3, e4, e11, e12, e13, e14, e15, e17, hK, hS, hL_a_Links, hL_b_Links, hM⟩
   refine HA.fr [(0, .agg #[.int .i64 a_Root, va_Links]), (1, .agg #[.int .i64 b_Root, vb_Links]), (2, .pointer (some ⟨b_1, 0, none⟩)), (3, .pointer (some ⟨b_2, 0, none⟩)), (4, .slice none 0 0), (11, .pointer (some ⟨b_1, 1, none⟩)), (12, va_Links), (13, v_12), (14, .pointer (some ⟨b_2, 1, none⟩)), (15, vb_Links), (17, v_11)] ⟨e0, e1, e2, e3, e4, e11, e12, e13, e14, e15, e17, trivial⟩ ?_
   refine HA.two (k := 6) (k' := 8) ⟨⟨hL_a_Links.is, hL_b_Links.is, (hS.own 0 rfl), (hS.box 2 rfl), (hS.box 3 rfl)⟩, (at_now (hS.own 1 rfl) (Go.Wk.at_nil _ _))⟩ (by kernel_rfl) ?_ ?_
   ·
    refine HS.eff rfl (want_none) rfl (st_append te_22 hS (i := 1) rfl hL_b_Links.is rfl rfl rfl (by intro a _ u hu; simp [e_api_Branch, encI, encN, encB, encT] at hu; rcases hu with rfl | rfl <;> rfl) ho_2 (by omega)) ?_
    rintro v_35 h_54 ⟨hS, hk⟩
    replace hS : St F_15 (Ow.own 3 1 encI v_11 ([] : List Int) :: Ow.own 46 2 e_api_Branch v_35 ((([] : List T_api_Branch) ++ a_Links) ++ b_Links) :: Ow.box b_2 24 #[.int .i64 b_Root, vb_Links] :: Ow.box b_1 24 #[.int .i64 a_Root, va_Links] :: fr) h_54 := hS
    replace hK := hK.trans hk
    replace hL_a_Links := hL_a_Links.kp hk
    replace hL_b_Links := hL_b_Links.kp hk
    refine HA.val (k := 9) (v := v_35) rfl rfl (by kernel_rfl) (by kernel_rfl) (want_none) rfl (fun _ ⟨hL_a_Links, hL_b_Links, c251, c203, c202⟩ => q_assign rfl) ?_
    refine HA.val (k := 10) (v := v_11) rfl rfl (by kernel_rfl) (by kernel_rfl) (want_none) rfl (fun _ ⟨hL_a_Links, hL_b_Links, c251, c203, c202⟩ => q_assign rfl) ?_
    exact Go.Wk.HA.via (N_2 (F_15, v_11, v_35) _ _ ⟨rfl, rfl, rfl, rfl, rfl, rfl, rfl, rfl, rfl, rfl, rfl, rfl, rfl, hK, hS, hL_a_Links, hL_b_Links, hM⟩) (fun L_ h_ hL_ ⟨hL_a_Links, hL_b_Links, c251, c209, c203, c202⟩ hs_ => ⟨⟨hL_a_Links, hL_b_Links, c251, c203, c202⟩, (at_gone hL_ (by kernel_rfl) (Go.Wk.at_nil _ _))⟩)
   ·
    refine HS.eff rfl (want_none) rfl (st_litEmpty (α := Int) encI hS tl_36) ?_
    rintro _ h_55 ⟨b_28, rfl, hS, hk⟩
    replace hK := hK.trans hk
    replace hL_a_Links := hL_a_Links.kp hk
    replace hL_b_Links := hL_b_Links.kp hk
    exact Go.Wk.HA.via (N_4 (F_15, .slice (some ⟨b_28, 0, none⟩) 0 0, v_11, v_12) _ _ ⟨rfl, rfl, rfl, rfl, rfl, rfl, rfl, rfl, rfl, rfl, rfl, rfl, hK, hS, hL_a_Links, hL_b_Links, hM⟩) (fun L_ h_ hL_ ⟨hL_a_Links, hL_b_Links, c257, c251, c203, c202⟩ hs_ => ⟨⟨hL_a_Links, hL_b_Links, c251, c203, c202⟩, (at_keep 0 rfl hs_ (fun c209 => c209) (Go.Wk.at_nil _ _))⟩)
  refine HA.node (C1 := fun (i : Fz × Value × Value) => match i with | (F', v_14, v_15) => fun h => (SliceIs h 2 e_api_Branch va_Links a_Links) ∧ (SliceIs h 2 e_api_Branch vb_Links b_Links) ∧ (OwnIs h 0 3 1 encI v_14 ([] : List Int)) ∧ (Blk h b_2 (.cells #[.int .i64 b_Root, vb_Links] 24 (0, 0))) ∧ (Blk h b_1 (.cells #[.int .i64 a_Root, va_Links] 24 (0, 0)))) (cs1 := fun (i : Fz × Value × Value) => match i with | (F', v_14, v_15) => [(6, fun h => (OwnIs h 0 46 2 e_api_Branch v_15 (([] : List T_api_Branch) ++ a_Links)))]) (fuel1 := 5) (listed1 := #[true, true, true, true, true, true, false, false, true, false, false, false]) (fun (i : Fz × Value × Value) f h => match i with | (F', v_14, v_15) => f 0 = .agg #[.int .i64 a_Root, va_Links] ∧ f 1 = .agg #[.int .i64 b_Root, vb_Links] ∧ f 2 = .pointer (some ⟨b_1, 0, none⟩) ∧ f 3 = .pointer (some ⟨b_2, 0, none⟩) ∧ f 4 = .slice none 0 0 ∧ f 11 = .pointer (some ⟨b_1, 1, none⟩) ∧ f 12 = va_Links ∧ f 13 = v_15 ∧ f 14 = .pointer (some ⟨b_2, 1, none⟩) ∧ f 15 = vb_Links ∧ f 18 = v_14 ∧ Kp F h0 F' h ∧ St F' (Ow.own 3 1 encI v_14 ([] : List Int) :: Ow.own 46 2 e_api_Branch v_15 (([] : List T_api_Branch) ++ a_Links) :: Ow.box b_2 24 #[.int .i64 b_Root, vb_Links] :: Ow.box b_1 24 #[.int .i64 a_Root, va_Links] :: fr) h ∧ (SliceF F' h 2 e_api_Branch va_Links a_Links) ∧ (SliceF F' h 2 e_api_Branch vb_Links b_Links) ∧ ref32_Changed_j1 a_Root a_Links b_Root b_Links Q) ?_ (fun N_6 => ?_)
  ·
   rintro ⟨F_18, v_14, v_15⟩ f_18 h_60 ⟨e0, e1, e2, e3, e4, e11, e12, e13, e14, e15, e18, hK, hS, hL_a_Links, hL_b_Links, hM⟩
   refine HA.fr [(0, .agg #[.int .i64 a_Root, va_Links]), (1, .agg #[.int .i64 b_Root, vb_Links]), (2, .pointer (some ⟨b_1, 0, none⟩)), (3, .pointer (some ⟨b_2, 0, none⟩)), (4, .slice none 0 0), (11, .pointer (some ⟨b_1, 1, none⟩)), (12, va_Links), (13, v_15), (14, .pointer (some ⟨b_2, 1, none⟩)), (15, vb_Links), (18, v_14)] ⟨e0, e1, e2, e3, e4, e11, e12, e13, e14, e15, e18, trivial⟩ ?_
   refine HA.two (k := 6) (k' := 7) ⟨⟨hL_a_Links.is, hL_b_Links.is, (hS.own 0 rfl), (hS.box 2 rfl), (hS.box 3 rfl)⟩, (at_now (hS.own 1 rfl) (Go.Wk.at_nil _ _))⟩ (by kernel_rfl) ?_ ?_
   ·
    refine HS.eff rfl (want_none) rfl (st_append te_22 hS (i := 1) rfl hL_b_Links.is rfl rfl rfl (by intro a _ u hu; simp [e_api_Branch, encI, encN, encB, encT] at hu; rcases hu with rfl | rfl <;> rfl) ho_2 (by omega)) ?_
    rintro v_37 h_61 ⟨hS, hk⟩
    replace hS : St F_18 (Ow.own 3 1 encI v_14 ([] : List Int) :: Ow.own 46 2 e_api_Branch v_37 ((([] : List T_api_Branch) ++ a_Links) ++ b_Links) :: Ow.box b_2 24 #[.int .i64 b_Root, vb_Links] :: Ow.box b_1 24 #[.int .i64 a_Root, va_Links] :: fr) h_61 := hS
    replace hK := hK.trans hk
    replace hL_a_Links := hL_a_Links.kp hk
    replace hL_b_Links := hL_b_Links.kp hk
    refine HA.val (k := 9) (v := v_37) rfl rfl (by kernel_rfl) (by kernel_rfl) (want_none) rfl (fun _ ⟨hL_a_Links, hL_b_Links, c257, c203, c202⟩ => q_assign rfl) ?_
    exact Go.Wk.HA.via (N_3 (F_18, v_14, v_37) _ _ ⟨rfl, rfl, rfl, rfl, rfl, rfl, rfl, rfl, rfl, rfl, rfl, rfl, hK, hS, hL_a_Links, hL_b_Links, hM⟩) (fun L_ h_ hL_ ⟨hL_a_Links, hL_b_Links, c257, c209, c203, c202⟩ hs_ => ⟨⟨hL_a_Links, hL_b_Links, c257, c203, c202⟩, (at_gone hL_ (by kernel_rfl) (Go.Wk.at_nil _ _))⟩)
   ·
    refine HS.eff rfl (want_none) rfl (st_litEmpty (α := Int) encI hS tl_36) ?_
    rintro _ h_62 ⟨b_30, rfl, hS, hk⟩
    replace hK := hK.trans hk
    replace hL_a_Links := hL_a_Links.kp hk
    replace hL_b_Links := hL_b_Links.kp hk
    replace hS : St F_18 (Ow.own 3 1 encI v_14 ([] : List Int) :: Ow.own 3 1 encI (.slice (some ⟨b_30, 0, none⟩) 0 0) ([] : List Int) :: Ow.own 46 2 e_api_Branch v_15 (([] : List T_api_Branch) ++ a_Links) :: Ow.box b_2 24 #[.int .i64 b_Root, vb_Links] :: Ow.box b_1 24 #[.int .i64 a_Root, va_Links] :: fr) h_62 := hS.perm2 [1, 0, 2, 3, 4] 5 rfl rfl
    exact Go.Wk.HA.via (N_4 (F_18, v_14, .slice (some ⟨b_30, 0, none⟩) 0 0, v_15) _ _ ⟨rfl, rfl, rfl, rfl, rfl, rfl, rfl, rfl, rfl, rfl, rfl, rfl, hK, hS, hL_a_Links, hL_b_Links, hM⟩) (fun L_ h_ hL_ ⟨hL_a_Links, hL_b_Links, c257, c251, c203, c202⟩ hs_ => ⟨⟨hL_a_Links, hL_b_Links, c257, c203, c202⟩, (at_keep 0 rfl hs_ (fun c209 => c209) (Go.Wk.at_nil _ _))⟩)
  refine HA.node (C1 := fun (i : Fz × Value × Value × Value) => match i with | (F', v_17, v_18, v_19) => fun h => (SliceIs h 2 e_api_Branch va_Links a_Links) ∧ (SliceIs h 2 e_api_Branch vb_Links b_Links) ∧ (OwnIs h 0 3 1 encI v_17 ([] : List Int)) ∧ (OwnIs h 0 3 1 encI v_18 ([] : List Int)) ∧ (Blk h b_2 (.cells #[.int .i64 b_Root, vb_Links] 24 (0, 0))) ∧ (Blk h b_1 (.cells #[.int .i64 a_Root, va_Links] 24 (0, 0)))) (cs1 := fun (i : Fz × Value × Value × Value) => match i with | (F', v_17, v_18, v_19) => [(3, fun h => (OwnIs h 0 46 2 e_api_Branch v_19 ([] : List T_api_Branch)))]) (fuel1 := 5) (listed1 := #[true, true, true, false, true, true, false, true, true, false, false, false]) (fun (i : Fz × Value × Value × Value) f h => match i with | (F', v_17, v_18, v_19) => f 0 = .agg #[.int .i64 a_Root, va_Links] ∧ f 1 = .agg #[.int .i64 b_Root, vb_Links] ∧ f 2 = .pointer (some ⟨b_1, 0, none⟩) ∧ f 3 = .pointer (some ⟨b_2, 0, none⟩) ∧ f 4 = .slice none 0 0 ∧ f 10 = v_19 ∧ f 11 = .pointer (some ⟨b_1, 1, none⟩) ∧ f 12 = va_Links ∧ f 14 = .pointer (some ⟨b_2, 1, none⟩) ∧ f 15 = vb_Links ∧ f 17 = v_18 ∧ f 18 = v_17 ∧ Kp F h0 F' h ∧ St F' (Ow.own 3 1 encI v_17 ([] : List Int) :: Ow.own 3 1 encI v_18 ([] : List Int) :: Ow.own 46 2 e_api_Branch v_19 ([] : List T_api_Branch) :: Ow.box b_2 24 #[.int .i64 b_Root, vb_Links] :: Ow.box b_1 24 #[.int .i64 a_Root, va_Links] :: fr) h ∧ (SliceF F' h 2 e_api_Branch va_Links a_Links) ∧ (SliceF F' h 2 e_api_Branch vb_Links b_Links) ∧ ref32_Changed_j1 a_Root a_Links b_Root b_Links Q) ?_ (fun N_7 => ?_)
  ·
   rintro ⟨F_21, v_17, v_18, v_19⟩ f_21 h_66 ⟨e0, e1, e2, e3, e4, e10, e11, e12, e14, e15, e17, e18, hK, hS, hL_a_Links, hL_b_Links, hM⟩
   refine HA.fr [(0, .agg #[.int .i64 a_Root, va_Links]), (1, .agg #[.int .i64 b_Root, vb_Links]), (2, .pointer (some ⟨b_1, 0, none⟩)), (3, .pointer (some ⟨b_2, 0, none⟩)), (4, .slice none 0 0), (10, v_19), (11, .pointer (some ⟨b_1, 1, none⟩)), (12, va_Links), (14, .pointer (some ⟨b_2, 1, none⟩)), (15, vb_Links), (17, v_18), (18, v_17)] ⟨e0, e1, e2, e3, e4, e10, e11, e12, e14, e15, e17, e18, trivial⟩ ?_
   refine HA.one (k := 3) ⟨⟨hL_a_Links.is, hL_b_Links.is, (hS.own 0 rfl), (hS.own 1 rfl), (hS.box 3 rfl), (hS.box 4 rfl)⟩, (at_now (hS.own 2 rfl) (Go.Wk.at_nil _ _))⟩ (by kernel_rfl) ?_
   refine HS.eff rfl (want_none) rfl (st_append te_22 hS (i := 2) rfl hL_a_Links.is rfl rfl rfl (by intro a _ u hu; simp [e_api_Branch, encI, encN, encB, encT] at hu; rcases hu with rfl | rfl <;> rfl) ho_1 (by omega)) ?_
   rintro v_39 h_67 ⟨hS, hk⟩
   replace hS : St F_21 (Ow.own 3 1 encI v_17 ([] : List Int) :: Ow.own 3 1 encI v_18 ([] : List Int) :: Ow.own 46 2 e_api_Branch v_39 (([] : List T_api_Branch) ++ a_Links) :: Ow.box b_2 24 #[.int .i64 b_Root, vb_Links] :: Ow.box b_1 24 #[.int .i64 a_Root, va_Links] :: fr) h_67 := hS
   replace hK := hK.trans hk
   replace hL_a_Links := hL_a_Links.kp hk
   replace hL_b_Links := hL_b_Links.kp hk
   refine Go.Wk.HA.re (fun h => (SliceIs h 2 e_api_Branch va_Links a_Links) ∧ (SliceIs h 2 e_api_Branch vb_Links b_Links) ∧ (OwnIs h 0 3 1 encI v_17 ([] : List Int)) ∧ (OwnIs h 0 3 1 encI v_18 ([] : List Int)) ∧ (Blk h b_2 (.cells #[.int .i64 b_Root, vb_Links] 24 (0, 0))) ∧ (Blk h b_1 (.cells #[.int .i64 a_Root, va_Links] 24 (0, 0)))) [(6, fun h => (OwnIs h 0 46 2 e_api_Branch v_39 (([] : List T_api_Branch) ++ a_Links)))] (fun L_ h_ hL_ ⟨hL_a_Links, hL_b_Links, c257, c251, c203, c202⟩ hs_ => ⟨⟨hL_a_Links, hL_b_Links, c257, c251, c203, c202⟩, (at_gone hL_ (by kernel_rfl) (Go.Wk.at_nil _ _))⟩) ?_
   exact Go.Wk.HA.via (N_4 (F_21, v_17, v_18, v_39) _ _ ⟨rfl, rfl, rfl, rfl, rfl, rfl, rfl, rfl, rfl, rfl, rfl, rfl, hK, hS, hL_a_Links, hL_b_Links, hM⟩) (fun L_ h_ hL_ ⟨hL_a_Links, hL_b_Links, c257, c251, c203, c202⟩ hs_ => ⟨⟨hL_a_Links, hL_b_Links, c257, c251, c203, c202⟩, (at_keep 0 rfl hs_ (fun c209 => c209) (Go.Wk.at_nil _ _))⟩)
  refine HA.node (C1 := fun (i : Fz × Value × Value) => match i with | (F', v_3, v_4) => fun h => (SliceIs h 2 e_api_Branch va_Links a_Links) ∧ (SliceIs h 2 e_api_Branch vb_Links b_Links) ∧ (OwnIs h 0 3 1 encI v_3 ([] : List Int)) ∧ (Blk h b_2 (.cells #[.int .i64 b_Root, vb_Links] 24 (0, 0))) ∧ (Blk h b_1 (.cells #[.int .i64 a_Root, va_Links] 24 (0, 0)))) (cs1 := fun (i : Fz × Value × Value) => match i with | (F', v_3, v_4) => [(3, fun h => (OwnIs h 0 46 2 e_api_Branch v_4 ([] : List T_api_Branch)))]) (fuel1 := 6) (listed1 := #[true, true, true, false, true, true, false, true, false, false, false, false]) (fun (i : Fz × Value × Value) f h => match i with | (F', v_3, v_4) => f 0 = .agg #[.int .i64 a_Root, va_Links] ∧ f 1 = .agg #[.int .i64 b_Root, vb_Links] ∧ f 2 = .pointer (some ⟨b_1, 0, none⟩) ∧ f 3 = .pointer (some ⟨b_2, 0, none⟩) ∧ f 4 = .slice none 0 0 ∧ f 10 = v_4 ∧ f 11 = .pointer (some ⟨b_1, 1, none⟩) ∧ f 12 = va_Links ∧ f 14 = .pointer (some ⟨b_2, 1, none⟩) ∧ f 15 = vb_Links ∧ f 17 = v_3 ∧ Kp F h0 F' h ∧ St F' (Ow.own 3 1 encI v_3 ([] : List Int) :: Ow.own 46 2 e_api_Branch v_4 ([] : List T_api_Branch) :: Ow.box b_2 24 #[.int .i64 b_Root, vb_Links] :: Ow.box b_1 24 #[.int .i64 a_Root, va_Links] :: fr) h ∧ (SliceF F' h 2 e_api_Branch va_Links a_Links) ∧ (SliceF F' h 2 e_api_Branch vb_Links b_Links) ∧ ref32_Changed_j1 a_Root a_Links b_Root b_Links Q) ?_ (fun N_8 => ?_)
  ·
   rintro ⟨F_24, v_3, v_4⟩ f_24 h_72 ⟨e0, e1, e2, e3, e4, e10, e11, e12, e14, e15, e17, hK, hS, hL_a_Links, hL_b_Links, hM⟩
   refine HA.fr [(0, .agg #[.int .i64 a_Root, va_Links]), (1, .agg #[.int .i64 b_Root, vb_Links]), (2, .pointer (some ⟨b_1, 0, none⟩)), (3, .pointer (some ⟨b_2, 0, none⟩)), (4, .slice none 0 0), (10, v_4), (11, .pointer (some ⟨b_1, 1, none⟩)), (12, va_Links), (14, .pointer (some ⟨b_2, 1, none⟩)), (15, vb_Links), (17, v_3)] ⟨e0, e1, e2, e3, e4, e10, e11, e12, e14, e15, e17, trivial⟩ ?_
   refine HA.two (k := 3) (k' := 8) ⟨⟨hL_a_Links.is, hL_b_Links.is, (hS.own 0 rfl), (hS.box 2 rfl), (hS.box 3 rfl)⟩, (at_now (hS.own 1 rfl) (Go.Wk.at_nil _ _))⟩ (by kernel_rfl) ?_ ?_
   ·
    refine HS.eff rfl (want_none) rfl (st_append te_22 hS (i := 1) rfl hL_a_Links.is rfl rfl rfl (by intro a _ u hu; simp [e_api_Branch, encI, encN, encB, encT] at hu; rcases hu with rfl | rfl <;> rfl) ho_1 (by omega)) ?_
    rintro v_41 h_73 ⟨hS, hk⟩
    replace hS : St F_24 (Ow.own 3 1 encI v_3 ([] : List Int) :: Ow.own 46 2 e_api_Branch v_41 (([] : List T_api_Branch) ++ a_Links) :: Ow.box b_2 24 #[.int .i64 b_Root, vb_Links] :: Ow.box b_1 24 #[.int .i64 a_Root, va_Links] :: fr) h_73 := hS
    replace hK := hK.trans hk
    replace hL_a_Links := hL_a_Links.kp hk
    replace hL_b_Links := hL_b_Links.kp hk
    refine Go.Wk.HA.re (fun h => (SliceIs h 2 e_api_Branch va_Links a_Links) ∧ (SliceIs h 2 e_api_Branch vb_Links b_Links) ∧ (OwnIs h 0 3 1 encI v_3 ([] : List Int)) ∧ (Blk h b_2 (.cells #[.int .i64 b_Root, vb_Links] 24 (0, 0))) ∧ (Blk h b_1 (.cells #[.int .i64 a_Root, va_Links] 24 (0, 0)))) [(6, fun h => (OwnIs h 0 46 2 e_api_Branch v_41 (([] : List T_api_Branch) ++ a_Links)))] (fun L_ h_ hL_ ⟨hL_a_Links, hL_b_Links, c251, c203, c202⟩ hs_ => ⟨⟨hL_a_Links, hL_b_Links, c251, c203, c202⟩, (at_gone hL_ (by kernel_rfl) (Go.Wk.at_nil _ _))⟩) ?_
    exact Go.Wk.HA.via (N_5 (F_24, v_3, v_41) _ _ ⟨rfl, rfl, rfl, rfl, rfl, rfl, rfl, rfl, rfl, rfl, rfl, hK, hS, hL_a_Links, hL_b_Links, hM⟩) (fun L_ h_ hL_ ⟨hL_a_Links, hL_b_Links, c251, c203, c202⟩ hs_ => ⟨⟨hL_a_Links, hL_b_Links, c251, c203, c202⟩, (at_keep 0 rfl hs_ (fun c209 => c209) (Go.Wk.at_nil _ _))⟩)
   ·
    refine HS.eff rfl (want_none) rfl (st_litEmpty (α := Int) encI hS tl_36) ?_
    rintro _ h_74 ⟨b_32, rfl, hS, hk⟩
    replace hK := hK.trans hk
    replace hL_a_Links := hL_a_Links.kp hk
    replace hL_b_Links := hL_b_Links.kp hk
    exact Go.Wk.HA.via (N_7 (F_24, .slice (some ⟨b_32, 0, none⟩) 0 0, v_3, v_4) _ _ ⟨rfl, rfl, rfl, rfl, rfl, rfl, rfl, rfl, rfl, rfl, rfl, rfl, hK, hS, hL_a_Links, hL_b_Links, hM⟩) (fun L_ h_ hL_ ⟨hL_a_Links, hL_b_Links, c257, c251, c203, c202⟩ hs_ => ⟨⟨hL_a_Links, hL_b_Links, c251, c203, c202⟩, (at_keep 0 rfl hs_ (fun c209 => c209) (Go.Wk.at_nil _ _))⟩)
  refine HA.node (C1 := fun (i : Fz × Value × Value) => match i with | (F', v_6, v_7) => fun h => (SliceIs h 2 e_api_Branch va_Links a_Links) ∧ (SliceIs h 2 e_api_Branch vb_Links b_Links) ∧ (OwnIs h 0 3 1 encI v_6 ([] : List Int)) ∧ (Blk h b_2 (.cells #[.int .i64 b_Root, vb_Links] 24 (0, 0))) ∧ (Blk h b_1 (.cells #[.int .i64 a_Root, va_Links] 24 (0, 0)))) (cs1 := fun (i : Fz × Value × Value) => match i with | (F', v_6, v_7) => [(3, fun h => (OwnIs h 0 46 2 e_api_Branch v_7 ([] : List T_api_Branch)))]) (fuel1 := 6) (listed1 := #[true, true, true, false, true, true, false, false, true, false, false, false]) (fun (i : Fz × Value × Value) f h => match i with | (F', v_6, v_7) => f 0 = .agg #[.int .i64 a_Root, va_Links] ∧ f 1 = .agg #[.int .i64 b_Root, vb_Links] ∧ f 2 = .pointer (some ⟨b_1, 0, none⟩) ∧ f 3 = .pointer (some ⟨b_2, 0, none⟩) ∧ f 4 = .slice none 0 0 ∧ f 10 = v_7 ∧ f 11 = .pointer (some ⟨b_1, 1, none⟩) ∧ f 12 = va_Links ∧ f 14 = .pointer (some ⟨b_2, 1, none⟩) ∧ f 15 = vb_Links ∧ f 18 = v_6 ∧ Kp F h0 F' h ∧ St F' (Ow.own 3 1 encI v_6 ([] : List Int) :: Ow.own 46 2 e_api_Branch v_7 ([] : List T_api_Branch) :: Ow.box b_2 24 #[.int .i64 b_Root, vb_Links] :: Ow.box b_1 24 #[.int .i64 a_Root, va_Links] :: fr) h ∧ (SliceF F' h 2 e_api_Branch va_Links a_Links) ∧ (SliceF F' h 2 e_api_Branch vb_Links b_Links) ∧ ref32_Changed_j1 a_Root a_Links b_Root b_Links Q) ?_ (fun N_9 => ?_)
  ·
   rintro ⟨F_27, v_6, v_7⟩ f_27 h_79 ⟨e0, e1, e2, e3, e4, e10, e11, e12, e14, e15, e18, hK, hS, hL_a_Links, hL_b_Links, hM⟩
   refine HA.fr [(0, .agg #[.int .i64 a_Root, va_Links]), (1, .agg #[.int .i64 b_Root, vb_Links]), (2, .pointer (some ⟨b_1, 0, none⟩)), (3, .pointer (some ⟨b_2, 0, none⟩)), (4, .slice none 0 0), (10, v_7), (11, .pointer (some ⟨b_1, 1, none⟩)), (12, va_Links), (14, .pointer (some ⟨b_2, 1, none⟩)), (15, vb_Links), (18, v_6)] ⟨e0, e1, e2, e3, e4, e10, e11, e12, e14, e15, e18, trivial⟩ ?_
   refine HA.two (k := 3) (k' := 7) ⟨⟨hL_a_Links.is, hL_b_Links.is, (hS.own 0 rfl), (hS.box 2 rfl), (hS.box 3 rfl)⟩, (at_now (hS.own 1 rfl) (Go.Wk.at_nil _ _))⟩ (by kernel_rfl) ?_ ?_
   ·
    refine HS.eff rfl (want_none) rfl (st_append te_22 hS (i := 1) rfl hL_a_Links.is rfl rfl rfl (by intro a _ u hu; simp [e_api_Branch, encI, encN, encB, encT] at hu; rcases hu with rfl | rfl <;> rfl) ho_1 (by omega)) ?_
    rintro v_43 h_80 ⟨hS, hk⟩
    replace hS : St F_27 (Ow.own 3 1 encI v_6 ([] : List Int) :: Ow.own 46 2 e_api_Branch v_43 (([] : List T_api_Branch) ++ a_Links) :: Ow.box b_2 24 #[.int .i64 b_Root, vb_Links] :: Ow.box b_1 24 #[.int .i64 a_Root, va_Links] :: fr) h_80 := hS
    replace hK := hK.trans hk
    replace hL_a_Links := hL_a_Links.kp hk
    replace hL_b_Links := hL_b_Links.kp hk
    refine Go.Wk.HA.re (fun h => (SliceIs h 2 e_api_Branch va_Links a_Links) ∧ (SliceIs h 2 e_api_Branch vb_Links b_Links) ∧ (OwnIs h 0 3 1 encI v_6 ([] : List Int)) ∧ (Blk h b_2 (.cells #[.int .i64 b_Root, vb_Links] 24 (0, 0))) ∧ (Blk h b_1 (.cells #[.int .i64 a_Root, va_Links] 24 (0, 0)))) [(6, fun h => (OwnIs h 0 46 2 e_api_Branch v_43 (([] : List T_api_Branch) ++ a_Links)))] (fun L_ h_ hL_ ⟨hL_a_Links, hL_b_Links, c257, c203, c202⟩ hs_ => ⟨⟨hL_a_Links, hL_b_Links, c257, c203, c202⟩, (at_gone hL_ (by kernel_rfl) (Go.Wk.at_nil _ _))⟩) ?_
    exact Go.Wk.HA.via (N_6 (F_27, v_6, v_43) _ _ ⟨rfl, rfl, rfl, rfl, rfl, rfl, rfl, rfl, rfl, rfl, rfl, hK, hS, hL_a_Links, hL_b_Links, hM⟩) (fun L_ h_ hL_ ⟨hL_a_Links, hL_b_Links, c257, c203, c202⟩ hs_ => ⟨⟨hL_a_Links, hL_b_Links, c257, c203, c202⟩, (at_keep 0 rfl hs_ (fun c209 => c209) (Go.Wk.at_nil _ _))⟩)
   ·
    refine HS.eff rfl (want_none) rfl (st_litEmpty (α := Int) encI hS tl_36) ?_
    rintro _ h_81 ⟨b_34, rfl, hS, hk⟩
    replace hK := hK.trans hk
    replace hL_a_Links := hL_a_Links.kp hk
    replace hL_b_Links := hL_b_Links.kp hk
    replace hS : St F_27 (Ow.own 3 1 encI v_6 ([] : List Int) :: Ow.own 3 1 encI (.slice (some ⟨b_34, 0, none⟩) 0 0) ([] : List Int) :: Ow.own 46 2 e_api_Branch v_7 ([] : List T_api_Branch) :: Ow.box b_2 24 #[.int .i64 b_Root, vb_Links] :: Ow.box b_1 24 #[.int .i64 a_Root, va_Links] :: fr) h_81 := hS.perm2 [1, 0, 2, 3, 4] 5 rfl rfl
    exact Go.Wk.HA.via (N_7 (F_27, v_6, .slice (some ⟨b_34, 0, none⟩) 0 0, v_7) _ _ ⟨rfl, rfl, rfl, rfl, rfl, rfl, rfl, rfl, rfl, rfl, rfl, rfl, hK, hS, hL_a_Links, hL_b_Links, hM⟩) (fun L_ h_ hL_ ⟨hL_a_Links, hL_b_Links, c257, c251, c203, c202⟩ hs_ => ⟨⟨hL_a_Links, hL_b_Links, c257, c203, c202⟩, (at_keep 0 rfl hs_ (fun c209 => c209) (Go.Wk.at_nil _ _))⟩)
  refine HA.node (C1 := fun (i : Fz × Value × Value) => match i with | (F', v_9, v_10) => fun h => (SliceIs h 2 e_api_Branch va_Links a_Links) ∧ (SliceIs h 2 e_api_Branch vb_Links b_Links) ∧ (OwnIs h 0 3 1 encI v_9 ([] : List Int)) ∧ (OwnIs h 0 3 1 encI v_10 ([] : List Int)) ∧ (Blk h b_2 (.cells #[.int .i64 b_Root, vb_Links] 24 (0, 0))) ∧ (Blk h b_1 (.cells #[.int .i64 a_Root, va_Links] 24 (0, 0)))) (cs1 := fun (i : Fz × Value × Value) => match i with | (F', v_9, v_10) => []) (fuel1 := 6) (listed1 := #[false, true, true, false, true, true, false, true, true, false, false, false]) (fun (i : Fz × Value × Value) f h => match i with | (F', v_9, v_10) => f 0 = .agg #[.int .i64 a_Root, va_Links] ∧ f 1 = .agg #[.int .i64 b_Root, vb_Links] ∧ f 2 = .pointer (some ⟨b_1, 0, none⟩) ∧ f 3 = .pointer (some ⟨b_2, 0, none⟩) ∧ f 4 = .slice none 0 0 ∧ f 11 = .pointer (some ⟨b_1, 1, none⟩) ∧ f 12 = va_Links ∧ f 14 = .pointer (some ⟨b_2, 1, none⟩) ∧ f 15 = vb_Links ∧ f 17 = v_10 ∧ f 18 = v_9 ∧ Kp F h0 F' h ∧ St F' (Ow.own 3 1 encI v_9 ([] : List Int) :: Ow.own 3 1 encI v_10 ([] : List Int) :: Ow.box b_2 24 #[.int .i64 b_Root, vb_Links] :: Ow.box b_1 24 #[.int .i64 a_Root, va_Links] :: fr) h ∧ (SliceF F' h 2 e_api_Branch va_Links a_Links) ∧ (SliceF F' h 2 e_api_Branch vb_Links b_Links) ∧ ref32_Changed_j1 a_Root a_Links b_Root b_Links Q) ?_ (fun N_10 => ?_)
  ·
   rintro ⟨F_30, v_9, v_10⟩ f_30 h_85 ⟨e0, e1, e2, e3, e4, e11, e12, e14, e15, e17, e18, hK, hS, hL_a_Links, hL_b_Links, hM⟩
   refine HA.fr [(0, .agg #[.int .i64 a_Root, va_Links]), (1, .agg #[.int .i64 b_Root, vb_Links]), (2, .pointer (some ⟨b_1, 0, none⟩)), (3, .pointer (some ⟨b_2, 0, none⟩)), (4, .slice none 0 0), (11, .pointer (some ⟨b_1, 1, none⟩)), (12, va_Links), (14, .pointer (some ⟨b_2, 1, none⟩)), (15, vb_Links), (17, v_10), (18, v_9)] ⟨e0, e1, e2, e3, e4, e11, e12, e14, e15, e17, e18, trivial⟩ ?_
   refine HA.one (k := 0) ⟨⟨hL_a_Links.is, hL_b_Links.is, (hS.own 0 rfl), (hS.own 1 rfl), (hS.box 2 rfl), (hS.box 3 rfl)⟩, (Go.Wk.at_nil _ _)⟩ (by kernel_rfl) ?_
   refine HS.eff rfl (want_none) rfl (st_litEmpty (α := T_api_Branch) e_api_Branch hS tl_22) ?_
   rintro _ h_86 ⟨b_36, rfl, hS, hk⟩
   replace hK := hK.trans hk
   replace hL_a_Links := hL_a_Links.kp hk
   replace hL_b_Links := hL_b_Links.kp hk
   replace hS : St F_30 (Ow.own 3 1 encI v_9 ([] : List Int) :: Ow.own 3 1 encI v_10 ([] : List Int) :: Ow.own 46 2 e_api_Branch (.slice (some ⟨b_36, 0, none⟩) 0 0) ([] : List T_api_Branch) :: Ow.box b_2 24 #[.int .i64 b_Root, vb_Links] :: Ow.box b_1 24 #[.int .i64 a_Root, va_Links] :: fr) h_86 := hS.perm2 [1, 2, 0, 3, 4] 5 rfl rfl
   exact Go.Wk.HA.via (N_7 (F_30, v_9, v_10, .slice (some ⟨b_36, 0, none⟩) 0 0) _ _ ⟨rfl, rfl, rfl, rfl, rfl, rfl, rfl, rfl, rfl, rfl, rfl, rfl, hK, hS, hL_a_Links, hL_b_Links, hM⟩) (fun L_ h_ hL_ ⟨hL_a_Links, hL_b_Links, c257, c251, c203, c202⟩ hs_ => ⟨⟨hL_a_Links, hL_b_Links, c257, c251, c203, c202⟩, (Go.Wk.at_nil _ _)⟩)
  refine HA.three (k := 0) (k' := 7) (k'' := 8) ⟨⟨(hS.box 0 rfl), (hS.box 1 rfl)⟩, (Go.Wk.at_nil _ _)⟩ (by kernel_rfl) ?_ ?_ ?_
  ·
   refine HS.eff rfl (want_none) rfl (st_litEmpty (α := T_api_Branch) e_api_Branch hS tl_22) ?_
   rintro _ h_87 ⟨b_37, rfl, hS, hk⟩
   replace hK := hK.trans hk
   replace hL_a_Links := hL_a_Links.kp hk
   replace hL_b_Links := hL_b_Links.kp hk
   refine HA.three (k := 3) (k' := 7) (k'' := 8) ⟨⟨(hS.box 1 rfl), (hS.box 2 rfl)⟩, (Go.Wk.at_nil _ _)⟩ (by kernel_rfl) ?_ ?_ ?_
   ·
    refine HS.eff rfl (want_none) rfl (st_append te_22 hS (i := 0) rfl hL_a_Links.is rfl rfl rfl (by intro a _ u hu; simp [e_api_Branch, encI, encN, encB, encT] at hu; rcases hu with rfl | rfl <;> rfl) ho_1 (by omega)) ?_
    rintro v_44 h_88 ⟨hS, hk⟩
    replace hS : St F (Ow.own 46 2 e_api_Branch v_44 (([] : List T_api_Branch) ++ a_Links) :: Ow.box b_2 24 #[.int .i64 b_Root, vb_Links] :: Ow.box b_1 24 #[.int .i64 a_Root, va_Links] :: fr) h_88 := hS
    replace hK := hK.trans hk
    replace hL_a_Links := hL_a_Links.kp hk
    replace hL_b_Links := hL_b_Links.kp hk
    refine HA.three (k := 6) (k' := 7) (k'' := 8) ⟨⟨(hS.box 1 rfl), (hS.box 2 rfl)⟩, (Go.Wk.at_nil _ _)⟩ (by kernel_rfl) ?_ ?_ ?_
    ·
     refine HS.eff rfl (want_none) rfl (st_append te_22 hS (i := 0) rfl hL_b_Links.is rfl rfl rfl (by intro a _ u hu; simp [e_api_Branch, encI, encN, encB, encT] at hu; rcases hu with rfl | rfl <;> rfl) ho_2 (by omega)) ?_
     rintro v_45 h_89 ⟨hS, hk⟩
     replace hS : St F (Ow.own 46 2 e_api_Branch v_45 ((([] : List T_api_Branch) ++ a_Links) ++ b_Links) :: Ow.box b_2 24 #[.int .i64 b_Root, vb_Links] :: Ow.box b_1 24 #[.int .i64 a_Root, va_Links] :: fr) h_89 := hS
     replace hK := hK.trans hk
     replace hL_a_Links := hL_a_Links.kp hk
     replace hL_b_Links := hL_b_Links.kp hk
     refine HA.val (k := 9) (v := v_45) rfl rfl (by kernel_rfl) (by kernel_rfl) (want_none) rfl (fun _ ⟨c203, c202⟩ => q_assign rfl) ?_
     refine HA.two (k := 7) (k' := 8) ⟨⟨(hS.box 1 rfl), (hS.box 2 rfl)⟩, (Go.Wk.at_nil _ _)⟩ (by kernel_rfl) ?_ ?_
     ·
      refine HS.eff rfl (want_none) rfl (st_litEmpty (α := Int) encI hS tl_36) ?_
      rintro _ h_90 ⟨b_38, rfl, hS, hk⟩
      replace hK := hK.trans hk
      replace hL_a_Links := hL_a_Links.kp hk
      replace hL_b_Links := hL_b_Links.kp hk
      refine HA.val (k := 10) (v := .slice (some ⟨b_38, 0, none⟩) 0 0) rfl rfl (by kernel_rfl) (by kernel_rfl) (want_none) rfl (fun _ ⟨c203, c202⟩ => q_assign rfl) ?_
      exact Go.Wk.HA.via (N_2 (F, .slice (some ⟨b_38, 0, none⟩) 0 0, v_45) _ _ ⟨rfl, rfl, rfl, rfl, rfl, rfl, rfl, rfl, rfl, rfl, rfl, rfl, rfl, hK, hS, hL_a_Links, hL_b_Links, hM⟩) (fun L_ h_ hL_ ⟨hL_a_Links, hL_b_Links, c251, c209, c203, c202⟩ hs_ => ⟨⟨c203, c202⟩, (Go.Wk.at_nil _ _)⟩)
     ·
      refine HS.eff rfl (want_none) rfl (st_litEmpty (α := Int) encI hS tl_36) ?_
      rintro _ h_91 ⟨b_39, rfl, hS, hk⟩
      replace hK := hK.trans hk
      replace hL_a_Links := hL_a_Links.kp hk
      replace hL_b_Links := hL_b_Links.kp hk
      exact Go.Wk.HA.via (N_3 (F, .slice (some ⟨b_39, 0, none⟩) 0 0, v_45) _ _ ⟨rfl, rfl, rfl, rfl, rfl, rfl, rfl, rfl, rfl, rfl, rfl, rfl, hK, hS, hL_a_Links, hL_b_Links, hM⟩) (fun L_ h_ hL_ ⟨hL_a_Links, hL_b_Links, c257, c209, c203, c202⟩ hs_ => ⟨⟨c203, c202⟩, (Go.Wk.at_nil _ _)⟩)
    ·
     refine HS.eff rfl (want_none) rfl (st_litEmpty (α := Int) encI hS tl_36) ?_
     rintro _ h_92 ⟨b_40, rfl, hS, hk⟩
     replace hK := hK.trans hk
     replace hL_a_Links := hL_a_Links.kp hk
     replace hL_b_Links := hL_b_Links.kp hk
     exact Go.Wk.HA.via (N_5 (F, .slice (some ⟨b_40, 0, none⟩) 0 0, v_44) _ _ ⟨rfl, rfl, rfl, rfl, rfl, rfl, rfl, rfl, rfl, rfl, rfl, hK, hS, hL_a_Links, hL_b_Links, hM⟩) (fun L_ h_ hL_ ⟨hL_a_Links, hL_b_Links, c251, c203, c202⟩ hs_ => ⟨⟨c203, c202⟩, (Go.Wk.at_nil _ _)⟩)
    ·
     refine HS.eff rfl (want_none) rfl (st_litEmpty (α := Int) encI hS tl_36) ?_
     rintro _ h_93 ⟨b_41, rfl, hS, hk⟩
     replace hK := hK.trans hk
     replace hL_a_Links := hL_a_Links.kp hk
     replace hL_b_Links := hL_b_Links.kp hk
     exact Go.Wk.HA.via (N_6 (F, .slice (some ⟨b_41, 0, none⟩) 0 0, v_44) _ _ ⟨rfl, rfl, rfl, rfl, rfl, rfl, rfl, rfl, rfl, rfl, rfl, hK, hS, hL_a_Links, hL_b_Links, hM⟩) (fun L_ h_ hL_ ⟨hL_a_Links, hL_b_Links, c257, c203, c202⟩ hs_ => ⟨⟨c203, c202⟩, (Go.Wk.at_nil _ _)⟩)
   ·
    refine HS.eff rfl (want_none) rfl (st_litEmpty (α := Int) encI hS tl_36) ?_
    rintro _ h_94 ⟨b_42, rfl, hS, hk⟩
    replace hK := hK.trans hk
    replace hL_a_Links := hL_a_Links.kp hk
    replace hL_b_Links := hL_b_Links.kp hk
    exact Go.Wk.HA.via (N_8 (F, .slice (some ⟨b_42, 0, none⟩) 0 0, .slice (some ⟨b_37, 0, none⟩) 0 0) _ _ ⟨rfl, rfl, rfl, rfl, rfl, rfl, rfl, rfl, rfl, rfl, rfl, hK, hS, hL_a_Links, hL_b_Links, hM⟩) (fun L_ h_ hL_ ⟨hL_a_Links, hL_b_Links, c251, c203, c202⟩ hs_ => ⟨⟨c203, c202⟩, (Go.Wk.at_nil _ _)⟩)
   ·
    refine HS.eff rfl (want_none) rfl (st_litEmpty (α := Int) encI hS tl_36) ?_
    rintro _ h_95 ⟨b_43, rfl, hS, hk⟩
    replace hK := hK.trans hk
    replace hL_a_Links := hL_a_Links.kp hk
    replace hL_b_Links := hL_b_Links.kp hk
    exact Go.Wk.HA.via (N_9 (F, .slice (some ⟨b_43, 0, none⟩) 0 0, .slice (some ⟨b_37, 0, none⟩) 0 0) _ _ ⟨rfl, rfl, rfl, rfl, rfl, rfl, rfl, rfl, rfl, rfl, rfl, hK, hS, hL_a_Links, hL_b_Links, hM⟩) (fun L_ h_ hL_ ⟨hL_a_Links, hL_b_Links, c257, c203, c202⟩ hs_ => ⟨⟨c203, c202⟩, (Go.Wk.at_nil _ _)⟩)
  ·
   refine HS.eff rfl (want_none) rfl (st_litEmpty (α := Int) encI hS tl_36) ?_
   rintro _ h_96 ⟨b_44, rfl, hS, hk⟩
   replace hK := hK.trans hk
   replace hL_a_Links := hL_a_Links.kp hk
   replace hL_b_Links := hL_b_Links.kp hk
   refine HA.two (k := 0) (k' := 8) ⟨⟨(hS.box 1 rfl), (hS.box 2 rfl)⟩, (Go.Wk.at_nil _ _)⟩ (by kernel_rfl) ?_ ?_
   ·
    refine HS.eff rfl (want_none) rfl (st_litEmpty (α := T_api_Branch) e_api_Branch hS tl_22) ?_
    rintro _ h_97 ⟨b_45, rfl, hS, hk⟩
    replace hK := hK.trans hk
    replace hL_a_Links := hL_a_Links.kp hk
    replace hL_b_Links := hL_b_Links.kp hk
    replace hS : St F (Ow.own 3 1 encI (.slice (some ⟨b_44, 0, none⟩) 0 0) ([] : List Int) :: Ow.own 46 2 e_api_Branch (.slice (some ⟨b_45, 0, none⟩) 0 0) ([] : List T_api_Branch) :: Ow.box b_2 24 #[.int .i64 b_Root, vb_Links] :: Ow.box b_1 24 #[.int .i64 a_Root, va_Links] :: fr) h_97 := hS.perm2 [1, 0, 2, 3] 4 rfl rfl
    exact Go.Wk.HA.via (N_8 (F, .slice (some ⟨b_44, 0, none⟩) 0 0, .slice (some ⟨b_45, 0, none⟩) 0 0) _ _ ⟨rfl, rfl, rfl, rfl, rfl, rfl, rfl, rfl, rfl, rfl, rfl, hK, hS, hL_a_Links, hL_b_Links, hM⟩) (fun L_ h_ hL_ ⟨hL_a_Links, hL_b_Links, c251, c203, c202⟩ hs_ => ⟨⟨c203, c202⟩, (Go.Wk.at_nil _ _)⟩)
   ·
    refine HS.eff rfl (want_none) rfl (st_litEmpty (α := Int) encI hS tl_36) ?_
    rintro _ h_98 ⟨b_46, rfl, hS, hk⟩
    replace hK := hK.trans hk
    replace hL_a_Links := hL_a_Links.kp hk
    replace hL_b_Links := hL_b_Links.kp hk
    exact Go.Wk.HA.via (N_10 (F, .slice (some ⟨b_46, 0, none⟩) 0 0, .slice (some ⟨b_44, 0, none⟩) 0 0) _ _ ⟨rfl, rfl, rfl, rfl, rfl, rfl, rfl, rfl, rfl, rfl, rfl, hK, hS, hL_a_Links, hL_b_Links, hM⟩) (fun L_ h_ hL_ ⟨hL_a_Links, hL_b_Links, c257, c251, c203, c202⟩ hs_ => ⟨⟨c203, c202⟩, (Go.Wk.at_nil _ _)⟩)
  ·
   refine HS.eff rfl (want_none) rfl (st_litEmpty (α := Int) encI hS tl_36) ?_
   rintro _ h_99 ⟨b_47, rfl, hS, hk⟩
   replace hK := hK.trans hk
   replace hL_a_Links := hL_a_Links.kp hk
   replace hL_b_Links := hL_b_Links.kp hk
   refine HA.two (k := 0) (k' := 7) ⟨⟨(hS.box 1 rfl), (hS.box 2 rfl)⟩, (Go.Wk.at_nil _ _)⟩ (by kernel_rfl) ?_ ?_
   ·
    refine HS.eff rfl (want_none) rfl (st_litEmpty (α := T_api_Branch) e_api_Branch hS tl_22) ?_
    rintro _ h_100 ⟨b_48, rfl, hS, hk⟩
    replace hK := hK.trans hk
    replace hL_a_Links := hL_a_Links.kp hk
    replace hL_b_Links := hL_b_Links.kp hk
    replace hS : St F (Ow.own 3 1 encI (.slice (some ⟨b_47, 0, none⟩) 0 0) ([] : List Int) :: Ow.own 46 2 e_api_Branch (.slice (some ⟨b_48, 0, none⟩) 0 0) ([] : List T_api_Branch) :: Ow.box b_2 24 #[.int .i64 b_Root, vb_Links] :: Ow.box b_1 24 #[.int .i64 a_Root, va_Links] :: fr) h_100 := hS.perm2 [1, 0, 2, 3] 4 rfl rfl
    exact Go.Wk.HA.via (N_9 (F, .slice (some ⟨b_47, 0, none⟩) 0 0, .slice (some ⟨b_48, 0, none⟩) 0 0) _ _ ⟨rfl, rfl, rfl, rfl, rfl, rfl, rfl, rfl, rfl, rfl, rfl, hK, hS, hL_a_Links, hL_b_Links, hM⟩) (fun L_ h_ hL_ ⟨hL_a_Links, hL_b_Links, c257, c203, c202⟩ hs_ => ⟨⟨c203, c202⟩, (Go.Wk.at_nil _ _)⟩)
   ·
    refine HS.eff rfl (want_none) rfl (st_litEmpty (α := Int) encI hS tl_36) ?_
    rintro _ h_101 ⟨b_49, rfl, hS, hk⟩
    replace hK := hK.trans hk
    replace hL_a_Links := hL_a_Links.kp hk
    replace hL_b_Links := hL_b_Links.kp hk
    replace hS : St F (Ow.own 3 1 encI (.slice (some ⟨b_47, 0, none⟩) 0 0) ([] : List Int) :: Ow.own 3 1 encI (.slice (some ⟨b_49, 0, none⟩) 0 0) ([] : List Int) :: Ow.box b_2 24 #[.int .i64 b_Root, vb_Links] :: Ow.box b_1 24 #[.int .i64 a_Root, va_Links] :: fr) h_101 := hS.perm2 [1, 0, 2, 3] 4 rfl rfl
    exact Go.Wk.HA.via (N_10 (F, .slice (some ⟨b_47, 0, none⟩) 0 0, .slice (some ⟨b_49, 0, none⟩) 0 0) _ _ ⟨rfl, rfl, rfl, rfl, rfl, rfl, rfl, rfl, rfl, rfl, rfl, hK, hS, hL_a_Links, hL_b_Links, hM⟩) (fun L_ h_ hL_ ⟨hL_a_Links, hL_b_Links, c257, c251, c203, c202⟩ hs_ => ⟨⟨c203, c202⟩, (Go.Wk.at_nil _ _)⟩)
 ·
  rintro f_31 h_102 ⟨F_31, vl_1, vall_1, vout_1, e2, e3, e4, e5, e6, e7, hK, hS, hL_a_Links, hL_b_Links, hM⟩
  unfold ref32_Changed_j1 at hM
  refine HW.fr [(2, .pointer (some ⟨b_1, 0, none⟩)), (3, .pointer (some ⟨b_2, 0, none⟩)), (4, .slice none 0 0), (5, vl_1), (6, vall_1), (7, vout_1)] ⟨e2, e3, e4, e5, e6, e7, trivial⟩ ?_
  refine HW.seq ?_
  refine HW.seq ?_
  refine HW.region ?_
  refine oA (.int .i64 0) rfl rfl ?_
  refine HO.nil (thenQ_normal (?_))
  refine HW.block ?_
  obtain ⟨I_1, m_1, hI_1, hR_1⟩ := hM
  refine HW.loop (S := List Int × Int) (fun s f h => match s with | (all_1, i_1) => ∃ (F' : Fz) (vall_2 : Value), f 2 = .pointer (some ⟨b_1, 0, none⟩) ∧ f 3 = .pointer (some ⟨b_2, 0, none⟩) ∧ f 4 = .slice none 0 0 ∧ f 5 = vl_1 ∧ f 6 = vall_2 ∧ f 7 = vout_1 ∧ f 8 = .int .i64 i_1 ∧ Kp F h0 F' h ∧ St F' (Ow.box b_1 24 #[.int .i64 a_Root, va_Links] :: Ow.box b_2 24 #[.int .i64 b_Root, vb_Links] :: Ow.own 46 2 e_api_Branch vl_1 ((([] : List T_api_Branch) ++ a_Links) ++ b_Links) :: Ow.own 3 1 encI vall_2 all_1 :: Ow.own 3 1 encI vout_1 ([] : List Int) :: fr) h ∧ (SliceF F' h 2 e_api_Branch va_Links a_Links) ∧ (SliceF F' h 2 e_api_Branch vb_Links b_Links) ∧ I_1 (all_1, i_1)) m_1 ([], 0) ⟨F_31, vall_1, rfl, rfl, rfl, rfl, rfl, rfl, rfl, hK, hS, hL_a_Links, hL_b_Links, hI_1⟩ ?_
  rintro ⟨all_1, i_1⟩ f_32 h_103 ⟨F_32, vall_2, e2, e3, e4, e5, e6, e7, e8, hK, hS, hL_a_Links, hL_b_Links, hI0⟩
  obtain ⟨K_1, hKe_1⟩ : ∃ K : (List Int) → Int → Prop, K = fun all_1' i_1' => I_1 (all_1', i_1') ∧ m_1 (all_1', i_1') < m_1 (all_1, i_1) := ⟨_, rfl⟩
  have hM : ref32_Changed_l1 a_Root a_Links b_Root b_Links Q K_1 all_1 i_1 := by rw [hKe_1]; exact hR_1 (all_1, i_1) hI0
  unfold ref32_Changed_l1 at hM
  refine HW.fr [(2, .pointer (some ⟨b_1, 0, none⟩)), (3, .pointer (some ⟨b_2, 0, none⟩)), (4, .slice none 0 0), (5, vl_1), (6, vall_2), (7, vout_1), (8, .int .i64 i_1)] ⟨e2, e3, e4, e5, e6, e7, e8, trivial⟩ ?_
  refine HW.seq ?_
  refine HW.seq ?_
  refine HW.region ?_
  refine oM (.int .i64 i_1) rfl rfl ?_
  refine oM (vl_1) rfl rfl ?_
  refine oV (.int .i64 (((([] : List T_api_Branch) ++ a_Links) ++ b_Links).length : Int)) (q_len ts_22 (shp (hS.own 2 rfl).slice) rfl rfl) rfl ?_
  refine oV (.bool (decide (i_1 < (((([] : List T_api_Branch) ++ a_Links) ++ b_Links).length : Int)))) (q_lss rfl rfl) rfl ?_
  refine HO.nil (thenQ_normal (?_))
  refine HW.cond (decide (i_1 < (((([] : List T_api_Branch) ++ a_Links) ++ b_Links).length : Int))) rfl (fun c_1 => ?_) (fun c_1 => ?_)
  ·
   replace hM := hM.1 (of_decide_eq_true c_1)
   refine HW.skip (thenQ_normal (?_))
   refine HW.seq ?_
   refine HW.block ?_
   refine HW.region ?_
   refine oM (vall_2) rfl rfl ?_
   refine oM (vl_1) rfl rfl ?_
   refine oM (.int .i64 i_1) rfl rfl ?_
   obtain ⟨ho_3, hM⟩ := hM
   refine oV (elemPtr 2 vl_1 (i_1).toNat) (q_idx ts_22 (hS.own 2 rfl).slice rfl rfl ho_3) rfl ?_
   refine oV (fieldPtr 2 vl_1 (i_1).toNat 0) (q_fldElem fa_46_0 (hS.own 2 rfl).slice rfl ho_3) rfl ?_
   refine oV (.int .i64 ((gi ((([] : List T_api_Branch) ++ a_Links) ++ b_Links) i_1).1)) (q_ldField to_3 (hS.own 2 rfl).slice rfl ho_3 (by decide) rfl) rfl ?_
   replace hS : St F_32 (Ow.own 3 1 encI vall_2 all_1 :: Ow.box b_1 24 #[.int .i64 a_Root, va_Links] :: Ow.box b_2 24 #[.int .i64 b_Root, vb_Links] :: Ow.own 46 2 e_api_Branch vl_1 ((([] : List T_api_Branch) ++ a_Links) ++ b_Links) :: Ow.own 3 1 encI vout_1 ([] : List Int) :: fr) h_103 := hS.perm2 [3, 0, 1, 2, 4] 5 rfl rfl
   refine HO.call (want_none) rfl (ec en_50 rfl rfl) (ref32_Add_walk (fr := (Ow.box b_1 24 #[.int .i64 a_Root, va_Links] :: Ow.box b_2 24 #[.int .i64 b_Root, vb_Links] :: Ow.own 46 2 e_api_Branch vl_1 ((([] : List T_api_Branch) ++ a_Links) ++ b_Links) :: Ow.own 3 1 encI vout_1 ([] : List Int) :: fr)) all_1 ((gi ((([] : List T_api_Branch) ++ a_Links) ++ b_Links) i_1).1) vall_2 hS hM) ?_
   rintro vr_2 h_104 ⟨F_33, r_2, _, rfl, hk, hS, hM⟩
   replace hK := hK.trans hk
   replace hL_a_Links := hL_a_Links.kp hk
   replace hL_b_Links := hL_b_Links.kp hk
   refine oA (vr_2) rfl rfl ?_
   refine HO.nil (blockQ_normal (thenQ_normal (?_)))
   refine HW.region ?_
   refine oM (.int .i64 i_1) rfl rfl ?_
   obtain ⟨ho_4, hM⟩ := hM
   refine oV (.int .i64 (i_1 + 1)) (q_addN _ rfl rfl rfl ho_4.1 ho_4.2) rfl ?_
   refine oA (.int .i64 (i_1 + 1)) rfl rfl ?_
   refine HO.nil (thenQ_normal (?_))
   replace hS : St F_33 (Ow.box b_1 24 #[.int .i64 a_Root, va_Links] :: Ow.box b_2 24 #[.int .i64 b_Root, vb_Links] :: Ow.own 46 2 e_api_Branch vl_1 ((([] : List T_api_Branch) ++ a_Links) ++ b_Links) :: Ow.own 3 1 encI vr_2 r_2 :: Ow.own 3 1 encI vout_1 ([] : List Int) :: fr) h_104 := hS.perm2 [1, 2, 3, 0, 4] 5 rfl rfl
   rw [hKe_1] at hM
   exact ⟨(r_2, i_1 + 1), ⟨F_33, vr_2, rfl, rfl, rfl, rfl, rfl, rfl, rfl, hK, hS, hL_a_Links, hL_b_Links, hM.1⟩, hM.2⟩
  ·
   replace hM := hM.2 (of_decide_eq_false c_1)
   refine HW.exit (thenQ_exit (thenQ_exit (blockQ_exit (thenQ_normal (?_)))))
   refine HW.seq ?_
   refine HW.seq ?_
   refine HW.region ?_
   refine oA (.int .i64 0) rfl rfl ?_
   refine HO.nil (thenQ_normal (?_))
   refine HW.block ?_
   obtain ⟨I_2, m_2, hI_2, hR_2⟩ := hM
   replace hS : St F_32 (Ow.box b_1 24 #[.int .i64 a_Root, va_Links] :: Ow.box b_2 24 #[.int .i64 b_Root, vb_Links] :: Ow.own 3 1 encI vall_2 all_1 :: Ow.own 3 1 encI vout_1 ([] : List Int) :: fr) h_103 := hS.perm2 [0, 1, 3, 4] 5 rfl rfl
   refine HW.loop (S := List Int × Int) (fun s f h => match s with | (out_1, i_2) => ∃ (F' : Fz) (vout_2 : Value), f 2 = .pointer (some ⟨b_1, 0, none⟩) ∧ f 3 = .pointer (some ⟨b_2, 0, none⟩) ∧ f 4 = .slice none 0 0 ∧ f 6 = vall_2 ∧ f 7 = vout_2 ∧ f 9 = .int .i64 i_2 ∧ Kp F h0 F' h ∧ St F' (Ow.box b_1 24 #[.int .i64 a_Root, va_Links] :: Ow.box b_2 24 #[.int .i64 b_Root, vb_Links] :: Ow.own 3 1 encI vall_2 all_1 :: Ow.own 3 1 encI vout_2 out_1 :: fr) h ∧ (SliceF F' h 2 e_api_Branch va_Links a_Links) ∧ (SliceF F' h 2 e_api_Branch vb_Links b_Links) ∧ I_2 (out_1, i_2)) m_2 ([], 0) ⟨F_32, vout_1, rfl, rfl, rfl, rfl, rfl, rfl, hK, hS, hL_a_Links, hL_b_Links, hI_2⟩ ?_
   rintro ⟨out_1, i_2⟩ f_33 h_105 ⟨F_34, vout_2, e2, e3, e4, e6, e7, e9, hK, hS, hL_a_Links, hL_b_Links, hI0⟩
   obtain ⟨K_2, hKe_2⟩ : ∃ K : (List Int) → Int → Prop, K = fun out_1' i_2' => I_2 (out_1', i_2') ∧ m_2 (out_1', i_2') < m_2 (out_1, i_2) := ⟨_, rfl⟩
   have hM : ref32_Changed_l2 a_Root a_Links b_Root b_Links Q all_1 K_2 out_1 i_2 := by rw [hKe_2]; exact hR_2 (out_1, i_2) hI0
   unfold ref32_Changed_l2 at hM
   refine HW.fr [(2, .pointer (some ⟨b_1, 0, none⟩)), (3, .pointer (some ⟨b_2, 0, none⟩)), (4, .slice none 0 0), (6, vall_2), (7, vout_2), (9, .int .i64 i_2)] ⟨e2, e3, e4, e6, e7, e9, trivial⟩ ?_
   refine HW.seq ?_
   refine HW.seq ?_
   refine HW.region ?_
   refine oM (.int .i64 i_2) rfl rfl ?_
   refine oM (vall_2) rfl rfl ?_
   refine oV (.int .i64 (all_1.length : Int)) (q_len ts_36 (shp (hS.own 2 rfl).slice) rfl rfl) rfl ?_
   refine oV (.bool (decide (i_2 < (all_1.length : Int)))) (q_lss rfl rfl) rfl ?_
   refine HO.nil (thenQ_normal (?_))
   refine HW.cond (decide (i_2 < (all_1.length : Int))) rfl (fun c_2 => ?_) (fun c_2 => ?_)
   ·
    replace hM := hM.1 (of_decide_eq_true c_2)
    refine HW.skip (thenQ_normal (?_))
    refine HW.seq ?_
    refine HW.block ?_
    refine HW.seq ?_
    refine HW.regionA 14 mixed (fun h => (Blk h b_1 (.cells #[.int .i64 a_Root, va_Links] 24 (0, 0))) ∧ (Blk h b_2 (.cells #[.int .i64 b_Root, vb_Links] 24 (0, 0))) ∧ (OwnIs h 0 3 1 encI vall_2 all_1)) [] (by kernel_rfl) ?_
    refine HA.val (k := 0) (v := .agg #[.int .i64 a_Root, va_Links]) rfl rfl (by kernel_rfl) (by kernel_rfl) (want_none) rfl (fun _ ⟨c414, c415, c416⟩ => q_loadAgg (cs := [.int .i64 a_Root, va_Links]) ta_24 rfl rfl (Blk.cells (k := 2) c414 rfl)) ?_
    refine HA.val (k := 1) (v := vall_2) rfl rfl (by kernel_rfl) (by kernel_rfl) (want_none) rfl (fun _ ⟨c414, c415, c416⟩ => q_move rfl) ?_
    refine HA.val (k := 2) (v := .int .i64 i_2) rfl rfl (by kernel_rfl) (by kernel_rfl) (want_none) rfl (fun _ ⟨c414, c415, c416⟩ => q_move rfl) ?_
    obtain ⟨ho_5, hM⟩ := hM
    refine HA.val (k := 3) (v := elemPtr 1 vall_2 (i_2).toNat) rfl rfl (by kernel_rfl) (by kernel_rfl) (want_none) rfl (fun _ ⟨c414, c415, c416⟩ => q_idx ts_36 c416.slice rfl rfl ho_5) ?_
    refine HA.val (k := 4) (v := .int .i64 (gi all_1 i_2)) rfl rfl (by kernel_rfl) (by kernel_rfl) (want_none) rfl (fun _ ⟨c414, c415, c416⟩ => q_ldElem to_3 c416.slice rfl ho_5 rfl) ?_
    refine HA.val (k := 6) (v := .agg #[.int .i64 b_Root, vb_Links]) rfl rfl (by kernel_rfl) (by kernel_rfl) (want_none) rfl (fun _ ⟨c414, c415, c416⟩ => q_loadAgg (cs := [.int .i64 b_Root, vb_Links]) ta_24 rfl rfl (Blk.cells (k := 2) c415 rfl)) ?_
    refine HA.val (k := 7) (v := vall_2) rfl rfl (by kernel_rfl) (by kernel_rfl) (want_none) rfl (fun _ ⟨c414, c415, c416⟩ => q_move rfl) ?_
    refine HA.val (k := 8) (v := .int .i64 i_2) rfl rfl (by kernel_rfl) (by kernel_rfl) (want_none) rfl (fun _ ⟨c414, c415, c416⟩ => q_move rfl) ?_
    refine HA.val (k := 9) (v := elemPtr 1 vall_2 (i_2).toNat) rfl rfl (by kernel_rfl) (by kernel_rfl) (want_none) rfl (fun _ ⟨c414, c415, c416⟩ => q_idx ts_36 c416.slice rfl rfl ho_5) ?_
    refine HA.val (k := 10) (v := .int .i64 (gi all_1 i_2)) rfl rfl (by kernel_rfl) (by kernel_rfl) (want_none) rfl (fun _ ⟨c414, c415, c416⟩ => q_ldElem to_3 c416.slice rfl ho_5 rfl) ?_
    refine HA.one (k := 5) ⟨⟨(hS.box 0 rfl), (hS.box 1 rfl), (hS.own 2 rfl)⟩, (Go.Wk.at_nil _ _)⟩ (by kernel_rfl) ?_
    refine HS.call rfl (want_none) rfl (ec en_25 rfl rfl) (ref32_Next_walk (fr := (Ow.box b_1 24 #[.int .i64 a_Root, va_Links] :: Ow.box b_2 24 #[.int .i64 b_Root, vb_Links] :: Ow.own 3 1 encI vall_2 all_1 :: Ow.own 3 1 encI vout_2 out_1 :: fr)) a_Root a_Links (gi all_1 i_2) va_Links hS hL_a_Links hM) ?_
    rintro vr_3 h_106 ⟨F_35, r_3, _, rfl, hk, hS, _, hM⟩
    replace hK := hK.trans hk
    replace hL_a_Links := hL_a_Links.kp hk
    replace hL_b_Links := hL_b_Links.kp hk
    refine HA.one (k := 11) ⟨⟨(hS.box 1 rfl), (hS.box 2 rfl), (hS.own 3 rfl)⟩, (Go.Wk.at_nil _ _)⟩ (by kernel_rfl) ?_
    refine HS.call rfl (want_none) rfl (ec en_25 rfl rfl) (ref32_Next_walk (fr := (Ow.own 3 1 encI vr_3 r_3 :: Ow.box b_1 24 #[.int .i64 a_Root, va_Links] :: Ow.box b_2 24 #[.int .i64 b_Root, vb_Links] :: Ow.own 3 1 encI vall_2 all_1 :: Ow.own 3 1 encI vout_2 out_1 :: fr)) b_Root b_Links (gi all_1 i_2) vb_Links hS hL_b_Links hM) ?_
    rintro vr_4 h_107 ⟨F_36, r_4, _, rfl, hk, hS, _, hM⟩
    replace hK := hK.trans hk
    replace hL_a_Links := hL_a_Links.kp hk
    replace hL_b_Links := hL_b_Links.kp hk
    refine HA.one (k := 12) ⟨⟨(hS.box 2 rfl), (hS.box 3 rfl), (hS.own 4 rfl)⟩, (Go.Wk.at_nil _ _)⟩ (by kernel_rfl) ?_
    replace hS : St F_36 (Ow.own 3 1 encI vr_3 r_3 :: Ow.own 3 1 encI vr_4 r_4 :: Ow.box b_1 24 #[.int .i64 a_Root, va_Links] :: Ow.box b_2 24 #[.int .i64 b_Root, vb_Links] :: Ow.own 3 1 encI vall_2 all_1 :: Ow.own 3 1 encI vout_2 out_1 :: fr) h_107 := hS.perm2 [1, 0, 2, 3, 4, 5] 6 rfl rfl
    have hZ_1 := hS
    have hkz_1 := (hS.freeze).2
    replace hS := hS.freeze.1
    have hL_1 : SliceF (fun bz_ => F_36 bz_ ∨ (Ow.own 3 1 encI vr_3 r_3).foot bz_) h_107 1 encI vr_3 r_3 := ⟨(hZ_1.own 0 rfl).slice, fun _ b hb => .inr hb⟩
    have hZ_2 := hS
    have hkz_2 := (hS.freeze).2
    replace hS := hS.freeze.1
    have hL_2 : SliceF (fun bz_ => (fun bz_ => F_36 bz_ ∨ (Ow.own 3 1 encI vr_3 r_3).foot bz_) bz_ ∨ (Ow.own 3 1 encI vr_4 r_4).foot bz_) h_107 1 encI vr_4 r_4 := ⟨(hZ_2.own 0 rfl).slice, fun _ b hb => .inr hb⟩
    refine HS.call rfl (want_none) rfl (ec en_22 rfl rfl) (ref32_SameInts_walk (fr := (Ow.box b_1 24 #[.int .i64 a_Root, va_Links] :: Ow.box b_2 24 #[.int .i64 b_Root, vb_Links] :: Ow.own 3 1 encI vall_2 all_1 :: Ow.own 3 1 encI vout_2 out_1 :: fr)) r_3 r_4 vr_3 vr_4 hS (hL_1.kp hkz_2) hL_2 hM) ?_
    rintro _ h_108 ⟨F_37, r_5, rfl, hk, hS, _, _, hM⟩
    obtain ⟨hS, hk⟩ := hZ_2.back hk hS
    obtain ⟨hS, hk⟩ := hZ_1.back hk hS
    generalize (fun bz_ => (fun bz_ => F_37 bz_ ∧ ¬ (Ow.own 3 1 encI vr_4 r_4).foot bz_) bz_ ∧ ¬ (Ow.own 3 1 encI vr_3 r_3).foot bz_) = F_38 at hS hk
    replace hK := hK.trans hk
    replace hL_a_Links := hL_a_Links.kp hk
    replace hL_b_Links := hL_b_Links.kp hk
    refine HA.val (k := 13) (v := .bool (!r_5)) rfl rfl (by kernel_rfl) (by kernel_rfl) (want_none) rfl (fun _ ⟨c414, c415, c416⟩ => q_not rfl) ?_
    refine HA.nil ⟨⟨(hS.box 2 rfl), (hS.box 3 rfl), (hS.own 4 rfl)⟩, (Go.Wk.at_nil _ _)⟩ (by kernel_rfl) (thenQ_normal (?_))
    refine HW.cond (!r_5) rfl (fun c_3 => ?_) (fun c_3 => ?_)
    ·
     replace hM := hM.1 c_3
     refine HW.region ?_
     refine oM (vout_2) rfl rfl ?_
     refine oM (vall_2) rfl rfl ?_
     refine oM (.int .i64 i_2) rfl rfl ?_
     refine oV (elemPtr 1 vall_2 (i_2).toNat) (q_idx ts_36 (hS.own 4 rfl).slice rfl rfl ho_5) rfl ?_
     refine oV (.int .i64 (gi all_1 i_2)) (q_ldElem to_3 (hS.own 4 rfl).slice rfl ho_5 rfl) rfl ?_
     refine HO.eff (want_none) rfl (st_lit (enc := encI) (cells := #[.int .i64 (gi all_1 i_2)]) #[.int .i64 0] ([(gi all_1 i_2)] : List Int) hS tl_36 (by decide) (by decide) (by kernel_rfl) (by kernel_rfl) rfl (by intro x hx; rfl) rfl) ?_
     rintro _ h_109 ⟨b_50, rfl, hS, hk⟩
     replace hK := hK.trans hk
     replace hL_a_Links := hL_a_Links.kp hk
     replace hL_b_Links := hL_b_Links.kp hk
     obtain ⟨ho_6, hM⟩ := hM
     refine HO.eff (want_none) rfl (st_append te_36 hS (i := 6) rfl (hS.own 0 rfl).slice rfl rfl rfl (by intro a _ u hu; simp [encI, encI, encN, encB, encT] at hu; subst hu; rfl) ho_6 (by omega)) ?_
     rintro v_46 h_110 ⟨hS, hk⟩
     replace hS : St F_38 (Ow.own 3 1 encI (.slice (some ⟨b_50, 0, none⟩) 1 1) ([(gi all_1 i_2)] : List Int) :: Ow.own 3 1 encI vr_3 r_3 :: Ow.own 3 1 encI vr_4 r_4 :: Ow.box b_1 24 #[.int .i64 a_Root, va_Links] :: Ow.box b_2 24 #[.int .i64 b_Root, vb_Links] :: Ow.own 3 1 encI vall_2 all_1 :: Ow.own 3 1 encI v_46 (out_1 ++ ([(gi all_1 i_2)] : List Int)) :: fr) h_110 := hS
     replace hK := hK.trans hk
     replace hL_a_Links := hL_a_Links.kp hk
     replace hL_b_Links := hL_b_Links.kp hk
     refine oA (v_46) rfl rfl ?_
     refine HO.nil (blockQ_normal (thenQ_normal (?_)))
     refine HW.region ?_
     refine oM (.int .i64 i_2) rfl rfl ?_
     obtain ⟨ho_7, hM⟩ := hM
     refine oV (.int .i64 (i_2 + 1)) (q_addN _ rfl rfl rfl ho_7.1 ho_7.2) rfl ?_
     refine oA (.int .i64 (i_2 + 1)) rfl rfl ?_
     refine HO.nil (thenQ_normal (?_))
     replace hS : St F_38 (Ow.box b_1 24 #[.int .i64 a_Root, va_Links] :: Ow.box b_2 24 #[.int .i64 b_Root, vb_Links] :: Ow.own 3 1 encI vall_2 all_1 :: Ow.own 3 1 encI v_46 (out_1 ++ ([(gi all_1 i_2)] : List Int)) :: fr) h_110 := hS.perm2 [3, 4, 5, 6] 7 rfl rfl
     rw [hKe_2] at hM
     exact ⟨(out_1 ++ ([(gi all_1 i_2)] : List Int), i_2 + 1), ⟨F_38, v_46, rfl, rfl, rfl, rfl, rfl, rfl, hK, hS, hL_a_Links, hL_b_Links, hM.1⟩, hM.2⟩
    ·
     replace hM := hM.2 c_3
     refine HW.skip (blockQ_normal (thenQ_normal (?_)))
     refine HW.region ?_
     refine oM (.int .i64 i_2) rfl rfl ?_
     obtain ⟨ho_8, hM⟩ := hM
     refine oV (.int .i64 (i_2 + 1)) (q_addN _ rfl rfl rfl ho_8.1 ho_8.2) rfl ?_
     refine oA (.int .i64 (i_2 + 1)) rfl rfl ?_
     refine HO.nil (thenQ_normal (?_))
     replace hS : St F_38 (Ow.box b_1 24 #[.int .i64 a_Root, va_Links] :: Ow.box b_2 24 #[.int .i64 b_Root, vb_Links] :: Ow.own 3 1 encI vall_2 all_1 :: Ow.own 3 1 encI vout_2 out_1 :: fr) h_108 := hS.perm2 [2, 3, 4, 5] 6 rfl rfl
     rw [hKe_2] at hM
     exact ⟨(out_1, i_2 + 1), ⟨F_38, vout_2, rfl, rfl, rfl, rfl, rfl, rfl, hK, hS, hL_a_Links, hL_b_Links, hM.1⟩, hM.2⟩
   ·
    replace hM := hM.2 (of_decide_eq_false c_2)
    refine HW.exit (thenQ_exit (thenQ_exit (blockQ_exit (thenQ_normal (?_)))))
    refine HW.seq ?_
    refine HW.region ?_
    refine oM (vout_2) rfl rfl ?_
    refine oA (vout_2) rfl rfl ?_
    refine HO.nil (thenQ_normal (?_))
    refine HW.ret (?_)
    refine ⟨.inr rfl, vout_2, res1 rfl (rt rfl), ?_⟩
    replace hS : St F_34 (Ow.own 3 1 encI vout_2 out_1 :: fr) h_105 := hS.perm2 [3] 4 rfl rfl
    exact ⟨F_34, out_1, vout_2, rfl, hK, hS, hL_a_Links, hL_b_Links, hM⟩

def law32_TreeChanges_j2 (Q : Bool → Prop) (r_0_1 : Int) (r_1_1 : List T_api_Branch) (r_0_2 : Int) (r_1_2 : List T_api_Branch) (r_5 : List Int) (b_4 : Bool) : Prop :=
 (b_4 = true → Q false) ∧ (b_4 = false → (¬ (r_0_1 = r_0_2) → law32_lives_W  (fun r_10 => Q r_10)) ∧ (r_0_1 = r_0_2 → ref32_Same_W r_0_1 r_1_1 r_0_2 r_1_2 (fun r_11 => (((decide ((r_5.length : Int) = 0)) == r_11) = true → law32_lives_W  (fun r_12 => Q r_12)) ∧ (((decide ((r_5.length : Int) = 0)) == r_11) = false → Q false))))
def law32_TreeChanges_j1 (Q : Bool → Prop) (r_0_1 : Int) (r_1_1 : List T_api_Branch) (r_0_2 : Int) (r_1_2 : List T_api_Branch) (b_3 : Bool) : Prop :=
 (b_3 = true → law32_lives_W  (fun r_4 => Q r_4)) ∧ (b_3 = false → law32_Few_W r_0_1 r_1_1 (fun r_0_3 r_1_3 => law32_Few_W r_0_2 r_1_2 (fun r_0_4 r_1_4 => tree_Changed_W r_0_3 r_1_3 r_0_4 r_1_4 (fun r_5 => ref32_Changed_W r_0_1 r_1_1 r_0_2 r_1_2 (fun r_6 => ref32_SameInts_W r_5 r_6 (fun r_7 => ((!r_7) = true → law32_TreeChanges_j2 Q r_0_1 r_1_1 r_0_2 r_1_2 r_5 true) ∧ ((!r_7) = false → law32_Few_W r_0_1 r_1_1 (fun r_0_5 r_1_5 => law32_Few_W r_0_2 r_1_2 (fun r_0_6 r_1_6 => tree_Same_W r_0_5 r_1_5 r_0_6 r_1_6 (fun r_8 => ref32_Same_W r_0_1 r_1_1 r_0_2 r_1_2 (fun r_9 => law32_TreeChanges_j2 Q r_0_1 r_1_1 r_0_2 r_1_2 r_5 (!(r_8 == r_9)))))))))))))
def law32_TreeChanges_W (a_Root : Int) (a_Links : List T_api_Branch) (b_Root : Int) (b_Links : List T_api_Branch) (Q : Bool → Prop) : Prop :=
 law32_Few_W a_Root a_Links (fun r_0_1 r_1_1 => law32_Few_W b_Root b_Links (fun r_0_2 r_1_2 => ref32_Good_W r_0_1 r_1_1 (fun r_2 => ((!r_2) = true → law32_TreeChanges_j1 Q r_0_1 r_1_1 r_0_2 r_1_2 true) ∧ ((!r_2) = false → ref32_Good_W r_0_2 r_1_2 (fun r_3 => law32_TreeChanges_j1 Q r_0_1 r_1_1 r_0_2 r_1_2 (!r_3))))))
set_option maxHeartbeats 40000000 in
set_option maxRecDepth 100000 in
theorem law32_TreeChanges_walk {F : Fz} {fr : List Ow} {h0 : Heap} (a_Root : Int) (a_Links : List T_api_Branch) (b_Root : Int) (b_Links : List T_api_Branch) (va_Links : Value) (vb_Links : Value) (gvS : Value) (gbS : Bool) (gvR : Value) (gbR : Bool) (gm : Int) (hS : St F (fr) h0) (hL_a_Links : SliceF F h0 2 e_api_Branch va_Links a_Links) (hL_b_Links : SliceF F h0 2 e_api_Branch vb_Links b_Links) (hG_0 : RoF (Ow.box 0 53 #[gvS]) F h0) (hE_gvS : ErrF gbS gvS F h0) (hG_1 : RoF (Ow.box 1 53 #[gvR]) F h0) (hE_gvR : ErrF gbR gvR F h0) (hG_2 : RoF (Ow.box 2 3 #[.int .i64 gm]) F h0) (hG_5 : RoF (Ow.box 5 163 (tab10 ()).toArray) F h0) (hD : DM.on = false) {Q : Bool → Prop} (hM : law32_TreeChanges_W a_Root a_Links b_Root b_Links Q) :
  HC Tryz.prog 5 #[.agg #[.int .i64 a_Root, va_Links], .agg #[.int .i64 b_Root, vb_Links]] h0 fun u h' => ∃ (F' : Fz) (r_1 : Bool), u = .bool r_1 ∧ Kp F h0 F' h' ∧ St F' (fr) h' ∧ (SliceF F' h' 2 e_api_Branch va_Links a_Links) ∧ (SliceF F' h' 2 e_api_Branch vb_Links b_Links) ∧ (RoF (Ow.box 0 53 #[gvS]) F' h') ∧ (ErrF gbS gvS F' h') ∧ (RoF (Ow.box 1 53 #[gvR]) F' h') ∧ (ErrF gbR gvR F' h') ∧ (RoF (Ow.box 2 3 #[.int .i64 gm]) F' h') ∧ (RoF (Ow.box 5 163 (tab10 ()).toArray) F' h') ∧ Q r_1 := by
 unfold law32_TreeChanges_W at hM
 have hK := Kp.refl F h0
 refine HC.of_HW (n := 58) Tryz.func5 rfl rfl (Nat.le_of_ble_eq_true rfl) ?_
 refine HW.seq ?_
 refine HW.region ?_
 refine HO.eff (want_none) rfl (st_box (c := #[.int .i64 a_Root, va_Links]) (k' := 2) hS rfl rfl) ?_
 rintro _ h_1 ⟨b_1, rfl, hS, hk⟩
 replace hK := hK.trans hk
 replace hL_a_Links := hL_a_Links.kp hk
 replace hL_b_Links := hL_b_Links.kp hk
 replace hG_0 := hG_0.kp hk
 replace hE_gvS := hE_gvS.kp hk
 replace hG_1 := hG_1.kp hk
 replace hE_gvR := hE_gvR.kp hk
 replace hG_2 := hG_2.kp hk
 replace hG_5 := hG_5.kp hk
 refine HO.eff (want_none) rfl (st_box (c := #[.int .i64 b_Root, vb_Links]) (k' := 2) hS rfl rfl) ?_
 rintro _ h_2 ⟨b_2, rfl, hS, hk⟩
 replace hK := hK.trans hk
 replace hL_a_Links := hL_a_Links.kp hk
 replace hL_b_Links := hL_b_Links.kp hk
 replace hG_0 := hG_0.kp hk
 replace hE_gvS := hE_gvS.kp hk
 replace hG_1 := hG_1.kp hk
 replace hE_gvR := hE_gvR.kp hk
 replace hG_2 := hG_2.kp hk
 replace hG_5 := hG_5.kp hk
 refine oA (.bool false) rfl rfl ?_
 refine HO.nil (thenQ_normal (?_))
 refine HW.seq ?_
 refine HW.regionA 6 mixed (fun h => True) [(4, fun h => (Blk h b_1 (.cells #[.int .i64 a_Root, va_Links] 24 (0, 0)))), (5, fun h => (Blk h b_2 (.cells #[.int .i64 b_Root, vb_Links] 24 (0, 0))))] (by kernel_rfl) ?_
 refine Go.Wk.HA.valN (k := 0) (v := .agg #[.int .i64 a_Root, va_Links]) 0 4 (fun h => (Blk h b_1 (.cells #[.int .i64 a_Root, va_Links] 24 (0, 0)))) rfl rfl (by kernel_rfl) (by kernel_rfl) (want_none) rfl rfl (by kernel_rfl) (fun _ _ c201 => q_loadAgg (cs := [.int .i64 a_Root, va_Links]) ta_24 rfl rfl (Blk.cells (k := 2) c201 rfl)) ?_
 refine Go.Wk.HA.valN (k := 2) (v := .agg #[.int .i64 b_Root, vb_Links]) 1 5 (fun h => (Blk h b_2 (.cells #[.int .i64 b_Root, vb_Links] 24 (0, 0)))) rfl rfl (by kernel_rfl) (by kernel_rfl) (want_none) rfl rfl (by kernel_rfl) (fun _ _ c202 => q_loadAgg (cs := [.int .i64 b_Root, vb_Links]) ta_24 rfl rfl (Blk.cells (k := 2) c202 rfl)) ?_
 refine HA.one (k := 1) ⟨trivial, (at_now (hS.box 1 rfl) (at_now (hS.box 0 rfl) (Go.Wk.at_nil _ _)))⟩ (by kernel_rfl) ?_
 refine HS.call rfl (want_none) rfl (ec en_8 rfl rfl) (law32_Few_walk (fr := (Ow.box b_2 24 #[.int .i64 b_Root, vb_Links] :: Ow.box b_1 24 #[.int .i64 a_Root, va_Links] :: fr)) a_Root a_Links va_Links hS hL_a_Links hM) ?_
 rintro _ h_3 ⟨F_1, r_0_1, r_1_1, vr_1_1, rfl, hk, hS, _, hM⟩
 replace hK := hK.trans hk
 replace hL_a_Links := hL_a_Links.kp hk
 replace hL_b_Links := hL_b_Links.kp hk
 replace hG_0 := hG_0.kp hk
 replace hE_gvS := hE_gvS.kp hk
 replace hG_1 := hG_1.kp hk
 replace hE_gvR := hE_gvR.kp hk
 replace hG_2 := hG_2.kp hk
 replace hG_5 := hG_5.kp hk
 refine HA.one (k := 3) ⟨trivial, (at_now (hS.box 2 rfl) (at_now (hS.box 1 rfl) (Go.Wk.at_nil _ _)))⟩ (by kernel_rfl) ?_
 refine HS.call rfl (want_none) rfl (ec en_8 rfl rfl) (law32_Few_walk (fr := (Ow.own 46 2 e_api_Branch vr_1_1 r_1_1 :: Ow.box b_2 24 #[.int .i64 b_Root, vb_Links] :: Ow.box b_1 24 #[.int .i64 a_Root, va_Links] :: fr)) b_Root b_Links vb_Links hS hL_b_Links hM) ?_
 rintro _ h_4 ⟨F_2, r_0_2, r_1_2, vr_1_2, rfl, hk, hS, _, hM⟩
 replace hK := hK.trans hk
 replace hL_a_Links := hL_a_Links.kp hk
 replace hL_b_Links := hL_b_Links.kp hk
 replace hG_0 := hG_0.kp hk
 replace hE_gvS := hE_gvS.kp hk
 replace hG_1 := hG_1.kp hk
 replace hE_gvR := hE_gvR.kp hk
 replace hG_2 := hG_2.kp hk
 replace hG_5 := hG_5.kp hk
 refine HA.one (k := 4) ⟨trivial, (at_now (hS.box 3 rfl) (at_now (hS.box 2 rfl) (Go.Wk.at_nil _ _)))⟩ (by kernel_rfl) ?_
 refine HS.sto rfl (want_none) rfl (st_storeAgg (c' := #[.int .i64 r_0_1, vr_1_1]) hS (i := 3) rfl ta_24 rfl rfl rfl (List.forall_mem_cons.2 ⟨rfl, (List.forall_mem_cons.2 ⟨(shp (hS.own 1 rfl).slice).one, (fun _ h => by cases h)⟩)⟩) (Nat.le_of_ble_eq_true rfl) rfl) ?_
 rintro h_5 ⟨hS, hk⟩
 replace hS : St F_2 (Ow.own 46 2 e_api_Branch vr_1_2 r_1_2 :: Ow.own 46 2 e_api_Branch vr_1_1 r_1_1 :: Ow.box b_2 24 #[.int .i64 b_Root, vb_Links] :: Ow.box b_1 24 #[.int .i64 r_0_1, vr_1_1] :: fr) h_5 := hS
 replace hK := hK.trans hk
 replace hL_a_Links := hL_a_Links.kp hk
 replace hL_b_Links := hL_b_Links.kp hk
 replace hG_0 := hG_0.kp hk
 replace hE_gvS := hE_gvS.kp hk
 replace hG_1 := hG_1.kp hk
 replace hE_gvR := hE_gvR.kp hk
 replace hG_2 := hG_2.kp hk
 replace hG_5 := hG_5.kp hk
 refine HA.one (k := 5) ⟨trivial, (at_done (by kernel_rfl) (at_now (hS.box 2 rfl) (Go.Wk.at_nil _ _)))⟩ (by kernel_rfl) ?_
 refine HS.sto rfl (want_none) rfl (st_storeAgg (c' := #[.int .i64 r_0_2, vr_1_2]) hS (i := 2) rfl ta_24 rfl rfl rfl (List.forall_mem_cons.2 ⟨rfl, (List.forall_mem_cons.2 ⟨(shp (hS.own 0 rfl).slice).one, (fun _ h => by cases h)⟩)⟩) (Nat.le_of_ble_eq_true rfl) rfl) ?_
 rintro h_6 ⟨hS, hk⟩
 replace hS : St F_2 (Ow.own 46 2 e_api_Branch vr_1_2 r_1_2 :: Ow.own 46 2 e_api_Branch vr_1_1 r_1_1 :: Ow.box b_2 24 #[.int .i64 r_0_2, vr_1_2] :: Ow.box b_1 24 #[.int .i64 r_0_1, vr_1_1] :: fr) h_6 := hS
 replace hK := hK.trans hk
 replace hL_a_Links := hL_a_Links.kp hk
 replace hL_b_Links := hL_b_Links.kp hk
 replace hG_0 := hG_0.kp hk
 replace hE_gvS := hE_gvS.kp hk
 replace hG_1 := hG_1.kp hk
 replace hE_gvR := hE_gvR.kp hk
 replace hG_2 := hG_2.kp hk
 replace hG_5 := hG_5.kp hk
 refine HA.nil ⟨trivial, (at_done (by kernel_rfl) (at_done (by kernel_rfl) (Go.Wk.at_nil _ _)))⟩ (by kernel_rfl) (thenQ_normal (?_))
 refine HW.seq ?_
 refine HW.seq_mid (fun f h => ∃ (F' : Fz) (b_3 : Bool), f 2 = .pointer (some ⟨b_1, 0, none⟩) ∧ f 3 = .pointer (some ⟨b_2, 0, none⟩) ∧ f 4 = .bool false ∧ f 17 = .bool b_3 ∧ Kp F h0 F' h ∧ St F' (Ow.box b_1 24 #[.int .i64 r_0_1, vr_1_1] :: Ow.own 46 2 e_api_Branch vr_1_1 r_1_1 :: Ow.box b_2 24 #[.int .i64 r_0_2, vr_1_2] :: Ow.own 46 2 e_api_Branch vr_1_2 r_1_2 :: fr) h ∧ (SliceF F' h 2 e_api_Branch va_Links a_Links) ∧ (SliceF F' h 2 e_api_Branch vb_Links b_Links) ∧ (RoF (Ow.box 0 53 #[gvS]) F' h) ∧ (ErrF gbS gvS F' h) ∧ (RoF (Ow.box 1 53 #[gvR]) F' h) ∧ (ErrF gbR gvR F' h) ∧ (RoF (Ow.box 2 3 #[.int .i64 gm]) F' h) ∧ (RoF (Ow.box 5 163 (tab10 ()).toArray) F' h) ∧ law32_TreeChanges_j1 Q r_0_1 r_1_1 r_0_2 r_1_2 b_3) ?_ ?_
 ·
  refine HW.region ?_
  refine oV (.agg #[.int .i64 r_0_1, vr_1_1]) (q_loadAgg (cs := [.int .i64 r_0_1, vr_1_1]) ta_24 rfl rfl (Blk.cells (k := 2) (hS.box 3 rfl) rfl)) rfl ?_
  replace hS : St F_2 (Ow.own 46 2 e_api_Branch vr_1_1 r_1_1 :: Ow.own 46 2 e_api_Branch vr_1_2 r_1_2 :: Ow.box b_2 24 #[.int .i64 r_0_2, vr_1_2] :: Ow.box b_1 24 #[.int .i64 r_0_1, vr_1_1] :: fr) h_6 := hS.perm2 [1, 0, 2, 3] 4 rfl rfl
  have hZ_1 := hS
  have hkz_1 := (hS.freeze).2
  replace hS := hS.freeze.1
  have hL_1 : SliceF (fun bz_ => F_2 bz_ ∨ (Ow.own 46 2 e_api_Branch vr_1_1 r_1_1).foot bz_) h_6 2 e_api_Branch vr_1_1 r_1_1 := ⟨(hZ_1.own 0 rfl).slice, fun _ b hb => .inr hb⟩
  refine HO.call (want_none) rfl (ec en_12 rfl rfl) (ref32_Good_walk (fr := (Ow.own 46 2 e_api_Branch vr_1_2 r_1_2 :: Ow.box b_2 24 #[.int .i64 r_0_2, vr_1_2] :: Ow.box b_1 24 #[.int .i64 r_0_1, vr_1_1] :: fr)) r_0_1 r_1_1 vr_1_1 hS hL_1 hM) ?_
  rintro _ h_7 ⟨F_3, r_2, rfl, hk, hS, _, hM⟩
  obtain ⟨hS, hk⟩ := hZ_1.back hk hS
  generalize (fun bz_ => F_3 bz_ ∧ ¬ (Ow.own 46 2 e_api_Branch vr_1_1 r_1_1).foot bz_) = F_4 at hS hk
  replace hK := hK.trans hk
  replace hL_a_Links := hL_a_Links.kp hk
  replace hL_b_Links := hL_b_Links.kp hk
  replace hG_0 := hG_0.kp hk
  replace hE_gvS := hE_gvS.kp hk
  replace hG_1 := hG_1.kp hk
  replace hE_gvR := hE_gvR.kp hk
  replace hG_2 := hG_2.kp hk
  replace hG_5 := hG_5.kp hk
  refine oV (.bool (!r_2)) (q_not rfl) rfl ?_
  refine oM (.bool (!r_2)) rfl rfl ?_
  rcases Bool.eq_false_or_eq_true (!r_2) with c_1 | c_1
  ·
   replace hM := hM.1 c_1
   refine HO.past (past_by rfl rfl c_1) rfl ?_
   refine HO.past (past_by rfl rfl c_1) rfl ?_
   refine HO.past (past_by rfl rfl c_1) rfl ?_
   refine oV (.bool true) (q_pickK true rfl c_1 rfl) rfl ?_
   refine HO.nil (thenQ_normal (?_))
   replace hS : St F_4 (Ow.box b_1 24 #[.int .i64 r_0_1, vr_1_1] :: Ow.own 46 2 e_api_Branch vr_1_1 r_1_1 :: Ow.box b_2 24 #[.int .i64 r_0_2, vr_1_2] :: Ow.own 46 2 e_api_Branch vr_1_2 r_1_2 :: fr) h_7 := hS.perm2 [3, 0, 2, 1] 4 rfl rfl
   exact ⟨F_4, true, rfl, rfl, rfl, rfl, hK, hS, hL_a_Links, hL_b_Links, hG_0, hE_gvS, hG_1, hE_gvR, hG_2, hG_5, hM⟩
  ·
   replace hM := hM.2 c_1
   refine HO.val (v := .agg #[.int .i64 r_0_2, vr_1_2]) (want_by rfl rfl c_1) rfl (q_loadAgg (cs := [.int .i64 r_0_2, vr_1_2]) ta_24 rfl rfl (Blk.cells (k := 2) (hS.box 2 rfl) rfl)) ?_
   replace hS : St F_4 (Ow.own 46 2 e_api_Branch vr_1_2 r_1_2 :: Ow.own 46 2 e_api_Branch vr_1_1 r_1_1 :: Ow.box b_2 24 #[.int .i64 r_0_2, vr_1_2] :: Ow.box b_1 24 #[.int .i64 r_0_1, vr_1_1] :: fr) h_7 := hS.perm2 [1, 0, 2, 3] 4 rfl rfl
   have hZ_2 := hS
   have hkz_2 := (hS.freeze).2
   replace hS := hS.freeze.1
   have hL_2 : SliceF (fun bz_ => F_4 bz_ ∨ (Ow.own 46 2 e_api_Branch vr_1_2 r_1_2).foot bz_) h_7 2 e_api_Branch vr_1_2 r_1_2 := ⟨(hZ_2.own 0 rfl).slice, fun _ b hb => .inr hb⟩
   refine HO.call (want_by rfl rfl c_1) rfl (ec en_12 rfl rfl) (ref32_Good_walk (fr := (Ow.own 46 2 e_api_Branch vr_1_1 r_1_1 :: Ow.box b_2 24 #[.int .i64 r_0_2, vr_1_2] :: Ow.box b_1 24 #[.int .i64 r_0_1, vr_1_1] :: fr)) r_0_2 r_1_2 vr_1_2 hS hL_2 hM) ?_
   rintro _ h_8 ⟨F_5, r_3, rfl, hk, hS, _, hM⟩
   obtain ⟨hS, hk⟩ := hZ_2.back hk hS
   generalize (fun bz_ => F_5 bz_ ∧ ¬ (Ow.own 46 2 e_api_Branch vr_1_2 r_1_2).foot bz_) = F_6 at hS hk
   replace hK := hK.trans hk
   replace hL_a_Links := hL_a_Links.kp hk
   replace hL_b_Links := hL_b_Links.kp hk
   replace hG_0 := hG_0.kp hk
   replace hE_gvS := hE_gvS.kp hk
   replace hG_1 := hG_1.kp hk
   replace hE_gvR := hE_gvR.kp hk
   replace hG_2 := hG_2.kp hk
   replace hG_5 := hG_5.kp hk
   refine HO.val (v := .bool (!r_3)) (want_by rfl rfl c_1) rfl (q_not rfl) ?_
   refine oV (.bool (!r_3)) (q_pickK false rfl c_1 rfl) rfl ?_
   refine HO.nil (thenQ_normal (?_))
   replace hS : St F_6 (Ow.box b_1 24 #[.int .i64 r_0_1, vr_1_1] :: Ow.own 46 2 e_api_Branch vr_1_1 r_1_1 :: Ow.box b_2 24 #[.int .i64 r_0_2, vr_1_2] :: Ow.own 46 2 e_api_Branch vr_1_2 r_1_2 :: fr) h_8 := hS.perm2 [3, 1, 2, 0] 4 rfl rfl
   exact ⟨F_6, !r_3, rfl, rfl, rfl, rfl, hK, hS, hL_a_Links, hL_b_Links, hG_0, hE_gvS, hG_1, hE_gvR, hG_2, hG_5, hM⟩
 ·
  rintro f_1 h_9 ⟨F_7, b_3, e2, e3, e4, e17, hK, hS, hL_a_Links, hL_b_Links, hG_0, hE_gvS, hG_1, hE_gvR, hG_2, hG_5, hM⟩
  unfold law32_TreeChanges_j1 at hM
  refine HW.fr [(2, .pointer (some ⟨b_1, 0, none⟩)), (3, .pointer (some ⟨b_2, 0, none⟩)), (4, .bool false), (17, .bool b_3)] ⟨e2, e3, e4, e17, trivial⟩ ?_
  refine HW.cond b_3 rfl (fun c_2 => ?_) (fun c_2 => ?_)
  ·
   replace hM := hM.1 c_2
   refine HW.seq ?_
   refine HW.region ?_
   refine HO.call (want_none) rfl (ec en_14 rfl rfl) (law32_lives_walk (fr := (Ow.box b_1 24 #[.int .i64 r_0_1, vr_1_1] :: Ow.own 46 2 e_api_Branch vr_1_1 r_1_1 :: Ow.box b_2 24 #[.int .i64 r_0_2, vr_1_2] :: Ow.own 46 2 e_api_Branch vr_1_2 r_1_2 :: fr)) gvS gbS gvR gbR gm hS hG_0 hE_gvS hG_1 hE_gvR hG_2 hG_5 hD hM) ?_
   rintro _ h_10 ⟨F_8, r_4, rfl, hk, hS, _, _, _, _, _, _, hM⟩
   replace hK := hK.trans hk
   replace hL_a_Links := hL_a_Links.kp hk
   replace hL_b_Links := hL_b_Links.kp hk
   replace hG_0 := hG_0.kp hk
   replace hE_gvS := hE_gvS.kp hk
   replace hG_1 := hG_1.kp hk
   replace hE_gvR := hE_gvR.kp hk
   replace hG_2 := hG_2.kp hk
   replace hG_5 := hG_5.kp hk
   refine oA (.bool r_4) rfl rfl ?_
   refine HO.nil (thenQ_normal (?_))
   refine HW.ret (thenQ_ret (?_))
   refine ⟨.inr rfl, .bool r_4, res1 rfl (rt rfl), ?_⟩
   replace hS : St F_8 (fr) h_10 := hS.perm2 [] 4 rfl rfl
   exact ⟨F_8, r_4, rfl, hK, hS, hL_a_Links, hL_b_Links, hG_0, hE_gvS, hG_1, hE_gvR, hG_2, hG_5, hM⟩
  ·
   replace hM := hM.2 c_2
   refine HW.skip (thenQ_normal (?_))
   refine HW.seq ?_
   refine HW.regionA 6 mixed (fun h => (Blk h b_1 (.cells #[.int .i64 r_0_1, vr_1_1] 24 (0, 0))) ∧ (Blk h b_2 (.cells #[.int .i64 r_0_2, vr_1_2] 24 (0, 0)))) [] (by kernel_rfl) ?_
   refine HA.val (k := 0) (v := .agg #[.int .i64 r_0_1, vr_1_1]) rfl rfl (by kernel_rfl) (by kernel_rfl) (want_none) rfl (fun _ ⟨c245, c247⟩ => q_loadAgg (cs := [.int .i64 r_0_1, vr_1_1]) ta_24 rfl rfl (Blk.cells (k := 2) c245 rfl)) ?_
   refine HA.val (k := 2) (v := .agg #[.int .i64 r_0_2, vr_1_2]) rfl rfl (by kernel_rfl) (by kernel_rfl) (want_none) rfl (fun _ ⟨c245, c247⟩ => q_loadAgg (cs := [.int .i64 r_0_2, vr_1_2]) ta_24 rfl rfl (Blk.cells (k := 2) c247 rfl)) ?_
   refine HA.one (k := 1) ⟨⟨(hS.box 0 rfl), (hS.box 2 rfl)⟩, (Go.Wk.at_nil _ _)⟩ (by kernel_rfl) ?_
   replace hS : St F_7 (Ow.own 46 2 e_api_Branch vr_1_1 r_1_1 :: Ow.box b_1 24 #[.int .i64 r_0_1, vr_1_1] :: Ow.box b_2 24 #[.int .i64 r_0_2, vr_1_2] :: Ow.own 46 2 e_api_Branch vr_1_2 r_1_2 :: fr) h_9 := hS.perm2 [1, 0, 2, 3] 4 rfl rfl
   have hZ_3 := hS
   have hkz_3 := (hS.freeze).2
   replace hS := hS.freeze.1
   have hL_3 : SliceF (fun bz_ => F_7 bz_ ∨ (Ow.own 46 2 e_api_Branch vr_1_1 r_1_1).foot bz_) h_9 2 e_api_Branch vr_1_1 r_1_1 := ⟨(hZ_3.own 0 rfl).slice, fun _ b hb => .inr hb⟩
   refine HS.call rfl (want_none) rfl (ec en_8 rfl rfl) (law32_Few_walk (fr := (Ow.box b_1 24 #[.int .i64 r_0_1, vr_1_1] :: Ow.box b_2 24 #[.int .i64 r_0_2, vr_1_2] :: Ow.own 46 2 e_api_Branch vr_1_2 r_1_2 :: fr)) r_0_1 r_1_1 vr_1_1 hS hL_3 hM) ?_
   rintro _ h_11 ⟨F_9, r_0_3, r_1_3, vr_1_3, rfl, hk, hS, _, hM⟩
   obtain ⟨hS, hk⟩ := hZ_3.back hk hS
   generalize (fun bz_ => F_9 bz_ ∧ ¬ (Ow.own 46 2 e_api_Branch vr_1_1 r_1_1).foot bz_) = F_10 at hS hk
   replace hK := hK.trans hk
   replace hL_a_Links := hL_a_Links.kp hk
   replace hL_b_Links := hL_b_Links.kp hk
   replace hG_0 := hG_0.kp hk
   replace hE_gvS := hE_gvS.kp hk
   replace hG_1 := hG_1.kp hk
   replace hE_gvR := hE_gvR.kp hk
   replace hG_2 := hG_2.kp hk
   replace hG_5 := hG_5.kp hk
   refine HA.one (k := 3) ⟨⟨(hS.box 2 rfl), (hS.box 3 rfl)⟩, (Go.Wk.at_nil _ _)⟩ (by kernel_rfl) ?_
   replace hS : St F_10 (Ow.own 46 2 e_api_Branch vr_1_2 r_1_2 :: Ow.own 46 2 e_api_Branch vr_1_1 r_1_1 :: Ow.own 46 2 e_api_Branch vr_1_3 r_1_3 :: Ow.box b_1 24 #[.int .i64 r_0_1, vr_1_1] :: Ow.box b_2 24 #[.int .i64 r_0_2, vr_1_2] :: fr) h_11 := hS.perm2 [4, 0, 1, 2, 3] 5 rfl rfl
   have hZ_4 := hS
   have hkz_4 := (hS.freeze).2
   replace hS := hS.freeze.1
   have hL_4 : SliceF (fun bz_ => F_10 bz_ ∨ (Ow.own 46 2 e_api_Branch vr_1_2 r_1_2).foot bz_) h_11 2 e_api_Branch vr_1_2 r_1_2 := ⟨(hZ_4.own 0 rfl).slice, fun _ b hb => .inr hb⟩
   refine HS.call rfl (want_none) rfl (ec en_8 rfl rfl) (law32_Few_walk (fr := (Ow.own 46 2 e_api_Branch vr_1_1 r_1_1 :: Ow.own 46 2 e_api_Branch vr_1_3 r_1_3 :: Ow.box b_1 24 #[.int .i64 r_0_1, vr_1_1] :: Ow.box b_2 24 #[.int .i64 r_0_2, vr_1_2] :: fr)) r_0_2 r_1_2 vr_1_2 hS hL_4 hM) ?_
   rintro _ h_12 ⟨F_11, r_0_4, r_1_4, vr_1_4, rfl, hk, hS, _, hM⟩
   obtain ⟨hS, hk⟩ := hZ_4.back hk hS
   generalize (fun bz_ => F_11 bz_ ∧ ¬ (Ow.own 46 2 e_api_Branch vr_1_2 r_1_2).foot bz_) = F_12 at hS hk
   replace hK := hK.trans hk
   replace hL_a_Links := hL_a_Links.kp hk
   replace hL_b_Links := hL_b_Links.kp hk
   replace hG_0 := hG_0.kp hk
   replace hE_gvS := hE_gvS.kp hk
   replace hG_1 := hG_1.kp hk
   replace hE_gvR := hE_gvR.kp hk
   replace hG_2 := hG_2.kp hk
   replace hG_5 := hG_5.kp hk
   refine HA.one (k := 4) ⟨⟨(hS.box 4 rfl), (hS.box 5 rfl)⟩, (Go.Wk.at_nil _ _)⟩ (by kernel_rfl) ?_
   replace hS : St F_12 (Ow.own 46 2 e_api_Branch vr_1_3 r_1_3 :: Ow.own 46 2 e_api_Branch vr_1_2 r_1_2 :: Ow.own 46 2 e_api_Branch vr_1_4 r_1_4 :: Ow.own 46 2 e_api_Branch vr_1_1 r_1_1 :: Ow.box b_1 24 #[.int .i64 r_0_1, vr_1_1] :: Ow.box b_2 24 #[.int .i64 r_0_2, vr_1_2] :: fr) h_12 := hS.perm2 [3, 0, 1, 2, 4, 5] 6 rfl rfl
   have hZ_5 := hS
   have hkz_5 := (hS.freeze).2
   replace hS := hS.freeze.1
   have hL_5 : SliceF (fun bz_ => F_12 bz_ ∨ (Ow.own 46 2 e_api_Branch vr_1_3 r_1_3).foot bz_) h_12 2 e_api_Branch vr_1_3 r_1_3 := ⟨(hZ_5.own 0 rfl).slice, fun _ b hb => .inr hb⟩
   replace hS : St (fun bz_ => F_12 bz_ ∨ (Ow.own 46 2 e_api_Branch vr_1_3 r_1_3).foot bz_) (Ow.own 46 2 e_api_Branch vr_1_4 r_1_4 :: Ow.own 46 2 e_api_Branch vr_1_2 r_1_2 :: Ow.own 46 2 e_api_Branch vr_1_1 r_1_1 :: Ow.box b_1 24 #[.int .i64 r_0_1, vr_1_1] :: Ow.box b_2 24 #[.int .i64 r_0_2, vr_1_2] :: fr) h_12 := hS.perm2 [1, 0, 2, 3, 4] 5 rfl rfl
   have hZ_6 := hS
   have hkz_6 := (hS.freeze).2
   replace hS := hS.freeze.1
   have hL_6 : SliceF (fun bz_ => (fun bz_ => F_12 bz_ ∨ (Ow.own 46 2 e_api_Branch vr_1_3 r_1_3).foot bz_) bz_ ∨ (Ow.own 46 2 e_api_Branch vr_1_4 r_1_4).foot bz_) h_12 2 e_api_Branch vr_1_4 r_1_4 := ⟨(hZ_6.own 0 rfl).slice, fun _ b hb => .inr hb⟩
   refine HS.call rfl (want_none) rfl (ec en_35 rfl rfl) (tree_Changed_walk (fr := (Ow.own 46 2 e_api_Branch vr_1_2 r_1_2 :: Ow.own 46 2 e_api_Branch vr_1_1 r_1_1 :: Ow.box b_1 24 #[.int .i64 r_0_1, vr_1_1] :: Ow.box b_2 24 #[.int .i64 r_0_2, vr_1_2] :: fr)) r_0_3 r_1_3 r_0_4 r_1_4 vr_1_3 vr_1_4 hS (hL_5.kp hkz_6) hL_6 hM) ?_
   rintro vr_1 h_13 ⟨F_13, r_5, _, rfl, hk, hS, _, _, hM⟩
   obtain ⟨hS, hk⟩ := hZ_6.back hk hS
   obtain ⟨hS, hk⟩ := hZ_5.back hk hS
   generalize (fun bz_ => (fun bz_ => F_13 bz_ ∧ ¬ (Ow.own 46 2 e_api_Branch vr_1_4 r_1_4).foot bz_) bz_ ∧ ¬ (Ow.own 46 2 e_api_Branch vr_1_3 r_1_3).foot bz_) = F_14 at hS hk
   replace hK := hK.trans hk
   replace hL_a_Links := hL_a_Links.kp hk
   replace hL_b_Links := hL_b_Links.kp hk
   replace hG_0 := hG_0.kp hk
   replace hE_gvS := hE_gvS.kp hk
   replace hG_1 := hG_1.kp hk
   replace hE_gvR := hE_gvR.kp hk
   replace hG_2 := hG_2.kp hk
   replace hG_5 := hG_5.kp hk
   refine HA.val (k := 5) (v := vr_1) rfl rfl (by kernel_rfl) (by kernel_rfl) (want_none) rfl (fun _ ⟨c245, c247⟩ => q_assign rfl) ?_
   refine HA.nil ⟨⟨(hS.box 5 rfl), (hS.box 6 rfl)⟩, (Go.Wk.at_nil _ _)⟩ (by kernel_rfl) (thenQ_normal (?_))
   refine HW.seq ?_
   refine HW.seq_mid (fun f h => ∃ (F' : Fz) (b_4 : Bool), f 2 = .pointer (some ⟨b_1, 0, none⟩) ∧ f 3 = .pointer (some ⟨b_2, 0, none⟩) ∧ f 4 = .bool false ∧ f 5 = vr_1 ∧ f 40 = .bool b_4 ∧ Kp F h0 F' h ∧ St F' (Ow.box b_1 24 #[.int .i64 r_0_1, vr_1_1] :: Ow.own 46 2 e_api_Branch vr_1_1 r_1_1 :: Ow.box b_2 24 #[.int .i64 r_0_2, vr_1_2] :: Ow.own 46 2 e_api_Branch vr_1_2 r_1_2 :: Ow.own 3 1 encI vr_1 r_5 :: fr) h ∧ (SliceF F' h 2 e_api_Branch va_Links a_Links) ∧ (SliceF F' h 2 e_api_Branch vb_Links b_Links) ∧ (RoF (Ow.box 0 53 #[gvS]) F' h) ∧ (ErrF gbS gvS F' h) ∧ (RoF (Ow.box 1 53 #[gvR]) F' h) ∧ (ErrF gbR gvR F' h) ∧ (RoF (Ow.box 2 3 #[.int .i64 gm]) F' h) ∧ (RoF (Ow.box 5 163 (tab10 ()).toArray) F' h) ∧ law32_TreeChanges_j2 Q r_0_1 r_1_1 r_0_2 r_1_2 r_5 b_4) ?_ ?_
   ·
    refine HW.regionA 17 mixed (fun h => (Blk h b_1 (.cells #[.int .i64 r_0_1, vr_1_1] 24 (0, 0))) ∧ (Blk h b_2 (.cells #[.int .i64 r_0_2, vr_1_2] 24 (0, 0)))) [] (by kernel_rfl) ?_
    refine HA.val (k := 0) (v := vr_1) rfl rfl (by kernel_rfl) (by kernel_rfl) (want_none) rfl (fun _ ⟨c245, c247⟩ => q_move rfl) ?_
    refine HA.val (k := 1) (v := .agg #[.int .i64 r_0_1, vr_1_1]) rfl rfl (by kernel_rfl) (by kernel_rfl) (want_none) rfl (fun _ ⟨c245, c247⟩ => q_loadAgg (cs := [.int .i64 r_0_1, vr_1_1]) ta_24 rfl rfl (Blk.cells (k := 2) c245 rfl)) ?_
    refine HA.val (k := 2) (v := .agg #[.int .i64 r_0_2, vr_1_2]) rfl rfl (by kernel_rfl) (by kernel_rfl) (want_none) rfl (fun _ ⟨c245, c247⟩ => q_loadAgg (cs := [.int .i64 r_0_2, vr_1_2]) ta_24 rfl rfl (Blk.cells (k := 2) c247 rfl)) ?_
    refine HA.one (k := 3) ⟨⟨(hS.box 5 rfl), (hS.box 6 rfl)⟩, (Go.Wk.at_nil _ _)⟩ (by kernel_rfl) ?_
    replace hS : St F_14 (Ow.own 46 2 e_api_Branch vr_1_1 r_1_1 :: Ow.own 46 2 e_api_Branch vr_1_3 r_1_3 :: Ow.own 46 2 e_api_Branch vr_1_4 r_1_4 :: Ow.own 3 1 encI vr_1 r_5 :: Ow.own 46 2 e_api_Branch vr_1_2 r_1_2 :: Ow.box b_1 24 #[.int .i64 r_0_1, vr_1_1] :: Ow.box b_2 24 #[.int .i64 r_0_2, vr_1_2] :: fr) h_13 := hS.perm2 [4, 0, 1, 2, 3, 5, 6] 7 rfl rfl
    have hZ_7 := hS
    have hkz_7 := (hS.freeze).2
    replace hS := hS.freeze.1
    have hL_7 : SliceF (fun bz_ => F_14 bz_ ∨ (Ow.own 46 2 e_api_Branch vr_1_1 r_1_1).foot bz_) h_13 2 e_api_Branch vr_1_1 r_1_1 := ⟨(hZ_7.own 0 rfl).slice, fun _ b hb => .inr hb⟩
    replace hS : St (fun bz_ => F_14 bz_ ∨ (Ow.own 46 2 e_api_Branch vr_1_1 r_1_1).foot bz_) (Ow.own 46 2 e_api_Branch vr_1_2 r_1_2 :: Ow.own 46 2 e_api_Branch vr_1_3 r_1_3 :: Ow.own 46 2 e_api_Branch vr_1_4 r_1_4 :: Ow.own 3 1 encI vr_1 r_5 :: Ow.box b_1 24 #[.int .i64 r_0_1, vr_1_1] :: Ow.box b_2 24 #[.int .i64 r_0_2, vr_1_2] :: fr) h_13 := hS.perm2 [3, 0, 1, 2, 4, 5] 6 rfl rfl
    have hZ_8 := hS
    have hkz_8 := (hS.freeze).2
    replace hS := hS.freeze.1
    have hL_8 : SliceF (fun bz_ => (fun bz_ => F_14 bz_ ∨ (Ow.own 46 2 e_api_Branch vr_1_1 r_1_1).foot bz_) bz_ ∨ (Ow.own 46 2 e_api_Branch vr_1_2 r_1_2).foot bz_) h_13 2 e_api_Branch vr_1_2 r_1_2 := ⟨(hZ_8.own 0 rfl).slice, fun _ b hb => .inr hb⟩
    refine HS.call rfl (want_none) rfl (ec en_36 rfl rfl) (ref32_Changed_walk (fr := (Ow.own 46 2 e_api_Branch vr_1_3 r_1_3 :: Ow.own 46 2 e_api_Branch vr_1_4 r_1_4 :: Ow.own 3 1 encI vr_1 r_5 :: Ow.box b_1 24 #[.int .i64 r_0_1, vr_1_1] :: Ow.box b_2 24 #[.int .i64 r_0_2, vr_1_2] :: fr)) r_0_1 r_1_1 r_0_2 r_1_2 vr_1_1 vr_1_2 hS (hL_7.kp hkz_8) hL_8 hM) ?_
    rintro vr_2 h_14 ⟨F_15, r_6, _, rfl, hk, hS, _, _, hM⟩
    obtain ⟨hS, hk⟩ := hZ_8.back hk hS
    obtain ⟨hS, hk⟩ := hZ_7.back hk hS
    generalize (fun bz_ => (fun bz_ => F_15 bz_ ∧ ¬ (Ow.own 46 2 e_api_Branch vr_1_2 r_1_2).foot bz_) bz_ ∧ ¬ (Ow.own 46 2 e_api_Branch vr_1_1 r_1_1).foot bz_) = F_16 at hS hk
    replace hK := hK.trans hk
    replace hL_a_Links := hL_a_Links.kp hk
    replace hL_b_Links := hL_b_Links.kp hk
    replace hG_0 := hG_0.kp hk
    replace hE_gvS := hE_gvS.kp hk
    replace hG_1 := hG_1.kp hk
    replace hE_gvR := hE_gvR.kp hk
    replace hG_2 := hG_2.kp hk
    replace hG_5 := hG_5.kp hk
    refine HA.one (k := 4) ⟨⟨(hS.box 6 rfl), (hS.box 7 rfl)⟩, (Go.Wk.at_nil _ _)⟩ (by kernel_rfl) ?_
    replace hS : St F_16 (Ow.own 3 1 encI vr_1 r_5 :: Ow.own 46 2 e_api_Branch vr_1_1 r_1_1 :: Ow.own 46 2 e_api_Branch vr_1_2 r_1_2 :: Ow.own 3 1 encI vr_2 r_6 :: Ow.own 46 2 e_api_Branch vr_1_3 r_1_3 :: Ow.own 46 2 e_api_Branch vr_1_4 r_1_4 :: Ow.box b_1 24 #[.int .i64 r_0_1, vr_1_1] :: Ow.box b_2 24 #[.int .i64 r_0_2, vr_1_2] :: fr) h_14 := hS.perm2 [5, 0, 1, 2, 3, 4, 6, 7] 8 rfl rfl
    have hZ_9 := hS
    have hkz_9 := (hS.freeze).2
    replace hS := hS.freeze.1
    have hL_9 : SliceF (fun bz_ => F_16 bz_ ∨ (Ow.own 3 1 encI vr_1 r_5).foot bz_) h_14 1 encI vr_1 r_5 := ⟨(hZ_9.own 0 rfl).slice, fun _ b hb => .inr hb⟩
    replace hS : St (fun bz_ => F_16 bz_ ∨ (Ow.own 3 1 encI vr_1 r_5).foot bz_) (Ow.own 3 1 encI vr_2 r_6 :: Ow.own 46 2 e_api_Branch vr_1_1 r_1_1 :: Ow.own 46 2 e_api_Branch vr_1_2 r_1_2 :: Ow.own 46 2 e_api_Branch vr_1_3 r_1_3 :: Ow.own 46 2 e_api_Branch vr_1_4 r_1_4 :: Ow.box b_1 24 #[.int .i64 r_0_1, vr_1_1] :: Ow.box b_2 24 #[.int .i64 r_0_2, vr_1_2] :: fr) h_14 := hS.perm2 [2, 0, 1, 3, 4, 5, 6] 7 rfl rfl
    have hZ_10 := hS
    have hkz_10 := (hS.freeze).2
    replace hS := hS.freeze.1
    have hL_10 : SliceF (fun bz_ => (fun bz_ => F_16 bz_ ∨ (Ow.own 3 1 encI vr_1 r_5).foot bz_) bz_ ∨ (Ow.own 3 1 encI vr_2 r_6).foot bz_) h_14 1 encI vr_2 r_6 := ⟨(hZ_10.own 0 rfl).slice, fun _ b hb => .inr hb⟩
    refine HS.call rfl (want_none) rfl (ec en_22 rfl rfl) (ref32_SameInts_walk (fr := (Ow.own 46 2 e_api_Branch vr_1_1 r_1_1 :: Ow.own 46 2 e_api_Branch vr_1_2 r_1_2 :: Ow.own 46 2 e_api_Branch vr_1_3 r_1_3 :: Ow.own 46 2 e_api_Branch vr_1_4 r_1_4 :: Ow.box b_1 24 #[.int .i64 r_0_1, vr_1_1] :: Ow.box b_2 24 #[.int .i64 r_0_2, vr_1_2] :: fr)) r_5 r_6 vr_1 vr_2 hS (hL_9.kp hkz_10) hL_10 hM) ?_
    rintro _ h_15 ⟨F_17, r_7, rfl, hk, hS, _, _, hM⟩
    obtain ⟨hS, hk⟩ := hZ_10.back hk hS
    obtain ⟨hS, hk⟩ := hZ_9.back hk hS
    generalize (fun bz_ => (fun bz_ => F_17 bz_ ∧ ¬ (Ow.own 3 1 encI vr_2 r_6).foot bz_) bz_ ∧ ¬ (Ow.own 3 1 encI vr_1 r_5).foot bz_) = F_18 at hS hk
    replace hK := hK.trans hk
    replace hL_a_Links := hL_a_Links.kp hk
    replace hL_b_Links := hL_b_Links.kp hk
    replace hG_0 := hG_0.kp hk
    replace hE_gvS := hE_gvS.kp hk
    replace hG_1 := hG_1.kp hk
    replace hE_gvR := hE_gvR.kp hk
    replace hG_2 := hG_2.kp hk
    replace hG_5 := hG_5.kp hk
    refine HA.val (k := 5) (v := .bool (!r_7)) rfl rfl (by kernel_rfl) (by kernel_rfl) (want_none) rfl (fun _ ⟨c245, c247⟩ => q_not rfl) ?_
    refine HA.val (k := 6) (v := .bool (!r_7)) rfl rfl (by kernel_rfl) (by kernel_rfl) (want_none) rfl (fun _ ⟨c245, c247⟩ => q_move rfl) ?_
    rcases Bool.eq_false_or_eq_true (!r_7) with c_3 | c_3
    ·
     replace hM := hM.1 c_3
     refine HA.past (k := 7) rfl rfl (by kernel_rfl) (by kernel_rfl) (past_by rfl rfl c_3) rfl ?_
     refine HA.past (k := 9) rfl rfl (by kernel_rfl) (by kernel_rfl) (past_by rfl rfl c_3) rfl ?_
     refine HA.past (k := 12) rfl rfl (by kernel_rfl) (by kernel_rfl) (past_by rfl rfl c_3) rfl ?_
     refine HA.past (k := 13) rfl rfl (by kernel_rfl) (by kernel_rfl) (past_by rfl rfl c_3) rfl ?_
     refine HA.one (k := 8) ⟨⟨(hS.box 6 rfl), (hS.box 7 rfl)⟩, (Go.Wk.at_nil _ _)⟩ (by kernel_rfl) ?_
     refine HS.past rfl (past_by rfl rfl c_3) rfl ?_
     refine HA.one (k := 10) ⟨⟨(hS.box 6 rfl), (hS.box 7 rfl)⟩, (Go.Wk.at_nil _ _)⟩ (by kernel_rfl) ?_
     refine HS.past rfl (past_by rfl rfl c_3) rfl ?_
     refine HA.one (k := 11) ⟨⟨(hS.box 6 rfl), (hS.box 7 rfl)⟩, (Go.Wk.at_nil _ _)⟩ (by kernel_rfl) ?_
     refine HS.past rfl (past_by rfl rfl c_3) rfl ?_
     refine HA.one (k := 14) ⟨⟨(hS.box 6 rfl), (hS.box 7 rfl)⟩, (Go.Wk.at_nil _ _)⟩ (by kernel_rfl) ?_
     refine HS.past rfl (past_by rfl rfl c_3) rfl ?_
     refine HA.past (k := 15) rfl rfl (by kernel_rfl) (by kernel_rfl) (past_by rfl rfl c_3) rfl ?_
     refine HA.val (k := 16) (v := .bool true) rfl rfl (by kernel_rfl) (by kernel_rfl) (want_none) rfl (fun _ ⟨c245, c247⟩ => q_pickK true rfl c_3 rfl) ?_
     refine HA.nil ⟨⟨(hS.box 6 rfl), (hS.box 7 rfl)⟩, (Go.Wk.at_nil _ _)⟩ (by kernel_rfl) (thenQ_normal (?_))
     replace hS : St F_18 (Ow.box b_1 24 #[.int .i64 r_0_1, vr_1_1] :: Ow.own 46 2 e_api_Branch vr_1_1 r_1_1 :: Ow.box b_2 24 #[.int .i64 r_0_2, vr_1_2] :: Ow.own 46 2 e_api_Branch vr_1_2 r_1_2 :: Ow.own 3 1 encI vr_1 r_5 :: fr) h_15 := hS.perm2 [6, 2, 7, 3, 0] 8 rfl rfl
     exact ⟨F_18, true, rfl, rfl, rfl, rfl, rfl, hK, hS, hL_a_Links, hL_b_Links, hG_0, hE_gvS, hG_1, hE_gvR, hG_2, hG_5, hM⟩
    ·
     replace hM := hM.2 c_3
     refine HA.val (k := 7) (v := .agg #[.int .i64 r_0_1, vr_1_1]) rfl rfl (by kernel_rfl) (by kernel_rfl) (want_by rfl rfl c_3) rfl (fun _ ⟨c245, c247⟩ => q_loadAgg (cs := [.int .i64 r_0_1, vr_1_1]) ta_24 rfl rfl (Blk.cells (k := 2) c245 rfl)) ?_
     refine HA.val (k := 9) (v := .agg #[.int .i64 r_0_2, vr_1_2]) rfl rfl (by kernel_rfl) (by kernel_rfl) (want_by rfl rfl c_3) rfl (fun _ ⟨c245, c247⟩ => q_loadAgg (cs := [.int .i64 r_0_2, vr_1_2]) ta_24 rfl rfl (Blk.cells (k := 2) c247 rfl)) ?_
     refine HA.val (k := 12) (v := .agg #[.int .i64 r_0_1, vr_1_1]) rfl rfl (by kernel_rfl) (by kernel_rfl) (want_by rfl rfl c_3) rfl (fun _ ⟨c245, c247⟩ => q_loadAgg (cs := [.int .i64 r_0_1, vr_1_1]) ta_24 rfl rfl (Blk.cells (k := 2) c245 rfl)) ?_
     refine HA.val (k := 13) (v := .agg #[.int .i64 r_0_2, vr_1_2]) rfl rfl (by kernel_rfl) (by kernel_rfl) (want_by rfl rfl c_3) rfl (fun _ ⟨c245, c247⟩ => q_loadAgg (cs := [.int .i64 r_0_2, vr_1_2]) ta_24 rfl rfl (Blk.cells (k := 2) c247 rfl)) ?_
     refine HA.one (k := 8) ⟨⟨(hS.box 6 rfl), (hS.box 7 rfl)⟩, (Go.Wk.at_nil _ _)⟩ (by kernel_rfl) ?_
     replace hS : St F_18 (Ow.own 46 2 e_api_Branch vr_1_1 r_1_1 :: Ow.own 3 1 encI vr_1 r_5 :: Ow.own 3 1 encI vr_2 r_6 :: Ow.own 46 2 e_api_Branch vr_1_2 r_1_2 :: Ow.own 46 2 e_api_Branch vr_1_3 r_1_3 :: Ow.own 46 2 e_api_Branch vr_1_4 r_1_4 :: Ow.box b_1 24 #[.int .i64 r_0_1, vr_1_1] :: Ow.box b_2 24 #[.int .i64 r_0_2, vr_1_2] :: fr) h_15 := hS.perm2 [2, 0, 1, 3, 4, 5, 6, 7] 8 rfl rfl
     have hZ_11 := hS
     have hkz_11 := (hS.freeze).2
     replace hS := hS.freeze.1
     have hL_11 : SliceF (fun bz_ => F_18 bz_ ∨ (Ow.own 46 2 e_api_Branch vr_1_1 r_1_1).foot bz_) h_15 2 e_api_Branch vr_1_1 r_1_1 := ⟨(hZ_11.own 0 rfl).slice, fun _ b hb => .inr hb⟩
     refine HS.call rfl (want_by rfl rfl c_3) rfl (ec en_8 rfl rfl) (law32_Few_walk (fr := (Ow.own 3 1 encI vr_1 r_5 :: Ow.own 3 1 encI vr_2 r_6 :: Ow.own 46 2 e_api_Branch vr_1_2 r_1_2 :: Ow.own 46 2 e_api_Branch vr_1_3 r_1_3 :: Ow.own 46 2 e_api_Branch vr_1_4 r_1_4 :: Ow.box b_1 24 #[.int .i64 r_0_1, vr_1_1] :: Ow.box b_2 24 #[.int .i64 r_0_2, vr_1_2] :: fr)) r_0_1 r_1_1 vr_1_1 hS hL_11 hM) ?_
     rintro _ h_16 ⟨F_19, r_0_5, r_1_5, vr_1_5, rfl, hk, hS, _, hM⟩
     obtain ⟨hS, hk⟩ := hZ_11.back hk hS
     generalize (fun bz_ => F_19 bz_ ∧ ¬ (Ow.own 46 2 e_api_Branch vr_1_1 r_1_1).foot bz_) = F_20 at hS hk
     replace hK := hK.trans hk
     replace hL_a_Links := hL_a_Links.kp hk
     replace hL_b_Links := hL_b_Links.kp hk
     replace hG_0 := hG_0.kp hk
     replace hE_gvS := hE_gvS.kp hk
     replace hG_1 := hG_1.kp hk
     replace hE_gvR := hE_gvR.kp hk
     replace hG_2 := hG_2.kp hk
     replace hG_5 := hG_5.kp hk
     refine HA.one (k := 10) ⟨⟨(hS.box 7 rfl), (hS.box 8 rfl)⟩, (Go.Wk.at_nil _ _)⟩ (by kernel_rfl) ?_
     replace hS : St F_20 (Ow.own 46 2 e_api_Branch vr_1_2 r_1_2 :: Ow.own 46 2 e_api_Branch vr_1_1 r_1_1 :: Ow.own 46 2 e_api_Branch vr_1_5 r_1_5 :: Ow.own 3 1 encI vr_1 r_5 :: Ow.own 3 1 encI vr_2 r_6 :: Ow.own 46 2 e_api_Branch vr_1_3 r_1_3 :: Ow.own 46 2 e_api_Branch vr_1_4 r_1_4 :: Ow.box b_1 24 #[.int .i64 r_0_1, vr_1_1] :: Ow.box b_2 24 #[.int .i64 r_0_2, vr_1_2] :: fr) h_16 := hS.perm2 [4, 0, 1, 2, 3, 5, 6, 7, 8] 9 rfl rfl
     have hZ_12 := hS
     have hkz_12 := (hS.freeze).2
     replace hS := hS.freeze.1
     have hL_12 : SliceF (fun bz_ => F_20 bz_ ∨ (Ow.own 46 2 e_api_Branch vr_1_2 r_1_2).foot bz_) h_16 2 e_api_Branch vr_1_2 r_1_2 := ⟨(hZ_12.own 0 rfl).slice, fun _ b hb => .inr hb⟩
     refine HS.call rfl (want_by rfl rfl c_3) rfl (ec en_8 rfl rfl) (law32_Few_walk (fr := (Ow.own 46 2 e_api_Branch vr_1_1 r_1_1 :: Ow.own 46 2 e_api_Branch vr_1_5 r_1_5 :: Ow.own 3 1 encI vr_1 r_5 :: Ow.own 3 1 encI vr_2 r_6 :: Ow.own 46 2 e_api_Branch vr_1_3 r_1_3 :: Ow.own 46 2 e_api_Branch vr_1_4 r_1_4 :: Ow.box b_1 24 #[.int .i64 r_0_1, vr_1_1] :: Ow.box b_2 24 #[.int .i64 r_0_2, vr_1_2] :: fr)) r_0_2 r_1_2 vr_1_2 hS hL_12 hM) ?_
     rintro _ h_17 ⟨F_21, r_0_6, r_1_6, vr_1_6, rfl, hk, hS, _, hM⟩
     obtain ⟨hS, hk⟩ := hZ_12.back hk hS
     generalize (fun bz_ => F_21 bz_ ∧ ¬ (Ow.own 46 2 e_api_Branch vr_1_2 r_1_2).foot bz_) = F_22 at hS hk
     replace hK := hK.trans hk
     replace hL_a_Links := hL_a_Links.kp hk
     replace hL_b_Links := hL_b_Links.kp hk
     replace hG_0 := hG_0.kp hk
     replace hE_gvS := hE_gvS.kp hk
     replace hG_1 := hG_1.kp hk
     replace hE_gvR := hE_gvR.kp hk
     replace hG_2 := hG_2.kp hk
     replace hG_5 := hG_5.kp hk
     refine HA.one (k := 11) ⟨⟨(hS.box 8 rfl), (hS.box 9 rfl)⟩, (Go.Wk.at_nil _ _)⟩ (by kernel_rfl) ?_
     replace hS : St F_22 (Ow.own 46 2 e_api_Branch vr_1_5 r_1_5 :: Ow.own 46 2 e_api_Branch vr_1_2 r_1_2 :: Ow.own 46 2 e_api_Branch vr_1_6 r_1_6 :: Ow.own 46 2 e_api_Branch vr_1_1 r_1_1 :: Ow.own 3 1 encI vr_1 r_5 :: Ow.own 3 1 encI vr_2 r_6 :: Ow.own 46 2 e_api_Branch vr_1_3 r_1_3 :: Ow.own 46 2 e_api_Branch vr_1_4 r_1_4 :: Ow.box b_1 24 #[.int .i64 r_0_1, vr_1_1] :: Ow.box b_2 24 #[.int .i64 r_0_2, vr_1_2] :: fr) h_17 := hS.perm2 [3, 0, 1, 2, 4, 5, 6, 7, 8, 9] 10 rfl rfl
     have hZ_13 := hS
     have hkz_13 := (hS.freeze).2
     replace hS := hS.freeze.1
     have hL_13 : SliceF (fun bz_ => F_22 bz_ ∨ (Ow.own 46 2 e_api_Branch vr_1_5 r_1_5).foot bz_) h_17 2 e_api_Branch vr_1_5 r_1_5 := ⟨(hZ_13.own 0 rfl).slice, fun _ b hb => .inr hb⟩
     replace hS : St (fun bz_ => F_22 bz_ ∨ (Ow.own 46 2 e_api_Branch vr_1_5 r_1_5).foot bz_) (Ow.own 46 2 e_api_Branch vr_1_6 r_1_6 :: Ow.own 46 2 e_api_Branch vr_1_2 r_1_2 :: Ow.own 46 2 e_api_Branch vr_1_1 r_1_1 :: Ow.own 3 1 encI vr_1 r_5 :: Ow.own 3 1 encI vr_2 r_6 :: Ow.own 46 2 e_api_Branch vr_1_3 r_1_3 :: Ow.own 46 2 e_api_Branch vr_1_4 r_1_4 :: Ow.box b_1 24 #[.int .i64 r_0_1, vr_1_1] :: Ow.box b_2 24 #[.int .i64 r_0_2, vr_1_2] :: fr) h_17 := hS.perm2 [1, 0, 2, 3, 4, 5, 6, 7, 8] 9 rfl rfl
     have hZ_14 := hS
     have hkz_14 := (hS.freeze).2
     replace hS := hS.freeze.1
     have hL_14 : SliceF (fun bz_ => (fun bz_ => F_22 bz_ ∨ (Ow.own 46 2 e_api_Branch vr_1_5 r_1_5).foot bz_) bz_ ∨ (Ow.own 46 2 e_api_Branch vr_1_6 r_1_6).foot bz_) h_17 2 e_api_Branch vr_1_6 r_1_6 := ⟨(hZ_14.own 0 rfl).slice, fun _ b hb => .inr hb⟩
     refine HS.call rfl (want_by rfl rfl c_3) rfl (ec en_37 rfl rfl) (tree_Same_walk (fr := (Ow.own 46 2 e_api_Branch vr_1_2 r_1_2 :: Ow.own 46 2 e_api_Branch vr_1_1 r_1_1 :: Ow.own 3 1 encI vr_1 r_5 :: Ow.own 3 1 encI vr_2 r_6 :: Ow.own 46 2 e_api_Branch vr_1_3 r_1_3 :: Ow.own 46 2 e_api_Branch vr_1_4 r_1_4 :: Ow.box b_1 24 #[.int .i64 r_0_1, vr_1_1] :: Ow.box b_2 24 #[.int .i64 r_0_2, vr_1_2] :: fr)) r_0_5 r_1_5 r_0_6 r_1_6 vr_1_5 vr_1_6 hS (hL_13.kp hkz_14) hL_14 hM) ?_
     rintro _ h_18 ⟨F_23, r_8, rfl, hk, hS, _, _, hM⟩
     obtain ⟨hS, hk⟩ := hZ_14.back hk hS
     obtain ⟨hS, hk⟩ := hZ_13.back hk hS
     generalize (fun bz_ => (fun bz_ => F_23 bz_ ∧ ¬ (Ow.own 46 2 e_api_Branch vr_1_6 r_1_6).foot bz_) bz_ ∧ ¬ (Ow.own 46 2 e_api_Branch vr_1_5 r_1_5).foot bz_) = F_24 at hS hk
     replace hK := hK.trans hk
     replace hL_a_Links := hL_a_Links.kp hk
     replace hL_b_Links := hL_b_Links.kp hk
     replace hG_0 := hG_0.kp hk
     replace hE_gvS := hE_gvS.kp hk
     replace hG_1 := hG_1.kp hk
     replace hE_gvR := hE_gvR.kp hk
     replace hG_2 := hG_2.kp hk
     replace hG_5 := hG_5.kp hk
     refine HA.one (k := 14) ⟨⟨(hS.box 8 rfl), (hS.box 9 rfl)⟩, (Go.Wk.at_nil _ _)⟩ (by kernel_rfl) ?_
     replace hS : St F_24 (Ow.own 46 2 e_api_Branch vr_1_1 r_1_1 :: Ow.own 46 2 e_api_Branch vr_1_5 r_1_5 :: Ow.own 46 2 e_api_Branch vr_1_6 r_1_6 :: Ow.own 46 2 e_api_Branch vr_1_2 r_1_2 :: Ow.own 3 1 encI vr_1 r_5 :: Ow.own 3 1 encI vr_2 r_6 :: Ow.own 46 2 e_api_Branch vr_1_3 r_1_3 :: Ow.own 46 2 e_api_Branch vr_1_4 r_1_4 :: Ow.box b_1 24 #[.int .i64 r_0_1, vr_1_1] :: Ow.box b_2 24 #[.int .i64 r_0_2, vr_1_2] :: fr) h_18 := hS.perm2 [3, 0, 1, 2, 4, 5, 6, 7, 8, 9] 10 rfl rfl
     have hZ_15 := hS
     have hkz_15 := (hS.freeze).2
     replace hS := hS.freeze.1
     have hL_15 : SliceF (fun bz_ => F_24 bz_ ∨ (Ow.own 46 2 e_api_Branch vr_1_1 r_1_1).foot bz_) h_18 2 e_api_Branch vr_1_1 r_1_1 := ⟨(hZ_15.own 0 rfl).slice, fun _ b hb => .inr hb⟩
     replace hS : St (fun bz_ => F_24 bz_ ∨ (Ow.own 46 2 e_api_Branch vr_1_1 r_1_1).foot bz_) (Ow.own 46 2 e_api_Branch vr_1_2 r_1_2 :: Ow.own 46 2 e_api_Branch vr_1_5 r_1_5 :: Ow.own 46 2 e_api_Branch vr_1_6 r_1_6 :: Ow.own 3 1 encI vr_1 r_5 :: Ow.own 3 1 encI vr_2 r_6 :: Ow.own 46 2 e_api_Branch vr_1_3 r_1_3 :: Ow.own 46 2 e_api_Branch vr_1_4 r_1_4 :: Ow.box b_1 24 #[.int .i64 r_0_1, vr_1_1] :: Ow.box b_2 24 #[.int .i64 r_0_2, vr_1_2] :: fr) h_18 := hS.perm2 [2, 0, 1, 3, 4, 5, 6, 7, 8] 9 rfl rfl
     have hZ_16 := hS
     have hkz_16 := (hS.freeze).2
     replace hS := hS.freeze.1
     have hL_16 : SliceF (fun bz_ => (fun bz_ => F_24 bz_ ∨ (Ow.own 46 2 e_api_Branch vr_1_1 r_1_1).foot bz_) bz_ ∨ (Ow.own 46 2 e_api_Branch vr_1_2 r_1_2).foot bz_) h_18 2 e_api_Branch vr_1_2 r_1_2 := ⟨(hZ_16.own 0 rfl).slice, fun _ b hb => .inr hb⟩
     refine HS.call rfl (want_by rfl rfl c_3) rfl (ec en_11 rfl rfl) (ref32_Same_walk (fr := (Ow.own 46 2 e_api_Branch vr_1_5 r_1_5 :: Ow.own 46 2 e_api_Branch vr_1_6 r_1_6 :: Ow.own 3 1 encI vr_1 r_5 :: Ow.own 3 1 encI vr_2 r_6 :: Ow.own 46 2 e_api_Branch vr_1_3 r_1_3 :: Ow.own 46 2 e_api_Branch vr_1_4 r_1_4 :: Ow.box b_1 24 #[.int .i64 r_0_1, vr_1_1] :: Ow.box b_2 24 #[.int .i64 r_0_2, vr_1_2] :: fr)) r_0_1 r_1_1 r_0_2 r_1_2 vr_1_1 vr_1_2 hS (hL_15.kp hkz_16) hL_16 hM) ?_
     rintro _ h_19 ⟨F_25, r_9, rfl, hk, hS, _, _, hM⟩
     obtain ⟨hS, hk⟩ := hZ_16.back hk hS
     obtain ⟨hS, hk⟩ := hZ_15.back hk hS
     generalize (fun bz_ => (fun bz_ => F_25 bz_ ∧ ¬ (Ow.own 46 2 e_api_Branch vr_1_2 r_1_2).foot bz_) bz_ ∧ ¬ (Ow.own 46 2 e_api_Branch vr_1_1 r_1_1).foot bz_) = F_26 at hS hk
     replace hK := hK.trans hk
     replace hL_a_Links := hL_a_Links.kp hk
     replace hL_b_Links := hL_b_Links.kp hk
     replace hG_0 := hG_0.kp hk
     replace hE_gvS := hE_gvS.kp hk
     replace hG_1 := hG_1.kp hk
     replace hE_gvR := hE_gvR.kp hk
     replace hG_2 := hG_2.kp hk
     replace hG_5 := hG_5.kp hk
     refine HA.val (k := 15) (v := .bool (!(r_8 == r_9))) rfl rfl (by kernel_rfl) (by kernel_rfl) (want_by rfl rfl c_3) rfl (fun _ ⟨c245, c247⟩ => q_neqB Tryz.underlying4 rfl rfl) ?_
     refine HA.val (k := 16) (v := .bool (!(r_8 == r_9))) rfl rfl (by kernel_rfl) (by kernel_rfl) (want_none) rfl (fun _ ⟨c245, c247⟩ => q_pickK false rfl c_3 rfl) ?_
     refine HA.nil ⟨⟨(hS.box 8 rfl), (hS.box 9 rfl)⟩, (Go.Wk.at_nil _ _)⟩ (by kernel_rfl) (thenQ_normal (?_))
     replace hS : St F_26 (Ow.box b_1 24 #[.int .i64 r_0_1, vr_1_1] :: Ow.own 46 2 e_api_Branch vr_1_1 r_1_1 :: Ow.box b_2 24 #[.int .i64 r_0_2, vr_1_2] :: Ow.own 46 2 e_api_Branch vr_1_2 r_1_2 :: Ow.own 3 1 encI vr_1 r_5 :: fr) h_19 := hS.perm2 [8, 0, 9, 1, 4] 10 rfl rfl
     exact ⟨F_26, !(r_8 == r_9), rfl, rfl, rfl, rfl, rfl, hK, hS, hL_a_Links, hL_b_Links, hG_0, hE_gvS, hG_1, hE_gvR, hG_2, hG_5, hM⟩
   ·
    rintro f_2 h_20 ⟨F_27, b_4, e2, e3, e4, e5, e40, hK, hS, hL_a_Links, hL_b_Links, hG_0, hE_gvS, hG_1, hE_gvR, hG_2, hG_5, hM⟩
    unfold law32_TreeChanges_j2 at hM
    refine HW.fr [(2, .pointer (some ⟨b_1, 0, none⟩)), (3, .pointer (some ⟨b_2, 0, none⟩)), (4, .bool false), (5, vr_1), (40, .bool b_4)] ⟨e2, e3, e4, e5, e40, trivial⟩ ?_
    refine HW.cond b_4 rfl (fun c_4 => ?_) (fun c_4 => ?_)
    ·
     replace hM := hM.1 c_4
     refine HW.seq ?_
     refine HW.region ?_
     refine oA (.bool false) rfl rfl ?_
     refine HO.nil (thenQ_normal (?_))
     refine HW.ret (thenQ_ret (?_))
     refine ⟨.inr rfl, .bool false, res1 rfl (rt rfl), ?_⟩
     replace hS : St F_27 (fr) h_20 := hS.perm2 [] 5 rfl rfl
     exact ⟨F_27, false, rfl, hK, hS, hL_a_Links, hL_b_Links, hG_0, hE_gvS, hG_1, hE_gvR, hG_2, hG_5, hM⟩
    ·
     replace hM := hM.2 c_4
     refine HW.skip (thenQ_normal (?_))
     refine HW.seq ?_
     refine HW.region ?_
     refine oV (.pointer (some ⟨b_1, 0, none⟩)) (q_fieldAddr fa_24_0 rfl rfl) rfl ?_
     refine oV (.int .i64 r_0_1) (q_load to_3 rfl (Blk.cell (hS.box 0 rfl) rfl)) rfl ?_
     refine oV (.pointer (some ⟨b_2, 0, none⟩)) (q_fieldAddr fa_24_0 rfl rfl) rfl ?_
     refine oV (.int .i64 r_0_2) (q_load to_3 rfl (Blk.cell (hS.box 2 rfl) rfl)) rfl ?_
     refine oV (.bool (!decide (r_0_1 = r_0_2))) (q_neq rfl rfl) rfl ?_
     refine oM (.bool (!decide (r_0_1 = r_0_2))) rfl rfl ?_
     rcases Bool.eq_false_or_eq_true (!decide (r_0_1 = r_0_2)) with c_5 | c_5
     ·
      replace hM := hM.1 (nd_true c_5)
      refine HO.past (past_by rfl rfl c_5) rfl ?_
      refine HO.past (past_by rfl rfl c_5) rfl ?_
      refine HO.past (past_by rfl rfl c_5) rfl ?_
      refine HO.past (past_by rfl rfl c_5) rfl ?_
      refine HO.past (past_by rfl rfl c_5) rfl ?_
      refine HO.past (past_by rfl rfl c_5) rfl ?_
      refine HO.past (past_by rfl rfl c_5) rfl ?_
      refine oV (.bool true) (q_pickK true rfl c_5 rfl) rfl ?_
      refine oM (.bool true) rfl rfl ?_
      refine HO.call (want_some rfl rfl) rfl (ec en_14 rfl rfl) (law32_lives_walk (fr := (Ow.box b_1 24 #[.int .i64 r_0_1, vr_1_1] :: Ow.own 46 2 e_api_Branch vr_1_1 r_1_1 :: Ow.box b_2 24 #[.int .i64 r_0_2, vr_1_2] :: Ow.own 46 2 e_api_Branch vr_1_2 r_1_2 :: Ow.own 3 1 encI vr_1 r_5 :: fr)) gvS gbS gvR gbR gm hS hG_0 hE_gvS hG_1 hE_gvR hG_2 hG_5 hD hM) ?_
      rintro _ h_21 ⟨F_28, r_10, rfl, hk, hS, _, _, _, _, _, _, hM⟩
      replace hK := hK.trans hk
      replace hL_a_Links := hL_a_Links.kp hk
      replace hL_b_Links := hL_b_Links.kp hk
      replace hG_0 := hG_0.kp hk
      replace hE_gvS := hE_gvS.kp hk
      replace hG_1 := hG_1.kp hk
      replace hE_gvR := hE_gvR.kp hk
      replace hG_2 := hG_2.kp hk
      replace hG_5 := hG_5.kp hk
      refine oV (.bool r_10) (q_pick rfl rfl) rfl ?_
      refine oA (.bool r_10) rfl rfl ?_
      refine HO.nil (thenQ_normal (?_))
      refine HW.ret (?_)
      refine ⟨.inr rfl, .bool r_10, res1 rfl (rt rfl), ?_⟩
      replace hS : St F_28 (fr) h_21 := hS.perm2 [] 5 rfl rfl
      exact ⟨F_28, r_10, rfl, hK, hS, hL_a_Links, hL_b_Links, hG_0, hE_gvS, hG_1, hE_gvR, hG_2, hG_5, hM⟩
     ·
      replace hM := hM.2 (nd_false c_5)
      refine HO.val (v := vr_1) (want_by rfl rfl c_5) rfl (q_move rfl) ?_
      refine HO.val (v := .int .i64 (r_5.length : Int)) (want_by rfl rfl c_5) rfl (q_len ts_36 (shp (hS.own 4 rfl).slice) rfl rfl) ?_
      refine HO.val (v := .bool (decide ((r_5.length : Int) = 0))) (want_by rfl rfl c_5) rfl (q_eql rfl rfl) ?_
      refine HO.val (v := .agg #[.int .i64 r_0_1, vr_1_1]) (want_by rfl rfl c_5) rfl (q_loadAgg (cs := [.int .i64 r_0_1, vr_1_1]) ta_24 rfl rfl (Blk.cells (k := 2) (hS.box 0 rfl) rfl)) ?_
      refine HO.val (v := .agg #[.int .i64 r_0_2, vr_1_2]) (want_by rfl rfl c_5) rfl (q_loadAgg (cs := [.int .i64 r_0_2, vr_1_2]) ta_24 rfl rfl (Blk.cells (k := 2) (hS.box 2 rfl) rfl)) ?_
      replace hS : St F_27 (Ow.own 46 2 e_api_Branch vr_1_1 r_1_1 :: Ow.box b_1 24 #[.int .i64 r_0_1, vr_1_1] :: Ow.box b_2 24 #[.int .i64 r_0_2, vr_1_2] :: Ow.own 46 2 e_api_Branch vr_1_2 r_1_2 :: Ow.own 3 1 encI vr_1 r_5 :: fr) h_20 := hS.perm2 [1, 0, 2, 3, 4] 5 rfl rfl
      have hZ_17 := hS
      have hkz_17 := (hS.freeze).2
      replace hS := hS.freeze.1
      have hL_17 : SliceF (fun bz_ => F_27 bz_ ∨ (Ow.own 46 2 e_api_Branch vr_1_1 r_1_1).foot bz_) h_20 2 e_api_Branch vr_1_1 r_1_1 := ⟨(hZ_17.own 0 rfl).slice, fun _ b hb => .inr hb⟩
      replace hS : St (fun bz_ => F_27 bz_ ∨ (Ow.own 46 2 e_api_Branch vr_1_1 r_1_1).foot bz_) (Ow.own 46 2 e_api_Branch vr_1_2 r_1_2 :: Ow.box b_1 24 #[.int .i64 r_0_1, vr_1_1] :: Ow.box b_2 24 #[.int .i64 r_0_2, vr_1_2] :: Ow.own 3 1 encI vr_1 r_5 :: fr) h_20 := hS.perm2 [2, 0, 1, 3] 4 rfl rfl
      have hZ_18 := hS
      have hkz_18 := (hS.freeze).2
      replace hS := hS.freeze.1
      have hL_18 : SliceF (fun bz_ => (fun bz_ => F_27 bz_ ∨ (Ow.own 46 2 e_api_Branch vr_1_1 r_1_1).foot bz_) bz_ ∨ (Ow.own 46 2 e_api_Branch vr_1_2 r_1_2).foot bz_) h_20 2 e_api_Branch vr_1_2 r_1_2 := ⟨(hZ_18.own 0 rfl).slice, fun _ b hb => .inr hb⟩
      refine HO.call (want_by rfl rfl c_5) rfl (ec en_11 rfl rfl) (ref32_Same_walk (fr := (Ow.box b_1 24 #[.int .i64 r_0_1, vr_1_1] :: Ow.box b_2 24 #[.int .i64 r_0_2, vr_1_2] :: Ow.own 3 1 encI vr_1 r_5 :: fr)) r_0_1 r_1_1 r_0_2 r_1_2 vr_1_1 vr_1_2 hS (hL_17.kp hkz_18) hL_18 hM) ?_
      rintro _ h_22 ⟨F_29, r_11, rfl, hk, hS, _, _, hM⟩
      obtain ⟨hS, hk⟩ := hZ_18.back hk hS
      obtain ⟨hS, hk⟩ := hZ_17.back hk hS
      generalize (fun bz_ => (fun bz_ => F_29 bz_ ∧ ¬ (Ow.own 46 2 e_api_Branch vr_1_2 r_1_2).foot bz_) bz_ ∧ ¬ (Ow.own 46 2 e_api_Branch vr_1_1 r_1_1).foot bz_) = F_30 at hS hk
      replace hK := hK.trans hk
      replace hL_a_Links := hL_a_Links.kp hk
      replace hL_b_Links := hL_b_Links.kp hk
      replace hG_0 := hG_0.kp hk
      replace hE_gvS := hE_gvS.kp hk
      replace hG_1 := hG_1.kp hk
      replace hE_gvR := hE_gvR.kp hk
      replace hG_2 := hG_2.kp hk
      replace hG_5 := hG_5.kp hk
      refine HO.val (v := .bool ((decide ((r_5.length : Int) = 0)) == r_11)) (want_by rfl rfl c_5) rfl (q_eqlB Tryz.underlying4 rfl rfl) ?_
      refine oV (.bool ((decide ((r_5.length : Int) = 0)) == r_11)) (q_pickK false rfl c_5 rfl) rfl ?_
      refine oM (.bool ((decide ((r_5.length : Int) = 0)) == r_11)) rfl rfl ?_
      rcases Bool.eq_false_or_eq_true ((decide ((r_5.length : Int) = 0)) == r_11) with c_6 | c_6
      ·
       replace hM := hM.1 c_6
       refine HO.call (want_by rfl rfl c_6) rfl (ec en_14 rfl rfl) (law32_lives_walk (fr := (Ow.own 46 2 e_api_Branch vr_1_1 r_1_1 :: Ow.own 46 2 e_api_Branch vr_1_2 r_1_2 :: Ow.box b_1 24 #[.int .i64 r_0_1, vr_1_1] :: Ow.box b_2 24 #[.int .i64 r_0_2, vr_1_2] :: Ow.own 3 1 encI vr_1 r_5 :: fr)) gvS gbS gvR gbR gm hS hG_0 hE_gvS hG_1 hE_gvR hG_2 hG_5 hD hM) ?_
       rintro _ h_23 ⟨F_31, r_12, rfl, hk, hS, _, _, _, _, _, _, hM⟩
       replace hK := hK.trans hk
       replace hL_a_Links := hL_a_Links.kp hk
       replace hL_b_Links := hL_b_Links.kp hk
       replace hG_0 := hG_0.kp hk
       replace hE_gvS := hE_gvS.kp hk
       replace hG_1 := hG_1.kp hk
       replace hE_gvR := hE_gvR.kp hk
       replace hG_2 := hG_2.kp hk
       replace hG_5 := hG_5.kp hk
       refine oV (.bool r_12) (q_pickK true rfl c_6 rfl) rfl ?_
       refine oA (.bool r_12) rfl rfl ?_
       refine HO.nil (thenQ_normal (?_))
       refine HW.ret (?_)
       refine ⟨.inr rfl, .bool r_12, res1 rfl (rt rfl), ?_⟩
       replace hS : St F_31 (fr) h_23 := hS.perm2 [] 5 rfl rfl
       exact ⟨F_31, r_12, rfl, hK, hS, hL_a_Links, hL_b_Links, hG_0, hE_gvS, hG_1, hE_gvR, hG_2, hG_5, hM⟩
      ·
       replace hM := hM.2 c_6
       refine HO.past (past_by rfl rfl c_6) rfl ?_
       refine oV (.bool false) (q_pickK false rfl c_6 rfl) rfl ?_
       refine oA (.bool false) rfl rfl ?_
       refine HO.nil (thenQ_normal (?_))
       refine HW.ret (?_)
       refine ⟨.inr rfl, .bool false, res1 rfl (rt rfl), ?_⟩
       replace hS : St F_30 (fr) h_22 := hS.perm2 [] 5 rfl rfl
       exact ⟨F_30, false, rfl, hK, hS, hL_a_Links, hL_b_Links, hG_0, hE_gvS, hG_1, hE_gvR, hG_2, hG_5, hM⟩
end Go.Wk
