/- The walks of TreeTells. -/
import Derived.Test.YtjliljlmgepmpaaGreatDoorTreB1
set_option linter.unusedSimpArgs false
set_option linter.unusedVariables false
set_option linter.unusedSectionVars false
namespace Go.Wk
open Go.HL
open Go.Proofs hiding encI
variable [DM]
theorem en_8 (args : Array Value) (w : World) : (callFunc 8 args).run Tryz.prog w = .ok (.enter 8 args) w := by kernel_rfl
theorem en_12 (args : Array Value) (w : World) : (callFunc 12 args).run Tryz.prog w = .ok (.enter 12 args) w := by kernel_rfl
theorem en_14 (args : Array Value) (w : World) : (callFunc 14 args).run Tryz.prog w = .ok (.enter 14 args) w := by kernel_rfl
theorem en_28 (args : Array Value) (w : World) : (callFunc 28 args).run Tryz.prog w = .ok (.enter 28 args) w := by kernel_rfl
theorem en_19 (args : Array Value) (w : World) : (callFunc 19 args).run Tryz.prog w = .ok (.enter 19 args) w := by kernel_rfl
theorem en_27 (args : Array Value) (w : World) : (callFunc 27 args).run Tryz.prog w = .ok (.enter 27 args) w := by kernel_rfl
theorem en_17 (args : Array Value) (w : World) : (callFunc 17 args).run Tryz.prog w = .ok (.enter 17 args) w := by kernel_rfl
theorem en_25 (args : Array Value) (w : World) : (callFunc 25 args).run Tryz.prog w = .ok (.enter 25 args) w := by kernel_rfl
theorem en_18 (args : Array Value) (w : World) : (callFunc 18 args).run Tryz.prog w = .ok (.enter 18 args) w := by kernel_rfl
theorem en_21 (args : Array Value) (w : World) : (callFunc 21 args).run Tryz.prog w = .ok (.enter 21 args) w := by kernel_rfl
theorem en_23 (args : Array Value) (w : World) : (callFunc 23 args).run Tryz.prog w = .ok (.enter 23 args) w := by kernel_rfl
theorem en_24 (args : Array Value) (w : World) : (callFunc 24 args).run Tryz.prog w = .ok (.enter 24 args) w := by kernel_rfl
theorem en_30 (args : Array Value) (w : World) : (callFunc 30 args).run Tryz.prog w = .ok (.enter 30 args) w := by kernel_rfl
theorem en_32 (args : Array Value) (w : World) : (callFunc 32 args).run Tryz.prog w = .ok (.enter 32 args) w := by kernel_rfl
theorem en_33 (args : Array Value) (w : World) : (callFunc 33 args).run Tryz.prog w = .ok (.enter 33 args) w := by kernel_rfl
theorem en_34 (args : Array Value) (w : World) : (callFunc 34 args).run Tryz.prog w = .ok (.enter 34 args) w := by kernel_rfl
def tree_Parent_W (t_Root : Int) (t_Links : List T_api_Branch) (n : Int) (Q : Int → Bool → Prop) : Prop :=
 tree_parent_W t_Root t_Links n (fun r0_2 r1_2 => Q r0_2 r1_2)
set_option maxHeartbeats 40000000 in
set_option maxRecDepth 100000 in
theorem tree_Parent_walk {F : Fz} {fr : List Ow} {h0 : Heap} (t_Root : Int) (t_Links : List T_api_Branch) (n : Int) (vt_Links : Value) (hS : St F (fr) h0) (hL_t_Links : SliceF F h0 2 e_api_Branch vt_Links t_Links) {Q : Int → Bool → Prop} (hM : tree_Parent_W t_Root t_Links n Q) :
  HC Tryz.prog 18 #[.agg #[.int .i64 t_Root, vt_Links], .int .i64 n] h0 fun u h' => ∃ (F' : Fz) (r0_1 : Int) (r1_1 : Bool), u = .tuple #[.int .i64 r0_1, .bool r1_1] ∧ Kp F h0 F' h' ∧ St F' (fr) h' ∧ (SliceF F' h' 2 e_api_Branch vt_Links t_Links) ∧ Q r0_1 r1_1 := by
 unfold tree_Parent_W at hM
 have hK := Kp.refl F h0
 refine HC.of_HW (n := 11) Tryz.func18 rfl rfl (Nat.le_of_ble_eq_true rfl) ?_
 refine HW.seq ?_
 refine HW.region ?_
 refine HO.eff (want_none) rfl (st_box (c := #[.int .i64 t_Root, vt_Links]) (k' := 2) hS rfl rfl) ?_
 rintro _ h_1 ⟨b_1, rfl, hS, hk⟩
 replace hK := hK.trans hk
 replace hL_t_Links := hL_t_Links.kp hk
 refine oA (.int .i64 0) rfl rfl ?_
 refine oA (.bool false) rfl rfl ?_
 refine HO.nil (thenQ_normal (?_))
 refine HW.seq ?_
 refine HW.region ?_
 refine oV (.agg #[.int .i64 t_Root, vt_Links]) (q_loadAgg (cs := [.int .i64 t_Root, vt_Links]) ta_24 rfl rfl (Blk.cells (k := 2) (hS.box 0 rfl) rfl)) rfl ?_
 refine oM (.int .i64 n) rfl rfl ?_
 refine HO.call (want_none) rfl (ec en_49 rfl rfl) (tree_parent_walk (fr := (Ow.box b_1 24 #[.int .i64 t_Root, vt_Links] :: fr)) t_Root t_Links n vt_Links hS hL_t_Links hM) ?_
 rintro _ h_2 ⟨F_1, r0_2, r1_2, rfl, hk, hS, _, hM⟩
 replace hK := hK.trans hk
 replace hL_t_Links := hL_t_Links.kp hk
 refine oV (.int .i64 r0_2) (q_extract rfl rfl) rfl ?_
 refine oV (.bool r1_2) (q_extract rfl rfl) rfl ?_
 refine oA (.int .i64 r0_2) rfl rfl ?_
 refine oA (.bool r1_2) rfl rfl ?_
 refine HO.nil (thenQ_normal (?_))
 refine HW.ret (?_)
 refine ⟨.inr rfl, .tuple #[.int .i64 r0_2, .bool r1_2], res2 rfl (rt rfl) (rt rfl), ?_⟩
 replace hS : St F_1 (fr) h_2 := hS.perm2 [] 1 rfl rfl
 exact ⟨F_1, r0_2, r1_2, rfl, hK, hS, hL_t_Links, hM⟩

def ref32_Parent_l1 (t_Links : List T_api_Branch) (n : Int) (Q : Int → Bool → Prop) (K_1 : Int → Prop) (i_1 : Int) : Prop :=
 (i_1 < (t_Links.length : Int) → ((0 : Int) ≤ i_1 ∧ i_1 < (t_Links.length : Int)) ∧ ((((gi t_Links i_1).2) = n → Q ((gi t_Links i_1).1) true) ∧ (¬ (((gi t_Links i_1).2) = n) → (I64 (i_1 + 1)) ∧ (K_1 (i_1 + 1))))) ∧ (¬ (i_1 < (t_Links.length : Int)) → Q 0 false)
def ref32_Parent_W (t_Root : Int) (t_Links : List T_api_Branch) (n : Int) (Q : Int → Bool → Prop) : Prop :=
 loopW (fun (K_1 : Int → Prop) (s : Int) => ref32_Parent_l1 t_Links n Q K_1 s) 0
set_option maxHeartbeats 40000000 in
set_option maxRecDepth 100000 in
theorem ref32_Parent_walk {F : Fz} {fr : List Ow} {h0 : Heap} (t_Root : Int) (t_Links : List T_api_Branch) (n : Int) (vt_Links : Value) (hS : St F (fr) h0) (hL_t_Links : SliceF F h0 2 e_api_Branch vt_Links t_Links) {Q : Int → Bool → Prop} (hM : ref32_Parent_W t_Root t_Links n Q) :
  HC Tryz.prog 19 #[.agg #[.int .i64 t_Root, vt_Links], .int .i64 n] h0 fun u h' => ∃ (F' : Fz) (r0_1 : Int) (r1_1 : Bool), u = .tuple #[.int .i64 r0_1, .bool r1_1] ∧ Kp F h0 F' h' ∧ St F' (fr) h' ∧ (SliceF F' h' 2 e_api_Branch vt_Links t_Links) ∧ Q r0_1 r1_1 := by
 unfold ref32_Parent_W at hM
 have hK := Kp.refl F h0
 refine HC.of_HW (n := 28) Tryz.func19 rfl rfl (Nat.le_of_ble_eq_true rfl) ?_
 refine HW.seq ?_
 refine HW.region ?_
 refine HO.eff (want_none) rfl (st_box (c := #[.int .i64 t_Root, vt_Links]) (k' := 2) hS rfl rfl) ?_
 rintro _ h_1 ⟨b_1, rfl, hS, hk⟩
 replace hK := hK.trans hk
 replace hL_t_Links := hL_t_Links.kp hk
 refine oA (.int .i64 0) rfl rfl ?_
 refine oA (.bool false) rfl rfl ?_
 refine HO.nil (thenQ_normal (?_))
 refine HW.seq ?_
 refine HW.seq ?_
 refine HW.region ?_
 refine oA (.int .i64 0) rfl rfl ?_
 refine HO.nil (thenQ_normal (?_))
 refine HW.block ?_
 obtain ⟨I_1, m_1, hI_1, hR_1⟩ := hM
 refine HW.loop (S := Int) (fun i_1 f h => ∃ (F' : Fz), f 1 = .int .i64 n ∧ f 2 = .pointer (some ⟨b_1, 0, none⟩) ∧ f 4 = .int .i64 0 ∧ f 5 = .bool false ∧ f 6 = .int .i64 i_1 ∧ Kp F h0 F' h ∧ St F' (Ow.box b_1 24 #[.int .i64 t_Root, vt_Links] :: fr) h ∧ (SliceF F' h 2 e_api_Branch vt_Links t_Links) ∧ I_1 i_1) m_1 0 ⟨F, rfl, rfl, rfl, rfl, rfl, hK, hS, hL_t_Links, hI_1⟩ ?_
 rintro i_1 f_1 h_2 ⟨F_1, e1, e2, e4, e5, e6, hK, hS, hL_t_Links, hI0⟩
 obtain ⟨K_1, hKe_1⟩ : ∃ K : Int → Prop, K = fun i_1' => I_1 i_1' ∧ m_1 i_1' < m_1 i_1 := ⟨_, rfl⟩
 have hM : ref32_Parent_l1 t_Links n Q K_1 i_1 := by rw [hKe_1]; exact hR_1 i_1 hI0
 unfold ref32_Parent_l1 at hM
 refine HW.fr [(1, .int .i64 n), (2, .pointer (some ⟨b_1, 0, none⟩)), (4, .int .i64 0), (5, .bool false), (6, .int .i64 i_1)] ⟨e1, e2, e4, e5, e6, trivial⟩ ?_
 refine HW.seq ?_
 refine HW.seq ?_
 refine HW.region ?_
 refine oM (.int .i64 i_1) rfl rfl ?_
 refine oV (.pointer (some ⟨b_1, 1, none⟩)) (q_fieldAddr fa_24_1 rfl rfl) rfl ?_
 refine oV (vt_Links) (q_load to_22 rfl (Blk.cell (hS.box 0 rfl) rfl)) rfl ?_
 refine oV (.int .i64 (t_Links.length : Int)) (q_len ts_22 (shp hL_t_Links.is) rfl rfl) rfl ?_
 refine oV (.bool (decide (i_1 < (t_Links.length : Int)))) (q_lss rfl rfl) rfl ?_
 refine HO.nil (thenQ_normal (?_))
 refine HW.cond (decide (i_1 < (t_Links.length : Int))) rfl (fun c_1 => ?_) (fun c_1 => ?_)
 ·
  replace hM := hM.1 (of_decide_eq_true c_1)
  refine HW.skip (thenQ_normal (?_))
  refine HW.seq ?_
  refine HW.block ?_
  refine HW.seq ?_
  refine HW.region ?_
  refine oV (.pointer (some ⟨b_1, 1, none⟩)) (q_fieldAddr fa_24_1 rfl rfl) rfl ?_
  refine oV (vt_Links) (q_load to_22 rfl (Blk.cell (hS.box 0 rfl) rfl)) rfl ?_
  refine oM (.int .i64 i_1) rfl rfl ?_
  obtain ⟨ho_1, hM⟩ := hM
  refine oV (elemPtr 2 vt_Links (i_1).toNat) (q_idx ts_22 hL_t_Links.is rfl rfl ho_1) rfl ?_
  refine oV (fieldPtr 2 vt_Links (i_1).toNat 1) (q_fldElem fa_46_1 hL_t_Links.is rfl ho_1) rfl ?_
  refine oV (.int .i64 ((gi t_Links i_1).2)) (q_ldField to_3 hL_t_Links.is rfl ho_1 (by decide) rfl) rfl ?_
  refine oM (.int .i64 n) rfl rfl ?_
  refine oV (.bool (decide (((gi t_Links i_1).2) = n))) (q_eql rfl rfl) rfl ?_
  refine HO.nil (thenQ_normal (?_))
  refine HW.cond (decide (((gi t_Links i_1).2) = n)) rfl (fun c_2 => ?_) (fun c_2 => ?_)
  ·
   replace hM := hM.1 (of_decide_eq_true c_2)
   refine HW.seq ?_
   refine HW.region ?_
   refine oV (.pointer (some ⟨b_1, 1, none⟩)) (q_fieldAddr fa_24_1 rfl rfl) rfl ?_
   refine oV (vt_Links) (q_load to_22 rfl (Blk.cell (hS.box 0 rfl) rfl)) rfl ?_
   refine oM (.int .i64 i_1) rfl rfl ?_
   refine oV (elemPtr 2 vt_Links (i_1).toNat) (q_idx ts_22 hL_t_Links.is rfl rfl ho_1) rfl ?_
   refine oV (fieldPtr 2 vt_Links (i_1).toNat 0) (q_fldElem fa_46_0 hL_t_Links.is rfl ho_1) rfl ?_
   refine oV (.int .i64 ((gi t_Links i_1).1)) (q_ldField to_3 hL_t_Links.is rfl ho_1 (by decide) rfl) rfl ?_
   refine oA (.int .i64 ((gi t_Links i_1).1)) rfl rfl ?_
   refine oA (.bool true) rfl rfl ?_
   refine HO.nil (thenQ_normal (?_))
   refine HW.ret (blockQ_ret (thenQ_ret (thenQ_ret (blockQ_ret (thenQ_ret (?_))))))
   refine ⟨.inr rfl, .tuple #[.int .i64 ((gi t_Links i_1).1), .bool true], res2 rfl (rt rfl) (rt rfl), ?_⟩
   replace hS : St F_1 (fr) h_2 := hS.perm2 [] 1 rfl rfl
   exact ⟨F_1, (gi t_Links i_1).1, true, rfl, hK, hS, hL_t_Links, hM⟩
  ·
   replace hM := hM.2 (of_decide_eq_false c_2)
   refine HW.skip (blockQ_normal (thenQ_normal (?_)))
   refine HW.region ?_
   refine oM (.int .i64 i_1) rfl rfl ?_
   obtain ⟨ho_2, hM⟩ := hM
   refine oV (.int .i64 (i_1 + 1)) (q_addN _ rfl rfl rfl ho_2.1 ho_2.2) rfl ?_
   refine oA (.int .i64 (i_1 + 1)) rfl rfl ?_
   refine HO.nil (thenQ_normal (?_))
   rw [hKe_1] at hM
   exact ⟨i_1 + 1, ⟨F_1, rfl, rfl, rfl, rfl, rfl, hK, hS, hL_t_Links, hM.1⟩, hM.2⟩
 ·
  replace hM := hM.2 (of_decide_eq_false c_1)
  refine HW.exit (thenQ_exit (thenQ_exit (blockQ_exit (thenQ_normal (?_)))))
  refine HW.seq ?_
  refine HW.region ?_
  refine oA (.int .i64 0) rfl rfl ?_
  refine oA (.bool false) rfl rfl ?_
  refine HO.nil (thenQ_normal (?_))
  refine HW.ret (?_)
  refine ⟨.inr rfl, .tuple #[.int .i64 0, .bool false], res2 rfl (rt rfl) (rt rfl), ?_⟩
  replace hS : St F_1 (fr) h_2 := hS.perm2 [] 1 rfl rfl
  exact ⟨F_1, 0, false, rfl, hK, hS, hL_t_Links, hM⟩

def tree_Has_W (t_Root : Int) (t_Links : List T_api_Branch) (n : Int) (Q : Bool → Prop) : Prop :=
 tree_has_W t_Root t_Links n (fun r_2 => Q r_2)
set_option maxHeartbeats 40000000 in
set_option maxRecDepth 100000 in
theorem tree_Has_walk {F : Fz} {fr : List Ow} {h0 : Heap} (t_Root : Int) (t_Links : List T_api_Branch) (n : Int) (vt_Links : Value) (hS : St F (fr) h0) (hL_t_Links : SliceF F h0 2 e_api_Branch vt_Links t_Links) {Q : Bool → Prop} (hM : tree_Has_W t_Root t_Links n Q) :
  HC Tryz.prog 21 #[.agg #[.int .i64 t_Root, vt_Links], .int .i64 n] h0 fun u h' => ∃ (F' : Fz) (r_1 : Bool), u = .bool r_1 ∧ Kp F h0 F' h' ∧ St F' (fr) h' ∧ (SliceF F' h' 2 e_api_Branch vt_Links t_Links) ∧ Q r_1 := by
 unfold tree_Has_W at hM
 have hK := Kp.refl F h0
 refine HC.of_HW (n := 8) Tryz.func21 rfl rfl (Nat.le_of_ble_eq_true rfl) ?_
 refine HW.seq ?_
 refine HW.region ?_
 refine HO.eff (want_none) rfl (st_box (c := #[.int .i64 t_Root, vt_Links]) (k' := 2) hS rfl rfl) ?_
 rintro _ h_1 ⟨b_1, rfl, hS, hk⟩
 replace hK := hK.trans hk
 replace hL_t_Links := hL_t_Links.kp hk
 refine oA (.bool false) rfl rfl ?_
 refine HO.nil (thenQ_normal (?_))
 refine HW.seq ?_
 refine HW.region ?_
 refine oV (.agg #[.int .i64 t_Root, vt_Links]) (q_loadAgg (cs := [.int .i64 t_Root, vt_Links]) ta_24 rfl rfl (Blk.cells (k := 2) (hS.box 0 rfl) rfl)) rfl ?_
 refine oM (.int .i64 n) rfl rfl ?_
 refine HO.call (want_none) rfl (ec en_51 rfl rfl) (tree_has_walk (fr := (Ow.box b_1 24 #[.int .i64 t_Root, vt_Links] :: fr)) t_Root t_Links n vt_Links hS hL_t_Links hM) ?_
 rintro _ h_2 ⟨F_1, r_2, rfl, hk, hS, _, hM⟩
 replace hK := hK.trans hk
 replace hL_t_Links := hL_t_Links.kp hk
 refine oA (.bool r_2) rfl rfl ?_
 refine HO.nil (thenQ_normal (?_))
 refine HW.ret (?_)
 refine ⟨.inr rfl, .bool r_2, res1 rfl (rt rfl), ?_⟩
 replace hS : St F_1 (fr) h_2 := hS.perm2 [] 1 rfl rfl
 exact ⟨F_1, r_2, rfl, hK, hS, hL_t_Links, hM⟩

def tree_Below_W (t_Root : Int) (t_Links : List T_api_Branch) (n : Int) (Q : (List Int) → Prop) : Prop :=
 tree_has_W t_Root t_Links n (fun r_2 => ((!r_2) = true → Q []) ∧ ((!r_2) = false → tree_walk_W t_Root t_Links n (fun r_3 => tree_rising_W r_3 (fun r_4 => Q r_4))))
set_option maxHeartbeats 40000000 in
set_option maxRecDepth 100000 in
theorem tree_Below_walk {F : Fz} {fr : List Ow} {h0 : Heap} (t_Root : Int) (t_Links : List T_api_Branch) (n : Int) (vt_Links : Value) (hS : St F (fr) h0) (hL_t_Links : SliceF F h0 2 e_api_Branch vt_Links t_Links) {Q : (List Int) → Prop} (hM : tree_Below_W t_Root t_Links n Q) :
  HC Tryz.prog 23 #[.agg #[.int .i64 t_Root, vt_Links], .int .i64 n] h0 fun u h' => ∃ (F' : Fz) (r_1 : List Int) (vr_1 : Value), u = vr_1 ∧ Kp F h0 F' h' ∧ St F' (Ow.own 3 1 encI vr_1 r_1 :: fr) h' ∧ (SliceF F' h' 2 e_api_Branch vt_Links t_Links) ∧ Q r_1 := by
 unfold tree_Below_W at hM
 have hK := Kp.refl F h0
 refine HC.of_HW (n := 13) Tryz.func23 rfl rfl (Nat.le_of_ble_eq_true rfl) ?_
 refine HW.seq ?_
 refine HW.region ?_
 refine HO.eff (want_none) rfl (st_box (c := #[.int .i64 t_Root, vt_Links]) (k' := 2) hS rfl rfl) ?_
 rintro _ h_1 ⟨b_1, rfl, hS, hk⟩
 replace hK := hK.trans hk
 replace hL_t_Links := hL_t_Links.kp hk
 refine oA (.slice none 0 0) rfl rfl ?_
 refine HO.nil (thenQ_normal (?_))
 refine HW.seq ?_
 refine HW.seq ?_
 refine HW.region ?_
 refine oV (.agg #[.int .i64 t_Root, vt_Links]) (q_loadAgg (cs := [.int .i64 t_Root, vt_Links]) ta_24 rfl rfl (Blk.cells (k := 2) (hS.box 0 rfl) rfl)) rfl ?_
 refine oM (.int .i64 n) rfl rfl ?_
 refine HO.call (want_none) rfl (ec en_51 rfl rfl) (tree_has_walk (fr := (Ow.box b_1 24 #[.int .i64 t_Root, vt_Links] :: fr)) t_Root t_Links n vt_Links hS hL_t_Links hM) ?_
 rintro _ h_2 ⟨F_1, r_2, rfl, hk, hS, _, hM⟩
 replace hK := hK.trans hk
 replace hL_t_Links := hL_t_Links.kp hk
 refine oV (.bool (!r_2)) (q_not rfl) rfl ?_
 refine HO.nil (thenQ_normal (?_))
 refine HW.cond (!r_2) rfl (fun c_1 => ?_) (fun c_1 => ?_)
 ·
  replace hM := hM.1 c_1
  refine HW.seq ?_
  refine HW.region ?_
  refine oA (.slice none 0 0) rfl rfl ?_
  refine HO.nil (thenQ_normal (?_))
  refine HW.ret (thenQ_ret (?_))
  refine ⟨.inr rfl, .slice none 0 0, res1 rfl (rt rfl), ?_⟩
  replace hS := hS.nilOwn 3 1 encI
  replace hS : St F_1 (Ow.own 3 1 encI (.slice none 0 0) ([] : List Int) :: fr) h_2 := hS.perm2 [0] 2 rfl rfl
  exact ⟨F_1, [], .slice none 0 0, rfl, hK, hS, hL_t_Links, hM⟩
 ·
  replace hM := hM.2 c_1
  refine HW.skip (thenQ_normal (?_))
  refine HW.seq ?_
  refine HW.region ?_
  refine oV (.agg #[.int .i64 t_Root, vt_Links]) (q_loadAgg (cs := [.int .i64 t_Root, vt_Links]) ta_24 rfl rfl (Blk.cells (k := 2) (hS.box 0 rfl) rfl)) rfl ?_
  refine oM (.int .i64 n) rfl rfl ?_
  refine HO.call (want_none) rfl (ec en_53 rfl rfl) (tree_walk_walk (fr := (Ow.box b_1 24 #[.int .i64 t_Root, vt_Links] :: fr)) t_Root t_Links n vt_Links hS hL_t_Links hM) ?_
  rintro vr_2 h_3 ⟨F_2, r_3, _, rfl, hk, hS, _, hM⟩
  replace hK := hK.trans hk
  replace hL_t_Links := hL_t_Links.kp hk
  refine HO.call (want_none) rfl (ec en_52 rfl rfl) (tree_rising_walk (fr := (Ow.box b_1 24 #[.int .i64 t_Root, vt_Links] :: fr)) r_3 vr_2 hS hM) ?_
  rintro vr_3 h_4 ⟨F_3, r_4, _, rfl, hk, hS, hM⟩
  replace hK := hK.trans hk
  replace hL_t_Links := hL_t_Links.kp hk
  refine oA (vr_3) rfl rfl ?_
  refine HO.nil (thenQ_normal (?_))
  refine HW.ret (?_)
  refine ⟨.inr rfl, vr_3, res1 rfl (rt rfl), ?_⟩
  replace hS : St F_3 (Ow.own 3 1 encI vr_3 r_4 :: fr) h_4 := hS.perm2 [0] 2 rfl rfl
  exact ⟨F_3, r_4, vr_3, rfl, hK, hS, hL_t_Links, hM⟩

def tree_Next_W (t_Root : Int) (t_Links : List T_api_Branch) (n : Int) (Q : (List Int) → Prop) : Prop :=
 tree_nexts_W t_Root t_Links (fun r_2 => Q ((bagAt r_2 n).2))
set_option maxHeartbeats 40000000 in
set_option maxRecDepth 100000 in
theorem tree_Next_walk {F : Fz} {fr : List Ow} {h0 : Heap} (t_Root : Int) (t_Links : List T_api_Branch) (n : Int) (vt_Links : Value) (hS : St F (fr) h0) (hL_t_Links : SliceF F h0 2 e_api_Branch vt_Links t_Links) {Q : (List Int) → Prop} (hM : tree_Next_W t_Root t_Links n Q) :
  HC Tryz.prog 24 #[.agg #[.int .i64 t_Root, vt_Links], .int .i64 n] h0 fun u h' => ∃ (F' : Fz) (r_1 : List Int) (vr_1 : Value), u = vr_1 ∧ Kp F h0 F' h' ∧ St F' (fr) h' ∧ (SliceF F' h' 2 e_api_Branch vt_Links t_Links) ∧ (SliceF F' h' 1 encI vr_1 r_1) ∧ Q r_1 := by
 unfold tree_Next_W at hM
 have hK := Kp.refl F h0
 refine HC.of_HW (n := 9) Tryz.func24 rfl rfl (Nat.le_of_ble_eq_true rfl) ?_
 refine HW.seq ?_
 refine HW.region ?_
 refine HO.eff (want_none) rfl (st_box (c := #[.int .i64 t_Root, vt_Links]) (k' := 2) hS rfl rfl) ?_
 rintro _ h_1 ⟨b_1, rfl, hS, hk⟩
 replace hK := hK.trans hk
 replace hL_t_Links := hL_t_Links.kp hk
 refine oA (.slice none 0 0) rfl rfl ?_
 refine HO.nil (thenQ_normal (?_))
 refine HW.seq ?_
 refine HW.region ?_
 refine oV (.agg #[.int .i64 t_Root, vt_Links]) (q_loadAgg (cs := [.int .i64 t_Root, vt_Links]) ta_24 rfl rfl (Blk.cells (k := 2) (hS.box 0 rfl) rfl)) rfl ?_
 refine HO.call (want_none) rfl (ec en_54 rfl rfl) (tree_nexts_walk (fr := (Ow.box b_1 24 #[.int .i64 t_Root, vt_Links] :: fr)) t_Root t_Links vt_Links hS hL_t_Links hM) ?_
 rintro _ h_2 ⟨F_1, r_2, r_3, rfl, hk, hS, _, hM⟩
 replace hK := hK.trans hk
 replace hL_t_Links := hL_t_Links.kp hk
 obtain ⟨F_2, hS, hk, hN_1⟩ := hS.bagOpen
 replace hK := hK.trans hk
 replace hL_t_Links := hL_t_Links.kp hk
 refine oM (.int .i64 n) rfl rfl ?_
 have hL_2 : SliceF F_2 h_2 1 encI ((bagAt r_2 n).1) ((bagAt r_2 n).2) := hN_1.at_ n
 refine oV ((bagAt r_2 n).1) ((q_lookup (k := n) ka_3 tmk_62 (hS.mp 0 rfl) rfl rfl).of_eq (bagAt_v _ _)) rfl ?_
 refine oA ((bagAt r_2 n).1) rfl rfl ?_
 refine HO.nil (thenQ_normal (?_))
 refine HW.ret (?_)
 refine ⟨.inr rfl, (bagAt r_2 n).1, res1 rfl (rt rfl), ?_⟩
 replace hS : St F_2 (fr) h_2 := hS.perm2 [] 2 rfl rfl
 exact ⟨F_2, (bagAt r_2 n).2, (bagAt r_2 n).1, rfl, hK, hS, hL_t_Links, hL_2, hM⟩

def ref32_Path_B (R : Int → (List T_api_Branch) → Int → ((List Int) → Prop) → Prop) (t_Root : Int) (t_Links : List T_api_Branch) (n : Int) (Q : (List Int) → Prop) : Prop :=
 (n = t_Root → Q ([n] : List Int)) ∧ (¬ (n = t_Root) → ref32_Parent_W t_Root t_Links n (fun r0_1 r1_1 => ((!r1_1) = true → Q []) ∧ ((!r1_1) = false → R t_Root t_Links r0_1 (fun r_2 => ((r_2.length + ([n] : List Int).length) * 8 ≤ 140737488355328) ∧ (Q (r_2 ++ ([n] : List Int)))))))
def ref32_Path_Wn : Nat → Int → (List T_api_Branch) → Int → ((List Int) → Prop) → Prop
 | 0 => fun _ _ _ _ => False
 | n + 1 => ref32_Path_B (ref32_Path_Wn n)
def ref32_Path_W (t_Root : Int) (t_Links : List T_api_Branch) (n : Int) (Q : (List Int) → Prop) : Prop :=
 ∃ fu_ : Nat, ref32_Path_Wn fu_ t_Root t_Links n Q
set_option maxHeartbeats 40000000 in
set_option maxRecDepth 100000 in
theorem ref32_Path_walkn : ∀ (n_ : Nat) {F : Fz} {fr : List Ow} {h0 : Heap} (t_Root : Int) (t_Links : List T_api_Branch) (n : Int) (vt_Links : Value) (hS : St F (fr) h0) (hL_t_Links : SliceF F h0 2 e_api_Branch vt_Links t_Links) {Q : (List Int) → Prop} (hM : ref32_Path_Wn n_ t_Root t_Links n Q),
  HC Tryz.prog 27 #[.agg #[.int .i64 t_Root, vt_Links], .int .i64 n] h0 fun u h' => ∃ (F' : Fz) (r_1 : List Int) (vr_1 : Value), u = vr_1 ∧ Kp F h0 F' h' ∧ St F' (Ow.own 3 1 encI vr_1 r_1 :: fr) h' ∧ (SliceF F' h' 2 e_api_Branch vt_Links t_Links) ∧ Q r_1 := by
 intro n_
 induction n_ with
 | zero => intro F fr h0 t_Root t_Links n vt_Links hS hL_t_Links Q hM; exact hM.elim
 | succ n_ ih => ?_
 intro F fr h0 t_Root t_Links n vt_Links hS hL_t_Links Q hM
 replace hM : ref32_Path_B (ref32_Path_Wn n_) t_Root t_Links n Q := hM
 unfold ref32_Path_B at hM
 generalize ref32_Path_Wn n_ = R at ih hM
 have hK := Kp.refl F h0
 refine HC.of_HW (n := 27) Tryz.func27 rfl rfl (Nat.le_of_ble_eq_true rfl) ?_
 refine HW.seq ?_
 refine HW.region ?_
 refine HO.eff (want_none) rfl (st_box (c := #[.int .i64 t_Root, vt_Links]) (k' := 2) hS rfl rfl) ?_
 rintro _ h_1 ⟨b_1, rfl, hS, hk⟩
 replace hK := hK.trans hk
 replace hL_t_Links := hL_t_Links.kp hk
 refine oA (.slice none 0 0) rfl rfl ?_
 refine HO.nil (thenQ_normal (?_))
 refine HW.seq ?_
 refine HW.seq ?_
 refine HW.region ?_
 refine oM (.int .i64 n) rfl rfl ?_
 refine oV (.pointer (some ⟨b_1, 0, none⟩)) (q_fieldAddr fa_24_0 rfl rfl) rfl ?_
 refine oV (.int .i64 t_Root) (q_load to_3 rfl (Blk.cell (hS.box 0 rfl) rfl)) rfl ?_
 refine oV (.bool (decide (n = t_Root))) (q_eql rfl rfl) rfl ?_
 refine HO.nil (thenQ_normal (?_))
 refine HW.cond (decide (n = t_Root)) rfl (fun c_1 => ?_) (fun c_1 => ?_)
 ·
  replace hM := hM.1 (of_decide_eq_true c_1)
  refine HW.seq ?_
  refine HW.region ?_
  refine oM (.int .i64 n) rfl rfl ?_
  refine HO.eff (want_none) rfl (st_lit (enc := encI) (cells := #[.int .i64 n]) #[.int .i64 0] ([n] : List Int) hS tl_36 (by decide) (by decide) (by kernel_rfl) (by kernel_rfl) rfl (by intro x hx; rfl) rfl) ?_
  rintro _ h_2 ⟨b_2, rfl, hS, hk⟩
  replace hK := hK.trans hk
  replace hL_t_Links := hL_t_Links.kp hk
  refine oA (.slice (some ⟨b_2, 0, none⟩) 1 1) rfl rfl ?_
  refine HO.nil (thenQ_normal (?_))
  refine HW.ret (thenQ_ret (?_))
  refine ⟨.inr rfl, .slice (some ⟨b_2, 0, none⟩) 1 1, res1 rfl (rt rfl), ?_⟩
  replace hS : St F (Ow.own 3 1 encI (.slice (some ⟨b_2, 0, none⟩) 1 1) ([n] : List Int) :: fr) h_2 := hS.perm2 [0] 2 rfl rfl
  exact ⟨F, ([n] : List Int), .slice (some ⟨b_2, 0, none⟩) 1 1, rfl, hK, hS, hL_t_Links, hM⟩
 ·
  replace hM := hM.2 (of_decide_eq_false c_1)
  refine HW.skip (thenQ_normal (?_))
  refine HW.seq ?_
  refine HW.region ?_
  refine oV (.agg #[.int .i64 t_Root, vt_Links]) (q_loadAgg (cs := [.int .i64 t_Root, vt_Links]) ta_24 rfl rfl (Blk.cells (k := 2) (hS.box 0 rfl) rfl)) rfl ?_
  refine oM (.int .i64 n) rfl rfl ?_
  refine HO.call (want_none) rfl (ec en_19 rfl rfl) (ref32_Parent_walk (fr := (Ow.box b_1 24 #[.int .i64 t_Root, vt_Links] :: fr)) t_Root t_Links n vt_Links hS hL_t_Links hM) ?_
  rintro _ h_3 ⟨F_1, r0_1, r1_1, rfl, hk, hS, _, hM⟩
  replace hK := hK.trans hk
  replace hL_t_Links := hL_t_Links.kp hk
  refine oM (.tuple #[.int .i64 r0_1, .bool r1_1]) rfl rfl ?_
  refine oV (.int .i64 r0_1) (q_extract rfl rfl) rfl ?_
  refine oV (.bool r1_1) (q_extract rfl rfl) rfl ?_
  refine oA (.int .i64 r0_1) rfl rfl ?_
  refine oA (.bool r1_1) rfl rfl ?_
  refine HO.nil (thenQ_normal (?_))
  refine HW.seq ?_
  refine HW.seq ?_
  refine HW.region ?_
  refine oM (.bool r1_1) rfl rfl ?_
  refine oV (.bool (!r1_1)) (q_not rfl) rfl ?_
  refine HO.nil (thenQ_normal (?_))
  refine HW.cond (!r1_1) rfl (fun c_2 => ?_) (fun c_2 => ?_)
  ·
   replace hM := hM.1 c_2
   refine HW.seq ?_
   refine HW.region ?_
   refine oA (.slice none 0 0) rfl rfl ?_
   refine HO.nil (thenQ_normal (?_))
   refine HW.ret (thenQ_ret (?_))
   refine ⟨.inr rfl, .slice none 0 0, res1 rfl (rt rfl), ?_⟩
   replace hS := hS.nilOwn 3 1 encI
   replace hS : St F_1 (Ow.own 3 1 encI (.slice none 0 0) ([] : List Int) :: fr) h_3 := hS.perm2 [0] 2 rfl rfl
   exact ⟨F_1, [], .slice none 0 0, rfl, hK, hS, hL_t_Links, hM⟩
  ·
   replace hM := hM.2 c_2
   refine HW.skip (thenQ_normal (?_))
   refine HW.seq ?_
   refine HW.region ?_
   refine oV (.agg #[.int .i64 t_Root, vt_Links]) (q_loadAgg (cs := [.int .i64 t_Root, vt_Links]) ta_24 rfl rfl (Blk.cells (k := 2) (hS.box 0 rfl) rfl)) rfl ?_
   refine oM (.int .i64 r0_1) rfl rfl ?_
   refine HO.call (want_none) rfl (ec en_27 rfl rfl) (ih (fr := (Ow.box b_1 24 #[.int .i64 t_Root, vt_Links] :: fr)) t_Root t_Links r0_1 vt_Links hS hL_t_Links hM) ?_
   rintro vr_2 h_4 ⟨F_2, r_2, _, rfl, hk, hS, _, hM⟩
   replace hK := hK.trans hk
   replace hL_t_Links := hL_t_Links.kp hk
   refine oM (.int .i64 n) rfl rfl ?_
   refine HO.eff (want_none) rfl (st_lit (enc := encI) (cells := #[.int .i64 n]) #[.int .i64 0] ([n] : List Int) hS tl_36 (by decide) (by decide) (by kernel_rfl) (by kernel_rfl) rfl (by intro x hx; rfl) rfl) ?_
   rintro _ h_5 ⟨b_3, rfl, hS, hk⟩
   replace hK := hK.trans hk
   replace hL_t_Links := hL_t_Links.kp hk
   obtain ⟨ho_1, hM⟩ := hM
   refine HO.eff (want_none) rfl (st_append te_36 hS (i := 1) rfl (hS.own 0 rfl).slice rfl rfl rfl (by intro a _ u hu; simp [encI, encI, encN, encB, encT] at hu; subst hu; rfl) ho_1 (by omega)) ?_
   rintro v_1 h_6 ⟨hS, hk⟩
   replace hS : St F_2 (Ow.own 3 1 encI (.slice (some ⟨b_3, 0, none⟩) 1 1) ([n] : List Int) :: Ow.own 3 1 encI v_1 (r_2 ++ ([n] : List Int)) :: Ow.box b_1 24 #[.int .i64 t_Root, vt_Links] :: fr) h_6 := hS
   replace hK := hK.trans hk
   replace hL_t_Links := hL_t_Links.kp hk
   refine oA (v_1) rfl rfl ?_
   refine HO.nil (thenQ_normal (?_))
   refine HW.ret (?_)
   refine ⟨.inr rfl, v_1, res1 rfl (rt rfl), ?_⟩
   replace hS : St F_2 (Ow.own 3 1 encI v_1 (r_2 ++ ([n] : List Int)) :: fr) h_6 := hS.perm2 [1] 3 rfl rfl
   exact ⟨F_2, r_2 ++ ([n] : List Int), v_1, rfl, hK, hS, hL_t_Links, hM⟩
set_option maxHeartbeats 40000000 in
set_option maxRecDepth 100000 in
theorem ref32_Path_walk {F : Fz} {fr : List Ow} {h0 : Heap} (t_Root : Int) (t_Links : List T_api_Branch) (n : Int) (vt_Links : Value) (hS : St F (fr) h0) (hL_t_Links : SliceF F h0 2 e_api_Branch vt_Links t_Links) {Q : (List Int) → Prop} (hM : ref32_Path_W t_Root t_Links n Q) :
  HC Tryz.prog 27 #[.agg #[.int .i64 t_Root, vt_Links], .int .i64 n] h0 fun u h' => ∃ (F' : Fz) (r_1 : List Int) (vr_1 : Value), u = vr_1 ∧ Kp F h0 F' h' ∧ St F' (Ow.own 3 1 encI vr_1 r_1 :: fr) h' ∧ (SliceF F' h' 2 e_api_Branch vt_Links t_Links) ∧ Q r_1 := by
 obtain ⟨n_, hM⟩ := hM
 exact ref32_Path_walkn n_ t_Root t_Links n vt_Links hS hL_t_Links hM

def ref32_Depth_l1 (t_Root : Int) (t_Links : List T_api_Branch) (Q : Int → Prop) (r_2 : List Int) (K_1 : Int → Int → Prop) (most_1 : Int) (i_1 : Int) : Prop :=
 (i_1 < (r_2.length : Int) → ((0 : Int) ≤ i_1 ∧ i_1 < (r_2.length : Int)) ∧ (ref32_Path_W t_Root t_Links (gi r_2 i_1) (fun r_3 => (I64 ((r_3.length : Int) - 1)) ∧ ((most_1 < ((r_3.length : Int) - 1) → (I64 (i_1 + 1)) ∧ (K_1 ((r_3.length : Int) - 1) (i_1 + 1))) ∧ (¬ (most_1 < ((r_3.length : Int) - 1)) → (I64 (i_1 + 1)) ∧ (K_1 most_1 (i_1 + 1))))))) ∧ (¬ (i_1 < (r_2.length : Int)) → Q most_1)
def ref32_Depth_W (t_Root : Int) (t_Links : List T_api_Branch) (Q : Int → Prop) : Prop :=
 ref32_Nodes_W t_Root t_Links (fun r_2 => loopW (fun (K_1 : (Int × Int) → Prop) (s : Int × Int) => ref32_Depth_l1 t_Root t_Links Q r_2 (fun most_1 i_1 => K_1 (most_1, i_1)) s.1 s.2) (0, 0))
set_option maxHeartbeats 40000000 in
set_option maxRecDepth 100000 in
theorem ref32_Depth_walk {F : Fz} {fr : List Ow} {h0 : Heap} (t_Root : Int) (t_Links : List T_api_Branch) (vt_Links : Value) (hS : St F (fr) h0) (hL_t_Links : SliceF F h0 2 e_api_Branch vt_Links t_Links) {Q : Int → Prop} (hM : ref32_Depth_W t_Root t_Links Q) :
  HC Tryz.prog 30 #[.agg #[.int .i64 t_Root, vt_Links]] h0 fun u h' => ∃ (F' : Fz) (r_1 : Int), u = .int .i64 r_1 ∧ Kp F h0 F' h' ∧ St F' (fr) h' ∧ (SliceF F' h' 2 e_api_Branch vt_Links t_Links) ∧ Q r_1 := by
 unfold ref32_Depth_W at hM
 have hK := Kp.refl F h0
 refine HC.of_HW (n := 28) Tryz.func30 rfl rfl (Nat.le_of_ble_eq_true rfl) ?_
 refine HW.seq ?_
 refine HW.region ?_
 refine HO.eff (want_none) rfl (st_box (c := #[.int .i64 t_Root, vt_Links]) (k' := 2) hS rfl rfl) ?_
 rintro _ h_1 ⟨b_1, rfl, hS, hk⟩
 replace hK := hK.trans hk
 replace hL_t_Links := hL_t_Links.kp hk
 refine oA (.int .i64 0) rfl rfl ?_
 refine HO.nil (thenQ_normal (?_))
 refine HW.seq ?_
 refine HW.region ?_
 refine oV (.agg #[.int .i64 t_Root, vt_Links]) (q_loadAgg (cs := [.int .i64 t_Root, vt_Links]) ta_24 rfl rfl (Blk.cells (k := 2) (hS.box 0 rfl) rfl)) rfl ?_
 refine HO.call (want_none) rfl (ec en_17 rfl rfl) (ref32_Nodes_walk (fr := (Ow.box b_1 24 #[.int .i64 t_Root, vt_Links] :: fr)) t_Root t_Links vt_Links hS hL_t_Links hM) ?_
 rintro vr_1 h_2 ⟨F_1, r_2, _, rfl, hk, hS, _, hM⟩
 replace hK := hK.trans hk
 replace hL_t_Links := hL_t_Links.kp hk
 refine oA (vr_1) rfl rfl ?_
 refine oA (.int .i64 0) rfl rfl ?_
 refine HO.nil (thenQ_normal (?_))
 refine HW.seq ?_
 refine HW.seq ?_
 refine HW.region ?_
 refine oA (.int .i64 0) rfl rfl ?_
 refine HO.nil (thenQ_normal (?_))
 refine HW.block ?_
 obtain ⟨I_1, m_1, hI_1, hR_1⟩ := hM
 replace hS : St F_1 (Ow.box b_1 24 #[.int .i64 t_Root, vt_Links] :: Ow.own 3 1 encI vr_1 r_2 :: fr) h_2 := hS.perm2 [1, 0] 2 rfl rfl
 refine HW.loop (S := Int × Int) (fun s f h => match s with | (most_1, i_1) => ∃ (F' : Fz), f 1 = .pointer (some ⟨b_1, 0, none⟩) ∧ f 2 = .int .i64 0 ∧ f 3 = vr_1 ∧ f 4 = .int .i64 most_1 ∧ f 5 = .int .i64 i_1 ∧ Kp F h0 F' h ∧ St F' (Ow.box b_1 24 #[.int .i64 t_Root, vt_Links] :: Ow.own 3 1 encI vr_1 r_2 :: fr) h ∧ (SliceF F' h 2 e_api_Branch vt_Links t_Links) ∧ I_1 (most_1, i_1)) m_1 (0, 0) ⟨F_1, rfl, rfl, rfl, rfl, rfl, hK, hS, hL_t_Links, hI_1⟩ ?_
 rintro ⟨most_1, i_1⟩ f_1 h_3 ⟨F_2, e1, e2, e3, e4, e5, hK, hS, hL_t_Links, hI0⟩
 obtain ⟨K_1, hKe_1⟩ : ∃ K : Int → Int → Prop, K = fun most_1' i_1' => I_1 (most_1', i_1') ∧ m_1 (most_1', i_1') < m_1 (most_1, i_1) := ⟨_, rfl⟩
 have hM : ref32_Depth_l1 t_Root t_Links Q r_2 K_1 most_1 i_1 := by rw [hKe_1]; exact hR_1 (most_1, i_1) hI0
 unfold ref32_Depth_l1 at hM
 refine HW.fr [(1, .pointer (some ⟨b_1, 0, none⟩)), (2, .int .i64 0), (3, vr_1), (4, .int .i64 most_1), (5, .int .i64 i_1)] ⟨e1, e2, e3, e4, e5, trivial⟩ ?_
 refine HW.seq ?_
 refine HW.seq ?_
 refine HW.region ?_
 refine oM (.int .i64 i_1) rfl rfl ?_
 refine oM (vr_1) rfl rfl ?_
 refine oV (.int .i64 (r_2.length : Int)) (q_len ts_36 (shp (hS.own 1 rfl).slice) rfl rfl) rfl ?_
 refine oV (.bool (decide (i_1 < (r_2.length : Int)))) (q_lss rfl rfl) rfl ?_
 refine HO.nil (thenQ_normal (?_))
 refine HW.cond (decide (i_1 < (r_2.length : Int))) rfl (fun c_1 => ?_) (fun c_1 => ?_)
 ·
  replace hM := hM.1 (of_decide_eq_true c_1)
  refine HW.skip (thenQ_normal (?_))
  refine HW.seq ?_
  refine HW.block ?_
  refine HW.seq ?_
  refine HW.regionA 9 mixed (fun h => (Blk h b_1 (.cells #[.int .i64 t_Root, vt_Links] 24 (0, 0))) ∧ (OwnIs h 0 3 1 encI vr_1 r_2)) [] (by kernel_rfl) ?_
  refine HA.val (k := 0) (v := .agg #[.int .i64 t_Root, vt_Links]) rfl rfl (by kernel_rfl) (by kernel_rfl) (want_none) rfl (fun _ ⟨c303, c304⟩ => q_loadAgg (cs := [.int .i64 t_Root, vt_Links]) ta_24 rfl rfl (Blk.cells (k := 2) c303 rfl)) ?_
  refine HA.val (k := 1) (v := vr_1) rfl rfl (by kernel_rfl) (by kernel_rfl) (want_none) rfl (fun _ ⟨c303, c304⟩ => q_move rfl) ?_
  refine HA.val (k := 2) (v := .int .i64 i_1) rfl rfl (by kernel_rfl) (by kernel_rfl) (want_none) rfl (fun _ ⟨c303, c304⟩ => q_move rfl) ?_
  obtain ⟨ho_1, hM⟩ := hM
  refine HA.val (k := 3) (v := elemPtr 1 vr_1 (i_1).toNat) rfl rfl (by kernel_rfl) (by kernel_rfl) (want_none) rfl (fun _ ⟨c303, c304⟩ => q_idx ts_36 c304.slice rfl rfl ho_1) ?_
  refine HA.val (k := 4) (v := .int .i64 (gi r_2 i_1)) rfl rfl (by kernel_rfl) (by kernel_rfl) (want_none) rfl (fun _ ⟨c303, c304⟩ => q_ldElem to_3 c304.slice rfl ho_1 rfl) ?_
  refine HA.one (k := 5) ⟨⟨(hS.box 0 rfl), (hS.own 1 rfl)⟩, (Go.Wk.at_nil _ _)⟩ (by kernel_rfl) ?_
  refine HS.call rfl (want_none) rfl (ec en_27 rfl rfl) (ref32_Path_walk (fr := (Ow.box b_1 24 #[.int .i64 t_Root, vt_Links] :: Ow.own 3 1 encI vr_1 r_2 :: fr)) t_Root t_Links (gi r_2 i_1) vt_Links hS hL_t_Links hM) ?_
  rintro vr_2 h_4 ⟨F_3, r_3, _, rfl, hk, hS, _, hM⟩
  replace hK := hK.trans hk
  replace hL_t_Links := hL_t_Links.kp hk
  refine Go.Wk.HA.re (fun h => (OwnIs h 0 3 1 encI vr_2 r_3) ∧ (Blk h b_1 (.cells #[.int .i64 t_Root, vt_Links] 24 (0, 0))) ∧ (OwnIs h 0 3 1 encI vr_1 r_2)) [] (fun L_ h_ hL_ ⟨c335, c303, c304⟩ hs_ => ⟨⟨c303, c304⟩, (Go.Wk.at_nil _ _)⟩) ?_
  refine HA.val (k := 6) (v := .int .i64 (r_3.length : Int)) rfl rfl (by kernel_rfl) (by kernel_rfl) (want_none) rfl (fun _ ⟨c335, c303, c304⟩ => q_len ts_36 (shp c335.slice) rfl rfl) ?_
  obtain ⟨ho_2, hM⟩ := hM
  refine HA.val (k := 7) (v := .int .i64 ((r_3.length : Int) - 1)) rfl rfl (by kernel_rfl) (by kernel_rfl) (want_none) rfl (fun _ ⟨c335, c303, c304⟩ => q_subN _ rfl rfl rfl ho_2.1 ho_2.2) ?_
  refine HA.val (k := 8) (v := .int .i64 ((r_3.length : Int) - 1)) rfl rfl (by kernel_rfl) (by kernel_rfl) (want_none) rfl (fun _ ⟨c335, c303, c304⟩ => q_assign rfl) ?_
  refine HA.nil ⟨⟨(hS.own 0 rfl), (hS.box 1 rfl), (hS.own 2 rfl)⟩, (Go.Wk.at_nil _ _)⟩ (by kernel_rfl) (thenQ_normal (?_))
  refine HW.seq ?_
  refine HW.region ?_
  refine oM (.int .i64 ((r_3.length : Int) - 1)) rfl rfl ?_
  refine oM (.int .i64 most_1) rfl rfl ?_
  refine oV (.bool (decide (most_1 < ((r_3.length : Int) - 1)))) (q_gtr rfl rfl) rfl ?_
  refine HO.nil (thenQ_normal (?_))
  refine HW.cond (decide (most_1 < ((r_3.length : Int) - 1))) rfl (fun c_2 => ?_) (fun c_2 => ?_)
  ·
   replace hM := hM.1 (of_decide_eq_true c_2)
   refine HW.region ?_
   refine oM (.int .i64 ((r_3.length : Int) - 1)) rfl rfl ?_
   refine oA (.int .i64 ((r_3.length : Int) - 1)) rfl rfl ?_
   refine HO.nil (blockQ_normal (thenQ_normal (?_)))
   refine HW.region ?_
   refine oM (.int .i64 i_1) rfl rfl ?_
   obtain ⟨ho_3, hM⟩ := hM
   refine oV (.int .i64 (i_1 + 1)) (q_addN _ rfl rfl rfl ho_3.1 ho_3.2) rfl ?_
   refine oA (.int .i64 (i_1 + 1)) rfl rfl ?_
   refine HO.nil (thenQ_normal (?_))
   replace hS : St F_3 (Ow.box b_1 24 #[.int .i64 t_Root, vt_Links] :: Ow.own 3 1 encI vr_1 r_2 :: fr) h_4 := hS.perm2 [1, 2] 3 rfl rfl
   rw [hKe_1] at hM
   exact ⟨((r_3.length : Int) - 1, i_1 + 1), ⟨F_3, rfl, rfl, rfl, rfl, rfl, hK, hS, hL_t_Links, hM.1⟩, hM.2⟩
  ·
   replace hM := hM.2 (of_decide_eq_false c_2)
   refine HW.skip (blockQ_normal (thenQ_normal (?_)))
   refine HW.region ?_
   refine oM (.int .i64 i_1) rfl rfl ?_
   obtain ⟨ho_4, hM⟩ := hM
   refine oV (.int .i64 (i_1 + 1)) (q_addN _ rfl rfl rfl ho_4.1 ho_4.2) rfl ?_
   refine oA (.int .i64 (i_1 + 1)) rfl rfl ?_
   refine HO.nil (thenQ_normal (?_))
   replace hS : St F_3 (Ow.box b_1 24 #[.int .i64 t_Root, vt_Links] :: Ow.own 3 1 encI vr_1 r_2 :: fr) h_4 := hS.perm2 [1, 2] 3 rfl rfl
   rw [hKe_1] at hM
   exact ⟨(most_1, i_1 + 1), ⟨F_3, rfl, rfl, rfl, rfl, rfl, hK, hS, hL_t_Links, hM.1⟩, hM.2⟩
 ·
  replace hM := hM.2 (of_decide_eq_false c_1)
  refine HW.exit (thenQ_exit (thenQ_exit (blockQ_exit (thenQ_normal (?_)))))
  refine HW.seq ?_
  refine HW.region ?_
  refine oM (.int .i64 most_1) rfl rfl ?_
  refine oA (.int .i64 most_1) rfl rfl ?_
  refine HO.nil (thenQ_normal (?_))
  refine HW.ret (?_)
  refine ⟨.inr rfl, .int .i64 most_1, res1 rfl (rt rfl), ?_⟩
  replace hS : St F_2 (fr) h_3 := hS.perm2 [] 2 rfl rfl
  exact ⟨F_2, most_1, rfl, hK, hS, hL_t_Links, hM⟩

def ref32_Leaves_j1 (r_2 : List Int) (out_1 : List Int) (i_1 : Int) (K_1 : (List Int) → Int → Prop) (b_3 : Bool) : Prop :=
 (b_3 = true → ((0 : Int) ≤ i_1 ∧ i_1 < (r_2.length : Int)) ∧ (((out_1.length + ([(gi r_2 i_1)] : List Int).length) * 8 ≤ 140737488355328) ∧ ((I64 (i_1 + 1)) ∧ (K_1 (out_1 ++ ([(gi r_2 i_1)] : List Int)) (i_1 + 1))))) ∧ (b_3 = false → (I64 (i_1 + 1)) ∧ (K_1 out_1 (i_1 + 1)))
def ref32_Leaves_l1 (t_Root : Int) (t_Links : List T_api_Branch) (Q : (List Int) → Prop) (r_2 : List Int) (K_1 : (List Int) → Int → Prop) (out_1 : List Int) (i_1 : Int) : Prop :=
 (i_1 < (r_2.length : Int) → ((0 : Int) ≤ i_1 ∧ i_1 < (r_2.length : Int)) ∧ ((¬ ((gi r_2 i_1) = t_Root) → ref32_Next_W t_Root t_Links (gi r_2 i_1) (fun r_3 => ref32_Leaves_j1 r_2 out_1 i_1 K_1 (decide ((r_3.length : Int) = 0)))) ∧ ((gi r_2 i_1) = t_Root → ref32_Leaves_j1 r_2 out_1 i_1 K_1 false))) ∧ (¬ (i_1 < (r_2.length : Int)) → Q out_1)
def ref32_Leaves_W (t_Root : Int) (t_Links : List T_api_Branch) (Q : (List Int) → Prop) : Prop :=
 ref32_Nodes_W t_Root t_Links (fun r_2 => loopW (fun (K_1 : (List Int × Int) → Prop) (s : List Int × Int) => ref32_Leaves_l1 t_Root t_Links Q r_2 (fun out_1 i_1 => K_1 (out_1, i_1)) s.1 s.2) ([], 0))
set_option maxHeartbeats 40000000 in
set_option maxRecDepth 100000 in
theorem ref32_Leaves_walk {F : Fz} {fr : List Ow} {h0 : Heap} (t_Root : Int) (t_Links : List T_api_Branch) (vt_Links : Value) (hS : St F (fr) h0) (hL_t_Links : SliceF F h0 2 e_api_Branch vt_Links t_Links) {Q : (List Int) → Prop} (hM : ref32_Leaves_W t_Root t_Links Q) :
  HC Tryz.prog 32 #[.agg #[.int .i64 t_Root, vt_Links]] h0 fun u h' => ∃ (F' : Fz) (r_1 : List Int) (vr_1 : Value), u = vr_1 ∧ Kp F h0 F' h' ∧ St F' (Ow.own 3 1 encI vr_1 r_1 :: fr) h' ∧ (SliceF F' h' 2 e_api_Branch vt_Links t_Links) ∧ Q r_1 := by
 unfold ref32_Leaves_W at hM
 have hK := Kp.refl F h0
 refine HC.of_HW (n := 40) Tryz.func32 rfl rfl (Nat.le_of_ble_eq_true rfl) ?_
 refine HW.seq ?_
 refine HW.region ?_
 refine HO.eff (want_none) rfl (st_box (c := #[.int .i64 t_Root, vt_Links]) (k' := 2) hS rfl rfl) ?_
 rintro _ h_1 ⟨b_1, rfl, hS, hk⟩
 replace hK := hK.trans hk
 replace hL_t_Links := hL_t_Links.kp hk
 refine oA (.slice none 0 0) rfl rfl ?_
 refine HO.nil (thenQ_normal (?_))
 refine HW.seq ?_
 refine HW.region ?_
 refine oV (.agg #[.int .i64 t_Root, vt_Links]) (q_loadAgg (cs := [.int .i64 t_Root, vt_Links]) ta_24 rfl rfl (Blk.cells (k := 2) (hS.box 0 rfl) rfl)) rfl ?_
 refine HO.call (want_none) rfl (ec en_17 rfl rfl) (ref32_Nodes_walk (fr := (Ow.box b_1 24 #[.int .i64 t_Root, vt_Links] :: fr)) t_Root t_Links vt_Links hS hL_t_Links hM) ?_
 rintro vr_2 h_2 ⟨F_1, r_2, _, rfl, hk, hS, _, hM⟩
 replace hK := hK.trans hk
 replace hL_t_Links := hL_t_Links.kp hk
 refine HO.eff (want_none) rfl (st_litEmpty (α := Int) encI hS tl_36) ?_
 rintro _ h_3 ⟨b_2, rfl, hS, hk⟩
 replace hK := hK.trans hk
 replace hL_t_Links := hL_t_Links.kp hk
 refine oA (vr_2) rfl rfl ?_
 refine oA (.slice (some ⟨b_2, 0, none⟩) 0 0) rfl rfl ?_
 refine HO.nil (thenQ_normal (?_))
 refine HW.seq ?_
 refine HW.seq ?_
 refine HW.region ?_
 refine oA (.int .i64 0) rfl rfl ?_
 refine HO.nil (thenQ_normal (?_))
 refine HW.block ?_
 obtain ⟨I_1, m_1, hI_1, hR_1⟩ := hM
 replace hS : St F_1 (Ow.box b_1 24 #[.int .i64 t_Root, vt_Links] :: Ow.own 3 1 encI vr_2 r_2 :: Ow.own 3 1 encI (.slice (some ⟨b_2, 0, none⟩) 0 0) ([] : List Int) :: fr) h_3 := hS.perm2 [2, 1, 0] 3 rfl rfl
 refine HW.loop (S := List Int × Int) (fun s f h => match s with | (out_1, i_1) => ∃ (F' : Fz) (vout_1 : Value), f 1 = .pointer (some ⟨b_1, 0, none⟩) ∧ f 2 = .slice none 0 0 ∧ f 3 = vr_2 ∧ f 4 = vout_1 ∧ f 5 = .int .i64 i_1 ∧ Kp F h0 F' h ∧ St F' (Ow.box b_1 24 #[.int .i64 t_Root, vt_Links] :: Ow.own 3 1 encI vr_2 r_2 :: Ow.own 3 1 encI vout_1 out_1 :: fr) h ∧ (SliceF F' h 2 e_api_Branch vt_Links t_Links) ∧ I_1 (out_1, i_1)) m_1 ([], 0) ⟨F_1, .slice (some ⟨b_2, 0, none⟩) 0 0, rfl, rfl, rfl, rfl, rfl, hK, hS, hL_t_Links, hI_1⟩ ?_
 rintro ⟨out_1, i_1⟩ f_1 h_4 ⟨F_2, vout_1, e1, e2, e3, e4, e5, hK, hS, hL_t_Links, hI0⟩
 obtain ⟨K_1, hKe_1⟩ : ∃ K : (List Int) → Int → Prop, K = fun out_1' i_1' => I_1 (out_1', i_1') ∧ m_1 (out_1', i_1') < m_1 (out_1, i_1) := ⟨_, rfl⟩
 have hM : ref32_Leaves_l1 t_Root t_Links Q r_2 K_1 out_1 i_1 := by rw [hKe_1]; exact hR_1 (out_1, i_1) hI0
 unfold ref32_Leaves_l1 at hM
 refine HW.fr [(1, .pointer (some ⟨b_1, 0, none⟩)), (2, .slice none 0 0), (3, vr_2), (4, vout_1), (5, .int .i64 i_1)] ⟨e1, e2, e3, e4, e5, trivial⟩ ?_
 refine HW.seq ?_
 refine HW.seq ?_
 refine HW.region ?_
 refine oM (.int .i64 i_1) rfl rfl ?_
 refine oM (vr_2) rfl rfl ?_
 refine oV (.int .i64 (r_2.length : Int)) (q_len ts_36 (shp (hS.own 1 rfl).slice) rfl rfl) rfl ?_
 refine oV (.bool (decide (i_1 < (r_2.length : Int)))) (q_lss rfl rfl) rfl ?_
 refine HO.nil (thenQ_normal (?_))
 refine HW.cond (decide (i_1 < (r_2.length : Int))) rfl (fun c_1 => ?_) (fun c_1 => ?_)
 ·
  replace hM := hM.1 (of_decide_eq_true c_1)
  refine HW.skip (thenQ_normal (?_))
  refine HW.seq ?_
  refine HW.block ?_
  refine HW.seq_mid (fun f h => ∃ (F' : Fz) (b_3 : Bool), f 1 = .pointer (some ⟨b_1, 0, none⟩) ∧ f 2 = .slice none 0 0 ∧ f 3 = vr_2 ∧ f 4 = vout_1 ∧ f 5 = .int .i64 i_1 ∧ f 31 = .bool b_3 ∧ Kp F h0 F' h ∧ St F' (Ow.box b_1 24 #[.int .i64 t_Root, vt_Links] :: Ow.own 3 1 encI vr_2 r_2 :: Ow.own 3 1 encI vout_1 out_1 :: fr) h ∧ (SliceF F' h 2 e_api_Branch vt_Links t_Links) ∧ ref32_Leaves_j1 r_2 out_1 i_1 K_1 b_3) ?_ ?_
  ·
   refine HW.regionA 17 mixed (fun h => (Blk h b_1 (.cells #[.int .i64 t_Root, vt_Links] 24 (0, 0))) ∧ (OwnIs h 0 3 1 encI vr_2 r_2)) [] (by kernel_rfl) ?_
   refine HA.val (k := 0) (v := vr_2) rfl rfl (by kernel_rfl) (by kernel_rfl) (want_none) rfl (fun _ ⟨c305, c306⟩ => q_move rfl) ?_
   refine HA.val (k := 1) (v := .int .i64 i_1) rfl rfl (by kernel_rfl) (by kernel_rfl) (want_none) rfl (fun _ ⟨c305, c306⟩ => q_move rfl) ?_
   obtain ⟨ho_1, hM⟩ := hM
   refine HA.val (k := 2) (v := elemPtr 1 vr_2 (i_1).toNat) rfl rfl (by kernel_rfl) (by kernel_rfl) (want_none) rfl (fun _ ⟨c305, c306⟩ => q_idx ts_36 c306.slice rfl rfl ho_1) ?_
   refine HA.val (k := 3) (v := .int .i64 (gi r_2 i_1)) rfl rfl (by kernel_rfl) (by kernel_rfl) (want_none) rfl (fun _ ⟨c305, c306⟩ => q_ldElem to_3 c306.slice rfl ho_1 rfl) ?_
   refine HA.val (k := 4) (v := .pointer (some ⟨b_1, 0, none⟩)) rfl rfl (by kernel_rfl) (by kernel_rfl) (want_none) rfl (fun _ ⟨c305, c306⟩ => q_fieldAddr fa_24_0 rfl rfl) ?_
   refine HA.val (k := 5) (v := .int .i64 t_Root) rfl rfl (by kernel_rfl) (by kernel_rfl) (want_none) rfl (fun _ ⟨c305, c306⟩ => q_load to_3 rfl (Blk.cell c305 rfl)) ?_
   refine HA.val (k := 6) (v := .bool (!decide ((gi r_2 i_1) = t_Root))) rfl rfl (by kernel_rfl) (by kernel_rfl) (want_none) rfl (fun _ ⟨c305, c306⟩ => q_neq rfl rfl) ?_
   refine HA.val (k := 7) (v := .bool (!decide ((gi r_2 i_1) = t_Root))) rfl rfl (by kernel_rfl) (by kernel_rfl) (want_none) rfl (fun _ ⟨c305, c306⟩ => q_move rfl) ?_
   rcases Bool.eq_false_or_eq_true (!decide ((gi r_2 i_1) = t_Root)) with c_2 | c_2
   ·
    replace hM := hM.1 (nd_true c_2)
    refine HA.val (k := 8) (v := .agg #[.int .i64 t_Root, vt_Links]) rfl rfl (by kernel_rfl) (by kernel_rfl) (want_by rfl rfl c_2) rfl (fun _ ⟨c305, c306⟩ => q_loadAgg (cs := [.int .i64 t_Root, vt_Links]) ta_24 rfl rfl (Blk.cells (k := 2) c305 rfl)) ?_
    refine HA.val (k := 9) (v := vr_2) rfl rfl (by kernel_rfl) (by kernel_rfl) (want_by rfl rfl c_2) rfl (fun _ ⟨c305, c306⟩ => q_move rfl) ?_
    refine HA.val (k := 10) (v := .int .i64 i_1) rfl rfl (by kernel_rfl) (by kernel_rfl) (want_by rfl rfl c_2) rfl (fun _ ⟨c305, c306⟩ => q_move rfl) ?_
    refine HA.val (k := 11) (v := elemPtr 1 vr_2 (i_1).toNat) rfl rfl (by kernel_rfl) (by kernel_rfl) (want_by rfl rfl c_2) rfl (fun _ ⟨c305, c306⟩ => q_idx ts_36 c306.slice rfl rfl ho_1) ?_
    refine HA.val (k := 12) (v := .int .i64 (gi r_2 i_1)) rfl rfl (by kernel_rfl) (by kernel_rfl) (want_by rfl rfl c_2) rfl (fun _ ⟨c305, c306⟩ => q_ldElem to_3 c306.slice rfl ho_1 rfl) ?_
    refine HA.one (k := 13) ⟨⟨(hS.box 0 rfl), (hS.own 1 rfl)⟩, (Go.Wk.at_nil _ _)⟩ (by kernel_rfl) ?_
    refine HS.call rfl (want_by rfl rfl c_2) rfl (ec en_25 rfl rfl) (ref32_Next_walk (fr := (Ow.box b_1 24 #[.int .i64 t_Root, vt_Links] :: Ow.own 3 1 encI vr_2 r_2 :: Ow.own 3 1 encI vout_1 out_1 :: fr)) t_Root t_Links (gi r_2 i_1) vt_Links hS hL_t_Links hM) ?_
    rintro vr_3 h_5 ⟨F_3, r_3, _, rfl, hk, hS, _, hM⟩
    replace hK := hK.trans hk
    replace hL_t_Links := hL_t_Links.kp hk
    refine Go.Wk.HA.re (fun h => (OwnIs h 0 3 1 encI vr_3 r_3) ∧ (Blk h b_1 (.cells #[.int .i64 t_Root, vt_Links] 24 (0, 0))) ∧ (OwnIs h 0 3 1 encI vr_2 r_2)) [] (fun L_ h_ hL_ ⟨c389, c305, c306⟩ hs_ => ⟨⟨c305, c306⟩, (Go.Wk.at_nil _ _)⟩) ?_
    refine HA.val (k := 14) (v := .int .i64 (r_3.length : Int)) rfl rfl (by kernel_rfl) (by kernel_rfl) (want_by rfl rfl c_2) rfl (fun _ ⟨c389, c305, c306⟩ => q_len ts_36 (shp c389.slice) rfl rfl) ?_
    refine HA.val (k := 15) (v := .bool (decide ((r_3.length : Int) = 0))) rfl rfl (by kernel_rfl) (by kernel_rfl) (want_by rfl rfl c_2) rfl (fun _ ⟨c389, c305, c306⟩ => q_eql rfl rfl) ?_
    refine HA.val (k := 16) (v := .bool (decide ((r_3.length : Int) = 0))) rfl rfl (by kernel_rfl) (by kernel_rfl) (want_none) rfl (fun _ ⟨c389, c305, c306⟩ => q_pickK true rfl c_2 rfl) ?_
    refine HA.nil ⟨⟨(hS.own 0 rfl), (hS.box 1 rfl), (hS.own 2 rfl)⟩, (Go.Wk.at_nil _ _)⟩ (by kernel_rfl) (thenQ_normal (?_))
    replace hS : St F_3 (Ow.box b_1 24 #[.int .i64 t_Root, vt_Links] :: Ow.own 3 1 encI vr_2 r_2 :: Ow.own 3 1 encI vout_1 out_1 :: fr) h_5 := hS.perm2 [1, 2, 3] 4 rfl rfl
    exact ⟨F_3, decide ((r_3.length : Int) = 0), rfl, rfl, rfl, rfl, rfl, rfl, hK, hS, hL_t_Links, hM⟩
   ·
    replace hM := hM.2 (nd_false c_2)
    refine HA.past (k := 8) rfl rfl (by kernel_rfl) (by kernel_rfl) (past_by rfl rfl c_2) rfl ?_
    refine HA.past (k := 9) rfl rfl (by kernel_rfl) (by kernel_rfl) (past_by rfl rfl c_2) rfl ?_
    refine HA.past (k := 10) rfl rfl (by kernel_rfl) (by kernel_rfl) (past_by rfl rfl c_2) rfl ?_
    refine HA.past (k := 11) rfl rfl (by kernel_rfl) (by kernel_rfl) (past_by rfl rfl c_2) rfl ?_
    refine HA.past (k := 12) rfl rfl (by kernel_rfl) (by kernel_rfl) (past_by rfl rfl c_2) rfl ?_
    refine HA.one (k := 13) ⟨⟨(hS.box 0 rfl), (hS.own 1 rfl)⟩, (Go.Wk.at_nil _ _)⟩ (by kernel_rfl) ?_
    refine HS.past rfl (past_by rfl rfl c_2) rfl ?_
    refine HA.past (k := 14) rfl rfl (by kernel_rfl) (by kernel_rfl) (past_by rfl rfl c_2) rfl ?_
    refine HA.past (k := 15) rfl rfl (by kernel_rfl) (by kernel_rfl) (past_by rfl rfl c_2) rfl ?_
    refine HA.val (k := 16) (v := .bool false) rfl rfl (by kernel_rfl) (by kernel_rfl) (want_none) rfl (fun _ ⟨c305, c306⟩ => q_pickK false rfl c_2 rfl) ?_
    refine HA.nil ⟨⟨(hS.box 0 rfl), (hS.own 1 rfl)⟩, (Go.Wk.at_nil _ _)⟩ (by kernel_rfl) (thenQ_normal (?_))
    exact ⟨F_2, false, rfl, rfl, rfl, rfl, rfl, rfl, hK, hS, hL_t_Links, hM⟩
  ·
   rintro f_2 h_6 ⟨F_4, b_3, e1, e2, e3, e4, e5, e31, hK, hS, hL_t_Links, hM⟩
   unfold ref32_Leaves_j1 at hM
   refine HW.fr [(1, .pointer (some ⟨b_1, 0, none⟩)), (2, .slice none 0 0), (3, vr_2), (4, vout_1), (5, .int .i64 i_1), (31, .bool b_3)] ⟨e1, e2, e3, e4, e5, e31, trivial⟩ ?_
   refine HW.cond b_3 rfl (fun c_3 => ?_) (fun c_3 => ?_)
   ·
    replace hM := hM.1 c_3
    refine HW.region ?_
    refine oM (vout_1) rfl rfl ?_
    refine oM (vr_2) rfl rfl ?_
    refine oM (.int .i64 i_1) rfl rfl ?_
    obtain ⟨ho_2, hM⟩ := hM
    refine oV (elemPtr 1 vr_2 (i_1).toNat) (q_idx ts_36 (hS.own 1 rfl).slice rfl rfl ho_2) rfl ?_
    refine oV (.int .i64 (gi r_2 i_1)) (q_ldElem to_3 (hS.own 1 rfl).slice rfl ho_2 rfl) rfl ?_
    refine HO.eff (want_none) rfl (st_lit (enc := encI) (cells := #[.int .i64 (gi r_2 i_1)]) #[.int .i64 0] ([(gi r_2 i_1)] : List Int) hS tl_36 (by decide) (by decide) (by kernel_rfl) (by kernel_rfl) rfl (by intro x hx; rfl) rfl) ?_
    rintro _ h_7 ⟨b_4, rfl, hS, hk⟩
    replace hK := hK.trans hk
    replace hL_t_Links := hL_t_Links.kp hk
    obtain ⟨ho_3, hM⟩ := hM
    refine HO.eff (want_none) rfl (st_append te_36 hS (i := 3) rfl (hS.own 0 rfl).slice rfl rfl rfl (by intro a _ u hu; simp [encI, encI, encN, encB, encT] at hu; subst hu; rfl) ho_3 (by omega)) ?_
    rintro v_1 h_8 ⟨hS, hk⟩
    replace hS : St F_4 (Ow.own 3 1 encI (.slice (some ⟨b_4, 0, none⟩) 1 1) ([(gi r_2 i_1)] : List Int) :: Ow.box b_1 24 #[.int .i64 t_Root, vt_Links] :: Ow.own 3 1 encI vr_2 r_2 :: Ow.own 3 1 encI v_1 (out_1 ++ ([(gi r_2 i_1)] : List Int)) :: fr) h_8 := hS
    replace hK := hK.trans hk
    replace hL_t_Links := hL_t_Links.kp hk
    refine oA (v_1) rfl rfl ?_
    refine HO.nil (blockQ_normal (thenQ_normal (?_)))
    refine HW.region ?_
    refine oM (.int .i64 i_1) rfl rfl ?_
    obtain ⟨ho_4, hM⟩ := hM
    refine oV (.int .i64 (i_1 + 1)) (q_addN _ rfl rfl rfl ho_4.1 ho_4.2) rfl ?_
    refine oA (.int .i64 (i_1 + 1)) rfl rfl ?_
    refine HO.nil (thenQ_normal (?_))
    replace hS : St F_4 (Ow.box b_1 24 #[.int .i64 t_Root, vt_Links] :: Ow.own 3 1 encI vr_2 r_2 :: Ow.own 3 1 encI v_1 (out_1 ++ ([(gi r_2 i_1)] : List Int)) :: fr) h_8 := hS.perm2 [1, 2, 3] 4 rfl rfl
    rw [hKe_1] at hM
    exact ⟨(out_1 ++ ([(gi r_2 i_1)] : List Int), i_1 + 1), ⟨F_4, v_1, rfl, rfl, rfl, rfl, rfl, hK, hS, hL_t_Links, hM.1⟩, hM.2⟩
   ·
    replace hM := hM.2 c_3
    refine HW.skip (blockQ_normal (thenQ_normal (?_)))
    refine HW.region ?_
    refine oM (.int .i64 i_1) rfl rfl ?_
    obtain ⟨ho_5, hM⟩ := hM
    refine oV (.int .i64 (i_1 + 1)) (q_addN _ rfl rfl rfl ho_5.1 ho_5.2) rfl ?_
    refine oA (.int .i64 (i_1 + 1)) rfl rfl ?_
    refine HO.nil (thenQ_normal (?_))
    rw [hKe_1] at hM
    exact ⟨(out_1, i_1 + 1), ⟨F_4, vout_1, rfl, rfl, rfl, rfl, rfl, hK, hS, hL_t_Links, hM.1⟩, hM.2⟩
 ·
  replace hM := hM.2 (of_decide_eq_false c_1)
  refine HW.exit (thenQ_exit (thenQ_exit (blockQ_exit (thenQ_normal (?_)))))
  refine HW.seq ?_
  refine HW.region ?_
  refine oM (vout_1) rfl rfl ?_
  refine oA (vout_1) rfl rfl ?_
  refine HO.nil (thenQ_normal (?_))
  refine HW.ret (?_)
  refine ⟨.inr rfl, vout_1, res1 rfl (rt rfl), ?_⟩
  replace hS : St F_2 (Ow.own 3 1 encI vout_1 out_1 :: fr) h_4 := hS.perm2 [2] 3 rfl rfl
  exact ⟨F_2, out_1, vout_1, rfl, hK, hS, hL_t_Links, hM⟩

def tree_Fan_l1 (Q : Int → Prop) (K_1 : Int → (List (Int × Value × List Int)) → Prop) (most_1 : Int) (rem_1 : List (Int × Value × List Int)) : Prop :=
 (rem_1 = [] → Q most_1) ∧ (∀ (p_1 : Int × Value × List Int) (rem_2 : List (Int × Value × List Int)), List.Perm rem_1 (p_1 :: rem_2) → K_1 (max most_1 (p_1.2.2.length : Int)) rem_2)
def tree_Fan_W (t_Root : Int) (t_Links : List T_api_Branch) (Q : Int → Prop) : Prop :=
 tree_nexts_W t_Root t_Links (fun r_2 => loopW (fun (K_1 : (Int × List (Int × Value × List Int)) → Prop) (s : Int × List (Int × Value × List Int)) => tree_Fan_l1 Q (fun most_1 rem_1 => K_1 (most_1, rem_1)) s.1 s.2) (0, r_2))
set_option maxHeartbeats 40000000 in
set_option maxRecDepth 100000 in
theorem tree_Fan_walk {F : Fz} {fr : List Ow} {h0 : Heap} (t_Root : Int) (t_Links : List T_api_Branch) (vt_Links : Value) (hS : St F (fr) h0) (hL_t_Links : SliceF F h0 2 e_api_Branch vt_Links t_Links) {Q : Int → Prop} (hM : tree_Fan_W t_Root t_Links Q) :
  HC Tryz.prog 33 #[.agg #[.int .i64 t_Root, vt_Links]] h0 fun u h' => ∃ (F' : Fz) (r_1 : Int), u = .int .i64 r_1 ∧ Kp F h0 F' h' ∧ St F' (fr) h' ∧ (SliceF F' h' 2 e_api_Branch vt_Links t_Links) ∧ Q r_1 := by
 unfold tree_Fan_W at hM
 have hK := Kp.refl F h0
 refine HC.of_HW (n := 18) Tryz.func33 rfl rfl (Nat.le_of_ble_eq_true rfl) ?_
 refine HW.seq ?_
 refine HW.region ?_
 refine HO.eff (want_none) rfl (st_box (c := #[.int .i64 t_Root, vt_Links]) (k' := 2) hS rfl rfl) ?_
 rintro _ h_1 ⟨b_1, rfl, hS, hk⟩
 replace hK := hK.trans hk
 replace hL_t_Links := hL_t_Links.kp hk
 refine oA (.int .i64 0) rfl rfl ?_
 refine HO.nil (thenQ_normal (?_))
 refine HW.seq ?_
 refine HW.region ?_
 refine oA (.int .i64 0) rfl rfl ?_
 refine HO.nil (thenQ_normal (?_))
 refine HW.seq ?_
 refine HW.seq ?_
 refine HW.region ?_
 refine oV (.agg #[.int .i64 t_Root, vt_Links]) (q_loadAgg (cs := [.int .i64 t_Root, vt_Links]) ta_24 rfl rfl (Blk.cells (k := 2) (hS.box 0 rfl) rfl)) rfl ?_
 refine HO.call (want_none) rfl (ec en_54 rfl rfl) (tree_nexts_walk (fr := (Ow.box b_1 24 #[.int .i64 t_Root, vt_Links] :: fr)) t_Root t_Links vt_Links hS hL_t_Links hM) ?_
 rintro _ h_2 ⟨F_1, r_2, r_3, rfl, hk, hS, _, hM⟩
 replace hK := hK.trans hk
 replace hL_t_Links := hL_t_Links.kp hk
 obtain ⟨F_2, hS, hk, hN_1⟩ := hS.bagOpen
 replace hK := hK.trans hk
 replace hL_t_Links := hL_t_Links.kp hk
 refine HO.eff (want_none) rfl (st_range hS (i := 0) rfl Tryz.underlying62 rfl) ?_
 rintro _ h_3 ⟨it_1, rfl, hS, hk⟩
 replace hS : St F_2 (Ow.iter it_1 r_3 kI bagV r_2 r_2 :: Ow.box b_1 24 #[.int .i64 t_Root, vt_Links] :: fr) h_3 := hS
 replace hK := hK.trans hk
 replace hL_t_Links := hL_t_Links.kp hk
 replace hN_1 := hN_1.kp hk
 refine HO.nil (thenQ_normal (?_))
 refine HW.block ?_
 obtain ⟨I_1, m_1, hI_1, hR_1⟩ := hM
 replace hS : St F_2 (Ow.iter it_1 r_3 kI bagV r_2 r_2 :: fr) h_3 := hS.perm2 [0] 2 rfl rfl
 refine HW.loop (S := Int × List (Int × Value × List Int)) (fun s f h => match s with | (most_1, rem_1) => ∃ (F' : Fz), f 2 = .int .i64 0 ∧ f 3 = .int .i64 most_1 ∧ f 8 = .pointer (some ⟨it_1, 0, none⟩) ∧ Kp F h0 F' h ∧ St F' (Ow.iter it_1 r_3 kI bagV r_2 rem_1 :: fr) h ∧ (SliceF F' h 2 e_api_Branch vt_Links t_Links) ∧ (NfB 1 encI F' h r_2) ∧ (NfB 1 encI F' h rem_1) ∧ I_1 (most_1, rem_1)) m_1 (0, r_2) ⟨F_2, rfl, rfl, rfl, hK, hS, hL_t_Links, hN_1, hN_1, hI_1⟩ ?_
 rintro ⟨most_1, rem_1⟩ f_1 h_4 ⟨F_3, e2, e3, e8, hK, hS, hL_t_Links, hN_1, hN_2, hI0⟩
 obtain ⟨K_1, hKe_1⟩ : ∃ K : Int → (List (Int × Value × List Int)) → Prop, K = fun most_1' rem_1' => I_1 (most_1', rem_1') ∧ m_1 (most_1', rem_1') < m_1 (most_1, rem_1) := ⟨_, rfl⟩
 have hM : tree_Fan_l1 Q K_1 most_1 rem_1 := by rw [hKe_1]; exact hR_1 (most_1, rem_1) hI0
 unfold tree_Fan_l1 at hM
 refine HW.fr [(2, .int .i64 0), (3, .int .i64 most_1), (8, .pointer (some ⟨it_1, 0, none⟩))] ⟨e2, e3, e8, trivial⟩ ?_
 refine HW.seq ?_
 refine HW.region ?_
 refine HO.eff (want_none) rfl (st_next hS (i := 0) rfl rfl) ?_
 rintro _ h_5 (⟨hrem, rfl, hEq⟩ | ⟨p_1, rem_2, hperm, rfl, hS, hk⟩)
 ·
  rw [hEq]
  replace hM := hM.1 hrem
  replace hS := hS.done 0 rfl
  replace hS : St F_3 (Ow.map r_3 kI bagV r_2 :: fr) h_4 := hS
  refine oV (.bool false) (q_extract rfl rfl) rfl ?_
  refine HO.nil (thenQ_normal (?_))
  refine HW.seq ?_
  refine HW.condF rfl ?_
  refine HW.exit (thenQ_exit (thenQ_exit (blockQ_exit (thenQ_normal (?_)))))
  refine HW.seq ?_
  refine HW.region ?_
  refine oM (.int .i64 most_1) rfl rfl ?_
  refine oA (.int .i64 most_1) rfl rfl ?_
  refine HO.nil (thenQ_normal (?_))
  refine HW.ret (?_)
  refine ⟨.inr rfl, .int .i64 most_1, res1 rfl (rt rfl), ?_⟩
  replace hS : St F_3 (fr) h_4 := hS.perm2 [] 1 rfl rfl
  exact ⟨F_3, most_1, rfl, hK, hS, hL_t_Links, hM⟩
 ·
  replace hM := hM.2 p_1 rem_2 hperm
  replace hS : St F_3 (Ow.cur it_1 r_3 kI bagV r_2 rem_2 p_1 :: fr) h_5 := hS
  replace hK := hK.trans hk
  replace hL_t_Links := hL_t_Links.kp hk
  replace hN_1 := hN_1.kp hk
  replace hN_2 := hN_2.kp hk
  have hN_3 : NfB 1 encI F_3 h_5 rem_2 := ⟨fun p_ hp_ => hN_2.all p_ (hperm.mem_iff.2 (List.mem_cons_of_mem _ hp_))⟩
  have hL_1 : SliceF F_3 h_5 1 encI p_1.2.1 p_1.2.2 := hN_2.all p_1 (hperm.mem_iff.2 (List.mem_cons_self ..))
  refine oV (.bool true) (q_extract rfl rfl) rfl ?_
  refine HO.nil (thenQ_normal (?_))
  refine HW.seq ?_
  refine HW.condT rfl ?_
  refine HW.skip (thenQ_normal (?_))
  refine HW.block ?_
  refine HW.seq ?_
  refine HW.region ?_
  refine oV (.tuple #[.int .i64 p_1.1, p_1.2.1]) (q_entry (hS.cu 0 rfl) rfl) rfl ?_
  refine oV (p_1.2.1) (q_extract rfl rfl) rfl ?_
  refine oA (p_1.2.1) rfl rfl ?_
  refine HO.nil (thenQ_normal (?_))
  refine HW.region ?_
  refine oM (.int .i64 most_1) rfl rfl ?_
  refine oM (p_1.2.1) rfl rfl ?_
  refine oV (.int .i64 (p_1.2.2.length : Int)) (q_len ts_36 (shp hL_1.is) rfl rfl) rfl ?_
  refine oV (.int .i64 (max most_1 (p_1.2.2.length : Int))) (q_max rfl rfl) rfl ?_
  refine oA (.int .i64 (max most_1 (p_1.2.2.length : Int))) rfl rfl ?_
  refine HO.nil (blockQ_normal (thenQ_normal (?_)))
  replace hS := hS.again 0 rfl
  replace hS : St F_3 (Ow.iter it_1 r_3 kI bagV r_2 rem_2 :: fr) h_5 := hS
  rw [hKe_1] at hM
  exact ⟨(max most_1 (p_1.2.2.length : Int), rem_2), ⟨F_3, rfl, rfl, rfl, hK, hS, hL_t_Links, hN_1, hN_3, hM.1⟩, hM.2⟩

def ref32_Fan_l1 (t_Root : Int) (t_Links : List T_api_Branch) (Q : Int → Prop) (r_2 : List Int) (K_1 : Int → Int → Prop) (most_1 : Int) (i_1 : Int) : Prop :=
 (i_1 < (r_2.length : Int) → ((0 : Int) ≤ i_1 ∧ i_1 < (r_2.length : Int)) ∧ (ref32_Next_W t_Root t_Links (gi r_2 i_1) (fun r_3 => (most_1 < (r_3.length : Int) → (I64 (i_1 + 1)) ∧ (K_1 (r_3.length : Int) (i_1 + 1))) ∧ (¬ (most_1 < (r_3.length : Int)) → (I64 (i_1 + 1)) ∧ (K_1 most_1 (i_1 + 1)))))) ∧ (¬ (i_1 < (r_2.length : Int)) → Q most_1)
def ref32_Fan_W (t_Root : Int) (t_Links : List T_api_Branch) (Q : Int → Prop) : Prop :=
 ref32_Nodes_W t_Root t_Links (fun r_2 => loopW (fun (K_1 : (Int × Int) → Prop) (s : Int × Int) => ref32_Fan_l1 t_Root t_Links Q r_2 (fun most_1 i_1 => K_1 (most_1, i_1)) s.1 s.2) (0, 0))
set_option maxHeartbeats 40000000 in
set_option maxRecDepth 100000 in
theorem ref32_Fan_walk {F : Fz} {fr : List Ow} {h0 : Heap} (t_Root : Int) (t_Links : List T_api_Branch) (vt_Links : Value) (hS : St F (fr) h0) (hL_t_Links : SliceF F h0 2 e_api_Branch vt_Links t_Links) {Q : Int → Prop} (hM : ref32_Fan_W t_Root t_Links Q) :
  HC Tryz.prog 34 #[.agg #[.int .i64 t_Root, vt_Links]] h0 fun u h' => ∃ (F' : Fz) (r_1 : Int), u = .int .i64 r_1 ∧ Kp F h0 F' h' ∧ St F' (fr) h' ∧ (SliceF F' h' 2 e_api_Branch vt_Links t_Links) ∧ Q r_1 := by
 unfold ref32_Fan_W at hM
 have hK := Kp.refl F h0
 refine HC.of_HW (n := 27) Tryz.func34 rfl rfl (Nat.le_of_ble_eq_true rfl) ?_
 refine HW.seq ?_
 refine HW.region ?_
 refine HO.eff (want_none) rfl (st_box (c := #[.int .i64 t_Root, vt_Links]) (k' := 2) hS rfl rfl) ?_
 rintro _ h_1 ⟨b_1, rfl, hS, hk⟩
 replace hK := hK.trans hk
 replace hL_t_Links := hL_t_Links.kp hk
 refine oA (.int .i64 0) rfl rfl ?_
 refine HO.nil (thenQ_normal (?_))
 refine HW.seq ?_
 refine HW.region ?_
 refine oV (.agg #[.int .i64 t_Root, vt_Links]) (q_loadAgg (cs := [.int .i64 t_Root, vt_Links]) ta_24 rfl rfl (Blk.cells (k := 2) (hS.box 0 rfl) rfl)) rfl ?_
 refine HO.call (want_none) rfl (ec en_17 rfl rfl) (ref32_Nodes_walk (fr := (Ow.box b_1 24 #[.int .i64 t_Root, vt_Links] :: fr)) t_Root t_Links vt_Links hS hL_t_Links hM) ?_
 rintro vr_1 h_2 ⟨F_1, r_2, _, rfl, hk, hS, _, hM⟩
 replace hK := hK.trans hk
 replace hL_t_Links := hL_t_Links.kp hk
 refine oA (vr_1) rfl rfl ?_
 refine oA (.int .i64 0) rfl rfl ?_
 refine HO.nil (thenQ_normal (?_))
 refine HW.seq ?_
 refine HW.seq ?_
 refine HW.region ?_
 refine oA (.int .i64 0) rfl rfl ?_
 refine HO.nil (thenQ_normal (?_))
 refine HW.block ?_
 obtain ⟨I_1, m_1, hI_1, hR_1⟩ := hM
 replace hS : St F_1 (Ow.box b_1 24 #[.int .i64 t_Root, vt_Links] :: Ow.own 3 1 encI vr_1 r_2 :: fr) h_2 := hS.perm2 [1, 0] 2 rfl rfl
 refine HW.loop (S := Int × Int) (fun s f h => match s with | (most_1, i_1) => ∃ (F' : Fz), f 1 = .pointer (some ⟨b_1, 0, none⟩) ∧ f 2 = .int .i64 0 ∧ f 3 = vr_1 ∧ f 4 = .int .i64 most_1 ∧ f 5 = .int .i64 i_1 ∧ Kp F h0 F' h ∧ St F' (Ow.box b_1 24 #[.int .i64 t_Root, vt_Links] :: Ow.own 3 1 encI vr_1 r_2 :: fr) h ∧ (SliceF F' h 2 e_api_Branch vt_Links t_Links) ∧ I_1 (most_1, i_1)) m_1 (0, 0) ⟨F_1, rfl, rfl, rfl, rfl, rfl, hK, hS, hL_t_Links, hI_1⟩ ?_
 rintro ⟨most_1, i_1⟩ f_1 h_3 ⟨F_2, e1, e2, e3, e4, e5, hK, hS, hL_t_Links, hI0⟩
 obtain ⟨K_1, hKe_1⟩ : ∃ K : Int → Int → Prop, K = fun most_1' i_1' => I_1 (most_1', i_1') ∧ m_1 (most_1', i_1') < m_1 (most_1, i_1) := ⟨_, rfl⟩
 have hM : ref32_Fan_l1 t_Root t_Links Q r_2 K_1 most_1 i_1 := by rw [hKe_1]; exact hR_1 (most_1, i_1) hI0
 unfold ref32_Fan_l1 at hM
 refine HW.fr [(1, .pointer (some ⟨b_1, 0, none⟩)), (2, .int .i64 0), (3, vr_1), (4, .int .i64 most_1), (5, .int .i64 i_1)] ⟨e1, e2, e3, e4, e5, trivial⟩ ?_
 refine HW.seq ?_
 refine HW.seq ?_
 refine HW.region ?_
 refine oM (.int .i64 i_1) rfl rfl ?_
 refine oM (vr_1) rfl rfl ?_
 refine oV (.int .i64 (r_2.length : Int)) (q_len ts_36 (shp (hS.own 1 rfl).slice) rfl rfl) rfl ?_
 refine oV (.bool (decide (i_1 < (r_2.length : Int)))) (q_lss rfl rfl) rfl ?_
 refine HO.nil (thenQ_normal (?_))
 refine HW.cond (decide (i_1 < (r_2.length : Int))) rfl (fun c_1 => ?_) (fun c_1 => ?_)
 ·
  replace hM := hM.1 (of_decide_eq_true c_1)
  refine HW.skip (thenQ_normal (?_))
  refine HW.seq ?_
  refine HW.block ?_
  refine HW.seq ?_
  refine HW.regionA 8 mixed (fun h => (Blk h b_1 (.cells #[.int .i64 t_Root, vt_Links] 24 (0, 0))) ∧ (OwnIs h 0 3 1 encI vr_1 r_2)) [] (by kernel_rfl) ?_
  refine HA.val (k := 0) (v := .agg #[.int .i64 t_Root, vt_Links]) rfl rfl (by kernel_rfl) (by kernel_rfl) (want_none) rfl (fun _ ⟨c303, c304⟩ => q_loadAgg (cs := [.int .i64 t_Root, vt_Links]) ta_24 rfl rfl (Blk.cells (k := 2) c303 rfl)) ?_
  refine HA.val (k := 1) (v := vr_1) rfl rfl (by kernel_rfl) (by kernel_rfl) (want_none) rfl (fun _ ⟨c303, c304⟩ => q_move rfl) ?_
  refine HA.val (k := 2) (v := .int .i64 i_1) rfl rfl (by kernel_rfl) (by kernel_rfl) (want_none) rfl (fun _ ⟨c303, c304⟩ => q_move rfl) ?_
  obtain ⟨ho_1, hM⟩ := hM
  refine HA.val (k := 3) (v := elemPtr 1 vr_1 (i_1).toNat) rfl rfl (by kernel_rfl) (by kernel_rfl) (want_none) rfl (fun _ ⟨c303, c304⟩ => q_idx ts_36 c304.slice rfl rfl ho_1) ?_
  refine HA.val (k := 4) (v := .int .i64 (gi r_2 i_1)) rfl rfl (by kernel_rfl) (by kernel_rfl) (want_none) rfl (fun _ ⟨c303, c304⟩ => q_ldElem to_3 c304.slice rfl ho_1 rfl) ?_
  refine HA.one (k := 5) ⟨⟨(hS.box 0 rfl), (hS.own 1 rfl)⟩, (Go.Wk.at_nil _ _)⟩ (by kernel_rfl) ?_
  refine HS.call rfl (want_none) rfl (ec en_25 rfl rfl) (ref32_Next_walk (fr := (Ow.box b_1 24 #[.int .i64 t_Root, vt_Links] :: Ow.own 3 1 encI vr_1 r_2 :: fr)) t_Root t_Links (gi r_2 i_1) vt_Links hS hL_t_Links hM) ?_
  rintro vr_2 h_4 ⟨F_3, r_3, _, rfl, hk, hS, _, hM⟩
  replace hK := hK.trans hk
  replace hL_t_Links := hL_t_Links.kp hk
  refine Go.Wk.HA.re (fun h => (OwnIs h 0 3 1 encI vr_2 r_3) ∧ (Blk h b_1 (.cells #[.int .i64 t_Root, vt_Links] 24 (0, 0))) ∧ (OwnIs h 0 3 1 encI vr_1 r_2)) [] (fun L_ h_ hL_ ⟨c335, c303, c304⟩ hs_ => ⟨⟨c303, c304⟩, (Go.Wk.at_nil _ _)⟩) ?_
  refine HA.val (k := 6) (v := .int .i64 (r_3.length : Int)) rfl rfl (by kernel_rfl) (by kernel_rfl) (want_none) rfl (fun _ ⟨c335, c303, c304⟩ => q_len ts_36 (shp c335.slice) rfl rfl) ?_
  refine HA.val (k := 7) (v := .int .i64 (r_3.length : Int)) rfl rfl (by kernel_rfl) (by kernel_rfl) (want_none) rfl (fun _ ⟨c335, c303, c304⟩ => q_assign rfl) ?_
  refine HA.nil ⟨⟨(hS.own 0 rfl), (hS.box 1 rfl), (hS.own 2 rfl)⟩, (Go.Wk.at_nil _ _)⟩ (by kernel_rfl) (thenQ_normal (?_))
  refine HW.seq ?_
  refine HW.region ?_
  refine oM (.int .i64 (r_3.length : Int)) rfl rfl ?_
  refine oM (.int .i64 most_1) rfl rfl ?_
  refine oV (.bool (decide (most_1 < (r_3.length : Int)))) (q_gtr rfl rfl) rfl ?_
  refine HO.nil (thenQ_normal (?_))
  refine HW.cond (decide (most_1 < (r_3.length : Int))) rfl (fun c_2 => ?_) (fun c_2 => ?_)
  ·
   replace hM := hM.1 (of_decide_eq_true c_2)
   refine HW.region ?_
   refine oM (.int .i64 (r_3.length : Int)) rfl rfl ?_
   refine oA (.int .i64 (r_3.length : Int)) rfl rfl ?_
   refine HO.nil (blockQ_normal (thenQ_normal (?_)))
   refine HW.region ?_
   refine oM (.int .i64 i_1) rfl rfl ?_
   obtain ⟨ho_2, hM⟩ := hM
   refine oV (.int .i64 (i_1 + 1)) (q_addN _ rfl rfl rfl ho_2.1 ho_2.2) rfl ?_
   refine oA (.int .i64 (i_1 + 1)) rfl rfl ?_
   refine HO.nil (thenQ_normal (?_))
   replace hS : St F_3 (Ow.box b_1 24 #[.int .i64 t_Root, vt_Links] :: Ow.own 3 1 encI vr_1 r_2 :: fr) h_4 := hS.perm2 [1, 2] 3 rfl rfl
   rw [hKe_1] at hM
   exact ⟨((r_3.length : Int), i_1 + 1), ⟨F_3, rfl, rfl, rfl, rfl, rfl, hK, hS, hL_t_Links, hM.1⟩, hM.2⟩
  ·
   replace hM := hM.2 (of_decide_eq_false c_2)
   refine HW.skip (blockQ_normal (thenQ_normal (?_)))
   refine HW.region ?_
   refine oM (.int .i64 i_1) rfl rfl ?_
   obtain ⟨ho_3, hM⟩ := hM
   refine oV (.int .i64 (i_1 + 1)) (q_addN _ rfl rfl rfl ho_3.1 ho_3.2) rfl ?_
   refine oA (.int .i64 (i_1 + 1)) rfl rfl ?_
   refine HO.nil (thenQ_normal (?_))
   replace hS : St F_3 (Ow.box b_1 24 #[.int .i64 t_Root, vt_Links] :: Ow.own 3 1 encI vr_1 r_2 :: fr) h_4 := hS.perm2 [1, 2] 3 rfl rfl
   rw [hKe_1] at hM
   exact ⟨(most_1, i_1 + 1), ⟨F_3, rfl, rfl, rfl, rfl, rfl, hK, hS, hL_t_Links, hM.1⟩, hM.2⟩
 ·
  replace hM := hM.2 (of_decide_eq_false c_1)
  refine HW.exit (thenQ_exit (thenQ_exit (blockQ_exit (thenQ_normal (?_)))))
  refine HW.seq ?_
  refine HW.region ?_
  refine oM (.int .i64 most_1) rfl rfl ?_
  refine oA (.int .i64 most_1) rfl rfl ?_
  refine HO.nil (thenQ_normal (?_))
  refine HW.ret (?_)
  refine ⟨.inr rfl, .int .i64 most_1, res1 rfl (rt rfl), ?_⟩
  replace hS : St F_2 (fr) h_3 := hS.perm2 [] 2 rfl rfl
  exact ⟨F_2, most_1, rfl, hK, hS, hL_t_Links, hM⟩

def law32_TreeTells_j3 (Q : Bool → Prop) (r_0_1 : Int) (r_1_1 : List T_api_Branch) (b_3 : Bool) : Prop :=
 (b_3 = true → Q false) ∧ (b_3 = false → law32_Few_W r_0_1 r_1_1 (fun r_0_9 r_1_9 => tree_Depth_W r_0_9 r_1_9 (fun r_21 => ref32_Depth_W r_0_1 r_1_1 (fun r_22 => (r_21 = r_22 → law32_Few_W r_0_1 r_1_1 (fun r_0_10 r_1_10 => tree_Leaves_W r_0_10 r_1_10 (fun r_23 => ref32_Leaves_W r_0_1 r_1_1 (fun r_24 => ref32_SameInts_W r_23 r_24 (fun r_25 => (r_25 = true → law32_Few_W r_0_1 r_1_1 (fun r_0_11 r_1_11 => tree_Fan_W r_0_11 r_1_11 (fun r_26 => ref32_Fan_W r_0_1 r_1_1 (fun r_27 => (r_26 = r_27 → law32_lives_W  (fun r_28 => Q r_28)) ∧ (¬ (r_26 = r_27) → Q false))))) ∧ (r_25 = false → Q false)))))) ∧ (¬ (r_21 = r_22) → Q false)))))
def law32_TreeTells_j2 (n : Int) (Q : Bool → Prop) (r_0_1 : Int) (r_1_1 : List T_api_Branch) : Prop :=
 law32_Few_W r_0_1 r_1_1 (fun r_0_6 r_1_6 => tree_Next_W r_0_6 r_1_6 n (fun r_12 => ref32_Next_W r_0_1 r_1_1 n (fun r_13 => ref32_SameInts_W r_12 r_13 (fun r_14 => ((!r_14) = true → law32_TreeTells_j3 Q r_0_1 r_1_1 true) ∧ ((!r_14) = false → law32_Few_W r_0_1 r_1_1 (fun r_0_7 r_1_7 => tree_Path_W r_0_7 r_1_7 n (fun r_15 => ref32_Path_W r_0_1 r_1_1 n (fun r_16 => ref32_SameInts_W r_15 r_16 (fun r_17 => ((!r_17) = true → law32_TreeTells_j3 Q r_0_1 r_1_1 true) ∧ ((!r_17) = false → law32_Few_W r_0_1 r_1_1 (fun r_0_8 r_1_8 => tree_Nodes_W r_0_8 r_1_8 (fun r_18 => ref32_Nodes_W r_0_1 r_1_1 (fun r_19 => ref32_SameInts_W r_18 r_19 (fun r_20 => law32_TreeTells_j3 Q r_0_1 r_1_1 (!r_20)))))))))))))))
def law32_TreeTells_j1 (n : Int) (Q : Bool → Prop) (r_0_1 : Int) (r_1_1 : List T_api_Branch) (r_5 : Bool) (r0_1 : Int) (r1_1 : Bool) (r0_2 : Int) (r1_2 : Bool) (below_1 : List Int) : Prop :=
 law32_Few_W r_0_1 r_1_1 (fun r_0_3 r_1_3 => tree_Has_W r_0_3 r_1_3 n (fun r_7 => ((!(r_7 == r_5)) = true → Q false) ∧ ((!(r_7 == r_5)) = false → (¬ (r0_1 = r0_2) → Q false) ∧ (r0_1 = r0_2 → ((!(r1_1 == r1_2)) = true → Q false) ∧ ((!(r1_1 == r1_2)) = false → (r_5 = true → ((!(r1_1 == (!decide (n = r_0_1)))) = true → Q false) ∧ ((!(r1_1 == (!decide (n = r_0_1)))) = false → law32_Few_W r_0_1 r_1_1 (fun r_0_4 r_1_4 => tree_Below_W r_0_4 r_1_4 n (fun r_8 => ref32_SameInts_W r_8 below_1 (fun r_9 => ((!r_9) = true → Q false) ∧ ((!r_9) = false → law32_TreeTells_j2 n Q r_0_1 r_1_1)))))) ∧ (r_5 = false → ((!(r1_1 == false)) = true → Q false) ∧ ((!(r1_1 == false)) = false → law32_Few_W r_0_1 r_1_1 (fun r_0_5 r_1_5 => tree_Below_W r_0_5 r_1_5 n (fun r_10 => ref32_SameInts_W r_10 below_1 (fun r_11 => ((!r_11) = true → Q false) ∧ ((!r_11) = false → law32_TreeTells_j2 n Q r_0_1 r_1_1)))))))))))
def law32_TreeTells_W (t_Root : Int) (t_Links : List T_api_Branch) (n : Int) (Q : Bool → Prop) : Prop :=
 law32_Few_W t_Root t_Links (fun r_0_1 r_1_1 => ref32_Good_W r_0_1 r_1_1 (fun r_2 => ((!r_2) = true → law32_lives_W  (fun r_3 => Q r_3)) ∧ ((!r_2) = false → ref32_Nodes_W r_0_1 r_1_1 (fun r_4 => ref32_Has_W r_4 n (fun r_5 => law32_Few_W r_0_1 r_1_1 (fun r_0_2 r_1_2 => tree_Parent_W r_0_2 r_1_2 n (fun r0_1 r1_1 => ref32_Parent_W r_0_1 r_1_1 n (fun r0_2 r1_2 => (r_5 = true → ref32_Below_W r_0_1 r_1_1 n (fun r_6 => law32_TreeTells_j1 n Q r_0_1 r_1_1 r_5 r0_1 r1_1 r0_2 r1_2 r_6)) ∧ (r_5 = false → law32_TreeTells_j1 n Q r_0_1 r_1_1 r_5 r0_1 r1_1 r0_2 r1_2 [])))))))))
set_option maxHeartbeats 40000000 in
set_option maxRecDepth 100000 in
theorem law32_TreeTells_walk {F : Fz} {fr : List Ow} {h0 : Heap} (t_Root : Int) (t_Links : List T_api_Branch) (n : Int) (vt_Links : Value) (gvS : Value) (gbS : Bool) (gvR : Value) (gbR : Bool) (gm : Int) (hS : St F (fr) h0) (hL_t_Links : SliceF F h0 2 e_api_Branch vt_Links t_Links) (hG_0 : RoF (Ow.box 0 53 #[gvS]) F h0) (hE_gvS : ErrF gbS gvS F h0) (hG_1 : RoF (Ow.box 1 53 #[gvR]) F h0) (hE_gvR : ErrF gbR gvR F h0) (hG_2 : RoF (Ow.box 2 3 #[.int .i64 gm]) F h0) (hG_5 : RoF (Ow.box 5 163 (tab10 ()).toArray) F h0) (hD : DM.on = false) {Q : Bool → Prop} (hM : law32_TreeTells_W t_Root t_Links n Q) :
  HC Tryz.prog 4 #[.agg #[.int .i64 t_Root, vt_Links], .int .i64 n] h0 fun u h' => ∃ (F' : Fz) (r_1 : Bool), u = .bool r_1 ∧ Kp F h0 F' h' ∧ St F' (fr) h' ∧ (SliceF F' h' 2 e_api_Branch vt_Links t_Links) ∧ (RoF (Ow.box 0 53 #[gvS]) F' h') ∧ (ErrF gbS gvS F' h') ∧ (RoF (Ow.box 1 53 #[gvR]) F' h') ∧ (ErrF gbR gvR F' h') ∧ (RoF (Ow.box 2 3 #[.int .i64 gm]) F' h') ∧ (RoF (Ow.box 5 163 (tab10 ()).toArray) F' h') ∧ Q r_1 := by
 unfold law32_TreeTells_W at hM
 have hK := Kp.refl F h0
 refine HC.of_HW (n := 129) Tryz.func4 rfl rfl (Nat.le_of_ble_eq_true rfl) ?_
 refine HW.seq ?_
 refine HW.region ?_
 refine HO.eff (want_none) rfl (st_box (c := #[.int .i64 t_Root, vt_Links]) (k' := 2) hS rfl rfl) ?_
 rintro _ h_1 ⟨b_1, rfl, hS, hk⟩
 replace hK := hK.trans hk
 replace hL_t_Links := hL_t_Links.kp hk
 replace hG_0 := hG_0.kp hk
 replace hE_gvS := hE_gvS.kp hk
 replace hG_1 := hG_1.kp hk
 replace hE_gvR := hE_gvR.kp hk
 replace hG_2 := hG_2.kp hk
 replace hG_5 := hG_5.kp hk
 refine oA (.bool false) rfl rfl ?_
 refine HO.nil (thenQ_normal (?_))
 refine HW.seq ?_
 refine HW.region ?_
 refine oV (.agg #[.int .i64 t_Root, vt_Links]) (q_loadAgg (cs := [.int .i64 t_Root, vt_Links]) ta_24 rfl rfl (Blk.cells (k := 2) (hS.box 0 rfl) rfl)) rfl ?_
 refine HO.call (want_none) rfl (ec en_8 rfl rfl) (law32_Few_walk (fr := (Ow.box b_1 24 #[.int .i64 t_Root, vt_Links] :: fr)) t_Root t_Links vt_Links hS hL_t_Links hM) ?_
 rintro _ h_2 ⟨F_1, r_0_1, r_1_1, vr_1_1, rfl, hk, hS, _, hM⟩
 replace hK := hK.trans hk
 replace hL_t_Links := hL_t_Links.kp hk
 replace hG_0 := hG_0.kp hk
 replace hE_gvS := hE_gvS.kp hk
 replace hG_1 := hG_1.kp hk
 replace hE_gvR := hE_gvR.kp hk
 replace hG_2 := hG_2.kp hk
 replace hG_5 := hG_5.kp hk
 refine HO.sto (want_none) rfl (st_storeAgg (c' := #[.int .i64 r_0_1, vr_1_1]) hS (i := 1) rfl ta_24 rfl rfl rfl (List.forall_mem_cons.2 ⟨rfl, (List.forall_mem_cons.2 ⟨(shp (hS.own 0 rfl).slice).one, (fun _ h => by cases h)⟩)⟩) (Nat.le_of_ble_eq_true rfl) rfl) ?_
 rintro h_3 ⟨hS, hk⟩
 replace hS : St F_1 (Ow.own 46 2 e_api_Branch vr_1_1 r_1_1 :: Ow.box b_1 24 #[.int .i64 r_0_1, vr_1_1] :: fr) h_3 := hS
 replace hK := hK.trans hk
 replace hL_t_Links := hL_t_Links.kp hk
 replace hG_0 := hG_0.kp hk
 replace hE_gvS := hE_gvS.kp hk
 replace hG_1 := hG_1.kp hk
 replace hE_gvR := hE_gvR.kp hk
 replace hG_2 := hG_2.kp hk
 replace hG_5 := hG_5.kp hk
 refine HO.nil (thenQ_normal (?_))
 refine HW.seq ?_
 refine HW.seq ?_
 refine HW.region ?_
 refine oV (.agg #[.int .i64 r_0_1, vr_1_1]) (q_loadAgg (cs := [.int .i64 r_0_1, vr_1_1]) ta_24 rfl rfl (Blk.cells (k := 2) (hS.box 1 rfl) rfl)) rfl ?_
 have hZ_1 := hS
 have hkz_1 := (hS.freeze).2
 replace hS := hS.freeze.1
 have hL_1 : SliceF (fun bz_ => F_1 bz_ ∨ (Ow.own 46 2 e_api_Branch vr_1_1 r_1_1).foot bz_) h_3 2 e_api_Branch vr_1_1 r_1_1 := ⟨(hZ_1.own 0 rfl).slice, fun _ b hb => .inr hb⟩
 refine HO.call (want_none) rfl (ec en_12 rfl rfl) (ref32_Good_walk (fr := (Ow.box b_1 24 #[.int .i64 r_0_1, vr_1_1] :: fr)) r_0_1 r_1_1 vr_1_1 hS hL_1 hM) ?_
 rintro _ h_4 ⟨F_2, r_2, rfl, hk, hS, _, hM⟩
 obtain ⟨hS, hk⟩ := hZ_1.back hk hS
 generalize (fun bz_ => F_2 bz_ ∧ ¬ (Ow.own 46 2 e_api_Branch vr_1_1 r_1_1).foot bz_) = F_3 at hS hk
 replace hK := hK.trans hk
 replace hL_t_Links := hL_t_Links.kp hk
 replace hG_0 := hG_0.kp hk
 replace hE_gvS := hE_gvS.kp hk
 replace hG_1 := hG_1.kp hk
 replace hE_gvR := hE_gvR.kp hk
 replace hG_2 := hG_2.kp hk
 replace hG_5 := hG_5.kp hk
 refine oV (.bool (!r_2)) (q_not rfl) rfl ?_
 refine HO.nil (thenQ_normal (?_))
 refine HW.cond (!r_2) rfl (fun c_1 => ?_) (fun c_1 => ?_)
 ·
  replace hM := hM.1 c_1
  refine HW.seq ?_
  refine HW.region ?_
  refine HO.call (want_none) rfl (ec en_14 rfl rfl) (law32_lives_walk (fr := (Ow.own 46 2 e_api_Branch vr_1_1 r_1_1 :: Ow.box b_1 24 #[.int .i64 r_0_1, vr_1_1] :: fr)) gvS gbS gvR gbR gm hS hG_0 hE_gvS hG_1 hE_gvR hG_2 hG_5 hD hM) ?_
  rintro _ h_5 ⟨F_4, r_3, rfl, hk, hS, _, _, _, _, _, _, hM⟩
  replace hK := hK.trans hk
  replace hL_t_Links := hL_t_Links.kp hk
  replace hG_0 := hG_0.kp hk
  replace hE_gvS := hE_gvS.kp hk
  replace hG_1 := hG_1.kp hk
  replace hE_gvR := hE_gvR.kp hk
  replace hG_2 := hG_2.kp hk
  replace hG_5 := hG_5.kp hk
  refine oA (.bool r_3) rfl rfl ?_
  refine HO.nil (thenQ_normal (?_))
  refine HW.ret (thenQ_ret (?_))
  refine ⟨.inr rfl, .bool r_3, res1 rfl (rt rfl), ?_⟩
  replace hS : St F_4 (fr) h_5 := hS.perm2 [] 2 rfl rfl
  exact ⟨F_4, r_3, rfl, hK, hS, hL_t_Links, hG_0, hE_gvS, hG_1, hE_gvR, hG_2, hG_5, hM⟩
 ·
  replace hM := hM.2 c_1
  refine HW.skip (thenQ_normal (?_))
  refine HW.seq ?_
  refine HW.region ?_
  refine oV (.agg #[.int .i64 r_0_1, vr_1_1]) (q_loadAgg (cs := [.int .i64 r_0_1, vr_1_1]) ta_24 rfl rfl (Blk.cells (k := 2) (hS.box 1 rfl) rfl)) rfl ?_
  have hZ_2 := hS
  have hkz_2 := (hS.freeze).2
  replace hS := hS.freeze.1
  have hL_2 : SliceF (fun bz_ => F_3 bz_ ∨ (Ow.own 46 2 e_api_Branch vr_1_1 r_1_1).foot bz_) h_4 2 e_api_Branch vr_1_1 r_1_1 := ⟨(hZ_2.own 0 rfl).slice, fun _ b hb => .inr hb⟩
  refine HO.call (want_none) rfl (ec en_17 rfl rfl) (ref32_Nodes_walk (fr := (Ow.box b_1 24 #[.int .i64 r_0_1, vr_1_1] :: fr)) r_0_1 r_1_1 vr_1_1 hS hL_2 hM) ?_
  rintro vr_1 h_6 ⟨F_5, r_4, _, rfl, hk, hS, _, hM⟩
  obtain ⟨hS, hk⟩ := hZ_2.back hk hS
  generalize (fun bz_ => F_5 bz_ ∧ ¬ (Ow.own 46 2 e_api_Branch vr_1_1 r_1_1).foot bz_) = F_6 at hS hk
  replace hK := hK.trans hk
  replace hL_t_Links := hL_t_Links.kp hk
  replace hG_0 := hG_0.kp hk
  replace hE_gvS := hE_gvS.kp hk
  replace hG_1 := hG_1.kp hk
  replace hE_gvR := hE_gvR.kp hk
  replace hG_2 := hG_2.kp hk
  replace hG_5 := hG_5.kp hk
  refine oM (.int .i64 n) rfl rfl ?_
  replace hS : St F_6 (Ow.own 3 1 encI vr_1 r_4 :: Ow.own 46 2 e_api_Branch vr_1_1 r_1_1 :: Ow.box b_1 24 #[.int .i64 r_0_1, vr_1_1] :: fr) h_6 := hS.perm2 [1, 0, 2] 3 rfl rfl
  have hZ_3 := hS
  have hkz_3 := (hS.freeze).2
  replace hS := hS.freeze.1
  have hL_3 : SliceF (fun bz_ => F_6 bz_ ∨ (Ow.own 3 1 encI vr_1 r_4).foot bz_) h_6 1 encI vr_1 r_4 := ⟨(hZ_3.own 0 rfl).slice, fun _ b hb => .inr hb⟩
  refine HO.call (want_none) rfl (ec en_16 rfl rfl) (ref32_Has_walk (fr := (Ow.own 46 2 e_api_Branch vr_1_1 r_1_1 :: Ow.box b_1 24 #[.int .i64 r_0_1, vr_1_1] :: fr)) r_4 n vr_1 hS hL_3 hM) ?_
  rintro _ h_7 ⟨F_7, r_5, rfl, hk, hS, _, hM⟩
  obtain ⟨hS, hk⟩ := hZ_3.back hk hS
  generalize (fun bz_ => F_7 bz_ ∧ ¬ (Ow.own 3 1 encI vr_1 r_4).foot bz_) = F_8 at hS hk
  replace hK := hK.trans hk
  replace hL_t_Links := hL_t_Links.kp hk
  replace hG_0 := hG_0.kp hk
  replace hE_gvS := hE_gvS.kp hk
  replace hG_1 := hG_1.kp hk
  replace hE_gvR := hE_gvR.kp hk
  replace hG_2 := hG_2.kp hk
  replace hG_5 := hG_5.kp hk
  refine oA (.bool r_5) rfl rfl ?_
  refine HO.nil (thenQ_normal (?_))
  refine HW.seq ?_
  refine HW.region ?_
  refine oV (.agg #[.int .i64 r_0_1, vr_1_1]) (q_loadAgg (cs := [.int .i64 r_0_1, vr_1_1]) ta_24 rfl rfl (Blk.cells (k := 2) (hS.box 2 rfl) rfl)) rfl ?_
  replace hS : St F_8 (Ow.own 46 2 e_api_Branch vr_1_1 r_1_1 :: Ow.own 3 1 encI vr_1 r_4 :: Ow.box b_1 24 #[.int .i64 r_0_1, vr_1_1] :: fr) h_7 := hS.perm2 [1, 0, 2] 3 rfl rfl
  have hZ_4 := hS
  have hkz_4 := (hS.freeze).2
  replace hS := hS.freeze.1
  have hL_4 : SliceF (fun bz_ => F_8 bz_ ∨ (Ow.own 46 2 e_api_Branch vr_1_1 r_1_1).foot bz_) h_7 2 e_api_Branch vr_1_1 r_1_1 := ⟨(hZ_4.own 0 rfl).slice, fun _ b hb => .inr hb⟩
  refine HO.call (want_none) rfl (ec en_8 rfl rfl) (law32_Few_walk (fr := (Ow.own 3 1 encI vr_1 r_4 :: Ow.box b_1 24 #[.int .i64 r_0_1, vr_1_1] :: fr)) r_0_1 r_1_1 vr_1_1 hS hL_4 hM) ?_
  rintro _ h_8 ⟨F_9, r_0_2, r_1_2, vr_1_2, rfl, hk, hS, _, hM⟩
  obtain ⟨hS, hk⟩ := hZ_4.back hk hS
  generalize (fun bz_ => F_9 bz_ ∧ ¬ (Ow.own 46 2 e_api_Branch vr_1_1 r_1_1).foot bz_) = F_10 at hS hk
  replace hK := hK.trans hk
  replace hL_t_Links := hL_t_Links.kp hk
  replace hG_0 := hG_0.kp hk
  replace hE_gvS := hE_gvS.kp hk
  replace hG_1 := hG_1.kp hk
  replace hE_gvR := hE_gvR.kp hk
  replace hG_2 := hG_2.kp hk
  replace hG_5 := hG_5.kp hk
  refine oM (.int .i64 n) rfl rfl ?_
  replace hS : St F_10 (Ow.own 46 2 e_api_Branch vr_1_2 r_1_2 :: Ow.own 46 2 e_api_Branch vr_1_1 r_1_1 :: Ow.own 3 1 encI vr_1 r_4 :: Ow.box b_1 24 #[.int .i64 r_0_1, vr_1_1] :: fr) h_8 := hS.perm2 [1, 0, 2, 3] 4 rfl rfl
  have hZ_5 := hS
  have hkz_5 := (hS.freeze).2
  replace hS := hS.freeze.1
  have hL_5 : SliceF (fun bz_ => F_10 bz_ ∨ (Ow.own 46 2 e_api_Branch vr_1_2 r_1_2).foot bz_) h_8 2 e_api_Branch vr_1_2 r_1_2 := ⟨(hZ_5.own 0 rfl).slice, fun _ b hb => .inr hb⟩
  refine HO.call (want_none) rfl (ec en_18 rfl rfl) (tree_Parent_walk (fr := (Ow.own 46 2 e_api_Branch vr_1_1 r_1_1 :: Ow.own 3 1 encI vr_1 r_4 :: Ow.box b_1 24 #[.int .i64 r_0_1, vr_1_1] :: fr)) r_0_2 r_1_2 n vr_1_2 hS hL_5 hM) ?_
  rintro _ h_9 ⟨F_11, r0_1, r1_1, rfl, hk, hS, _, hM⟩
  obtain ⟨hS, hk⟩ := hZ_5.back hk hS
  generalize (fun bz_ => F_11 bz_ ∧ ¬ (Ow.own 46 2 e_api_Branch vr_1_2 r_1_2).foot bz_) = F_12 at hS hk
  replace hK := hK.trans hk
  replace hL_t_Links := hL_t_Links.kp hk
  replace hG_0 := hG_0.kp hk
  replace hE_gvS := hE_gvS.kp hk
  replace hG_1 := hG_1.kp hk
  replace hE_gvR := hE_gvR.kp hk
  replace hG_2 := hG_2.kp hk
  replace hG_5 := hG_5.kp hk
  refine oM (.tuple #[.int .i64 r0_1, .bool r1_1]) rfl rfl ?_
  refine oV (.int .i64 r0_1) (q_extract rfl rfl) rfl ?_
  refine oV (.bool r1_1) (q_extract rfl rfl) rfl ?_
  refine oA (.int .i64 r0_1) rfl rfl ?_
  refine oA (.bool r1_1) rfl rfl ?_
  refine HO.nil (thenQ_normal (?_))
  refine HW.seq ?_
  refine HW.region ?_
  refine oV (.agg #[.int .i64 r_0_1, vr_1_1]) (q_loadAgg (cs := [.int .i64 r_0_1, vr_1_1]) ta_24 rfl rfl (Blk.cells (k := 2) (hS.box 3 rfl) rfl)) rfl ?_
  refine oM (.int .i64 n) rfl rfl ?_
  replace hS : St F_12 (Ow.own 46 2 e_api_Branch vr_1_1 r_1_1 :: Ow.own 46 2 e_api_Branch vr_1_2 r_1_2 :: Ow.own 3 1 encI vr_1 r_4 :: Ow.box b_1 24 #[.int .i64 r_0_1, vr_1_1] :: fr) h_9 := hS.perm2 [1, 0, 2, 3] 4 rfl rfl
  have hZ_6 := hS
  have hkz_6 := (hS.freeze).2
  replace hS := hS.freeze.1
  have hL_6 : SliceF (fun bz_ => F_12 bz_ ∨ (Ow.own 46 2 e_api_Branch vr_1_1 r_1_1).foot bz_) h_9 2 e_api_Branch vr_1_1 r_1_1 := ⟨(hZ_6.own 0 rfl).slice, fun _ b hb => .inr hb⟩
  refine HO.call (want_none) rfl (ec en_19 rfl rfl) (ref32_Parent_walk (fr := (Ow.own 46 2 e_api_Branch vr_1_2 r_1_2 :: Ow.own 3 1 encI vr_1 r_4 :: Ow.box b_1 24 #[.int .i64 r_0_1, vr_1_1] :: fr)) r_0_1 r_1_1 n vr_1_1 hS hL_6 hM) ?_
  rintro _ h_10 ⟨F_13, r0_2, r1_2, rfl, hk, hS, _, hM⟩
  obtain ⟨hS, hk⟩ := hZ_6.back hk hS
  generalize (fun bz_ => F_13 bz_ ∧ ¬ (Ow.own 46 2 e_api_Branch vr_1_1 r_1_1).foot bz_) = F_14 at hS hk
  replace hK := hK.trans hk
  replace hL_t_Links := hL_t_Links.kp hk
  replace hG_0 := hG_0.kp hk
  replace hE_gvS := hE_gvS.kp hk
  replace hG_1 := hG_1.kp hk
  replace hE_gvR := hE_gvR.kp hk
  replace hG_2 := hG_2.kp hk
  replace hG_5 := hG_5.kp hk
  refine oM (.tuple #[.int .i64 r0_2, .bool r1_2]) rfl rfl ?_
  refine oV (.int .i64 r0_2) (q_extract rfl rfl) rfl ?_
  refine oV (.bool r1_2) (q_extract rfl rfl) rfl ?_
  refine oA (.int .i64 r0_2) rfl rfl ?_
  refine oA (.bool r1_2) rfl rfl ?_
  refine HO.nil (thenQ_normal (?_))
  refine HW.seq ?_
  refine HW.region ?_
  refine HO.eff (want_none) rfl (st_litEmpty (α := Int) encI hS tl_36) ?_
  rintro _ h_11 ⟨b_2, rfl, hS, hk⟩
  replace hK := hK.trans hk
  replace hL_t_Links := hL_t_Links.kp hk
  replace hG_0 := hG_0.kp hk
  replace hE_gvS := hE_gvS.kp hk
  replace hG_1 := hG_1.kp hk
  replace hE_gvR := hE_gvR.kp hk
  replace hG_2 := hG_2.kp hk
  replace hG_5 := hG_5.kp hk
  refine oA (.slice (some ⟨b_2, 0, none⟩) 0 0) rfl rfl ?_
  refine HO.nil (thenQ_normal (?_))
  refine HW.seq_mid (fun f h => ∃ (F' : Fz) (below_1 : List Int) (vbelow_1 : Value), f 1 = .int .i64 n ∧ f 2 = .pointer (some ⟨b_1, 0, none⟩) ∧ f 4 = .bool false ∧ f 5 = .bool r_5 ∧ f 6 = .int .i64 r0_1 ∧ f 7 = .bool r1_1 ∧ f 8 = .int .i64 r0_2 ∧ f 9 = .bool r1_2 ∧ f 10 = vbelow_1 ∧ Kp F h0 F' h ∧ St F' (Ow.box b_1 24 #[.int .i64 r_0_1, vr_1_1] :: Ow.own 46 2 e_api_Branch vr_1_1 r_1_1 :: Ow.own 3 1 encI vbelow_1 below_1 :: fr) h ∧ (SliceF F' h 2 e_api_Branch vt_Links t_Links) ∧ (RoF (Ow.box 0 53 #[gvS]) F' h) ∧ (ErrF gbS gvS F' h) ∧ (RoF (Ow.box 1 53 #[gvR]) F' h) ∧ (ErrF gbR gvR F' h) ∧ (RoF (Ow.box 2 3 #[.int .i64 gm]) F' h) ∧ (RoF (Ow.box 5 163 (tab10 ()).toArray) F' h) ∧ law32_TreeTells_j1 n Q r_0_1 r_1_1 r_5 r0_1 r1_1 r0_2 r1_2 below_1) ?_ ?_
  ·
   refine HW.seq ?_
   refine HW.region ?_
   refine oM (.bool r_5) rfl rfl ?_
   refine HO.nil (thenQ_normal (?_))
   refine HW.cond r_5 rfl (fun c_2 => ?_) (fun c_2 => ?_)
   ·
    replace hM := hM.1 c_2
    refine HW.region ?_
    refine oV (.agg #[.int .i64 r_0_1, vr_1_1]) (q_loadAgg (cs := [.int .i64 r_0_1, vr_1_1]) ta_24 rfl rfl (Blk.cells (k := 2) (hS.box 4 rfl) rfl)) rfl ?_
    refine oM (.int .i64 n) rfl rfl ?_
    replace hS : St F_14 (Ow.own 46 2 e_api_Branch vr_1_1 r_1_1 :: Ow.own 3 1 encI (.slice (some ⟨b_2, 0, none⟩) 0 0) ([] : List Int) :: Ow.own 46 2 e_api_Branch vr_1_2 r_1_2 :: Ow.own 3 1 encI vr_1 r_4 :: Ow.box b_1 24 #[.int .i64 r_0_1, vr_1_1] :: fr) h_11 := hS.perm2 [1, 0, 2, 3, 4] 5 rfl rfl
    have hZ_7 := hS
    have hkz_7 := (hS.freeze).2
    replace hS := hS.freeze.1
    have hL_7 : SliceF (fun bz_ => F_14 bz_ ∨ (Ow.own 46 2 e_api_Branch vr_1_1 r_1_1).foot bz_) h_11 2 e_api_Branch vr_1_1 r_1_1 := ⟨(hZ_7.own 0 rfl).slice, fun _ b hb => .inr hb⟩
    refine HO.call (want_none) rfl (ec en_20 rfl rfl) (ref32_Below_walk (fr := (Ow.own 3 1 encI (.slice (some ⟨b_2, 0, none⟩) 0 0) ([] : List Int) :: Ow.own 46 2 e_api_Branch vr_1_2 r_1_2 :: Ow.own 3 1 encI vr_1 r_4 :: Ow.box b_1 24 #[.int .i64 r_0_1, vr_1_1] :: fr)) r_0_1 r_1_1 n vr_1_1 hS hL_7 hM) ?_
    rintro vr_2 h_12 ⟨F_15, r_6, _, rfl, hk, hS, _, hM⟩
    obtain ⟨hS, hk⟩ := hZ_7.back hk hS
    generalize (fun bz_ => F_15 bz_ ∧ ¬ (Ow.own 46 2 e_api_Branch vr_1_1 r_1_1).foot bz_) = F_16 at hS hk
    replace hK := hK.trans hk
    replace hL_t_Links := hL_t_Links.kp hk
    replace hG_0 := hG_0.kp hk
    replace hE_gvS := hE_gvS.kp hk
    replace hG_1 := hG_1.kp hk
    replace hE_gvR := hE_gvR.kp hk
    replace hG_2 := hG_2.kp hk
    replace hG_5 := hG_5.kp hk
    refine oA (vr_2) rfl rfl ?_
    refine HO.nil (thenQ_normal (?_))
    replace hS : St F_16 (Ow.box b_1 24 #[.int .i64 r_0_1, vr_1_1] :: Ow.own 46 2 e_api_Branch vr_1_1 r_1_1 :: Ow.own 3 1 encI vr_2 r_6 :: fr) h_12 := hS.perm2 [5, 0, 1] 6 rfl rfl
    exact ⟨F_16, r_6, vr_2, rfl, rfl, rfl, rfl, rfl, rfl, rfl, rfl, rfl, hK, hS, hL_t_Links, hG_0, hE_gvS, hG_1, hE_gvR, hG_2, hG_5, hM⟩
   ·
    replace hM := hM.2 c_2
    refine HW.skip (thenQ_normal (?_))
    replace hS : St F_14 (Ow.box b_1 24 #[.int .i64 r_0_1, vr_1_1] :: Ow.own 46 2 e_api_Branch vr_1_1 r_1_1 :: Ow.own 3 1 encI (.slice (some ⟨b_2, 0, none⟩) 0 0) ([] : List Int) :: fr) h_11 := hS.perm2 [4, 1, 0] 5 rfl rfl
    exact ⟨F_14, [], .slice (some ⟨b_2, 0, none⟩) 0 0, rfl, rfl, rfl, rfl, rfl, rfl, rfl, rfl, rfl, hK, hS, hL_t_Links, hG_0, hE_gvS, hG_1, hE_gvR, hG_2, hG_5, hM⟩
  ·
   rintro f_1 h_13 ⟨F_17, below_1, vbelow_1, e1, e2, e4, e5, e6, e7, e8, e9, e10, hK, hS, hL_t_Links, hG_0, hE_gvS, hG_1, hE_gvR, hG_2, hG_5, hM⟩
   unfold law32_TreeTells_j1 at hM
   refine HW.fr [(1, .int .i64 n), (2, .pointer (some ⟨b_1, 0, none⟩)), (4, .bool false), (5, .bool r_5), (6, .int .i64 r0_1), (7, .bool r1_1), (8, .int .i64 r0_2), (9, .bool r1_2), (10, vbelow_1)] ⟨e1, e2, e4, e5, e6, e7, e8, e9, e10, trivial⟩ ?_
   refine HW.seq_mid (fun f h => ∃ (F' : Fz), f 1 = .int .i64 n ∧ f 2 = .pointer (some ⟨b_1, 0, none⟩) ∧ f 4 = .bool false ∧ Kp F h0 F' h ∧ St F' (Ow.box b_1 24 #[.int .i64 r_0_1, vr_1_1] :: Ow.own 46 2 e_api_Branch vr_1_1 r_1_1 :: fr) h ∧ (SliceF F' h 2 e_api_Branch vt_Links t_Links) ∧ (RoF (Ow.box 0 53 #[gvS]) F' h) ∧ (ErrF gbS gvS F' h) ∧ (RoF (Ow.box 1 53 #[gvR]) F' h) ∧ (ErrF gbR gvR F' h) ∧ (RoF (Ow.box 2 3 #[.int .i64 gm]) F' h) ∧ (RoF (Ow.box 5 163 (tab10 ()).toArray) F' h) ∧ law32_TreeTells_j2 n Q r_0_1 r_1_1) ?_ ?_
   ·
    refine HW.seq ?_
    refine HW.region ?_
    refine oV (.agg #[.int .i64 r_0_1, vr_1_1]) (q_loadAgg (cs := [.int .i64 r_0_1, vr_1_1]) ta_24 rfl rfl (Blk.cells (k := 2) (hS.box 0 rfl) rfl)) rfl ?_
    replace hS : St F_17 (Ow.own 46 2 e_api_Branch vr_1_1 r_1_1 :: Ow.box b_1 24 #[.int .i64 r_0_1, vr_1_1] :: Ow.own 3 1 encI vbelow_1 below_1 :: fr) h_13 := hS.perm2 [1, 0, 2] 3 rfl rfl
    have hZ_8 := hS
    have hkz_8 := (hS.freeze).2
    replace hS := hS.freeze.1
    have hL_8 : SliceF (fun bz_ => F_17 bz_ ∨ (Ow.own 46 2 e_api_Branch vr_1_1 r_1_1).foot bz_) h_13 2 e_api_Branch vr_1_1 r_1_1 := ⟨(hZ_8.own 0 rfl).slice, fun _ b hb => .inr hb⟩
    refine HO.call (want_none) rfl (ec en_8 rfl rfl) (law32_Few_walk (fr := (Ow.box b_1 24 #[.int .i64 r_0_1, vr_1_1] :: Ow.own 3 1 encI vbelow_1 below_1 :: fr)) r_0_1 r_1_1 vr_1_1 hS hL_8 hM) ?_
    rintro _ h_14 ⟨F_18, r_0_3, r_1_3, vr_1_3, rfl, hk, hS, _, hM⟩
    obtain ⟨hS, hk⟩ := hZ_8.back hk hS
    generalize (fun bz_ => F_18 bz_ ∧ ¬ (Ow.own 46 2 e_api_Branch vr_1_1 r_1_1).foot bz_) = F_19 at hS hk
    replace hK := hK.trans hk
    replace hL_t_Links := hL_t_Links.kp hk
    replace hG_0 := hG_0.kp hk
    replace hE_gvS := hE_gvS.kp hk
    replace hG_1 := hG_1.kp hk
    replace hE_gvR := hE_gvR.kp hk
    replace hG_2 := hG_2.kp hk
    replace hG_5 := hG_5.kp hk
    refine oM (.int .i64 n) rfl rfl ?_
    replace hS : St F_19 (Ow.own 46 2 e_api_Branch vr_1_3 r_1_3 :: Ow.own 46 2 e_api_Branch vr_1_1 r_1_1 :: Ow.box b_1 24 #[.int .i64 r_0_1, vr_1_1] :: Ow.own 3 1 encI vbelow_1 below_1 :: fr) h_14 := hS.perm2 [1, 0, 2, 3] 4 rfl rfl
    have hZ_9 := hS
    have hkz_9 := (hS.freeze).2
    replace hS := hS.freeze.1
    have hL_9 : SliceF (fun bz_ => F_19 bz_ ∨ (Ow.own 46 2 e_api_Branch vr_1_3 r_1_3).foot bz_) h_14 2 e_api_Branch vr_1_3 r_1_3 := ⟨(hZ_9.own 0 rfl).slice, fun _ b hb => .inr hb⟩
    refine HO.call (want_none) rfl (ec en_21 rfl rfl) (tree_Has_walk (fr := (Ow.own 46 2 e_api_Branch vr_1_1 r_1_1 :: Ow.box b_1 24 #[.int .i64 r_0_1, vr_1_1] :: Ow.own 3 1 encI vbelow_1 below_1 :: fr)) r_0_3 r_1_3 n vr_1_3 hS hL_9 hM) ?_
    rintro _ h_15 ⟨F_20, r_7, rfl, hk, hS, _, hM⟩
    obtain ⟨hS, hk⟩ := hZ_9.back hk hS
    generalize (fun bz_ => F_20 bz_ ∧ ¬ (Ow.own 46 2 e_api_Branch vr_1_3 r_1_3).foot bz_) = F_21 at hS hk
    replace hK := hK.trans hk
    replace hL_t_Links := hL_t_Links.kp hk
    replace hG_0 := hG_0.kp hk
    replace hE_gvS := hE_gvS.kp hk
    replace hG_1 := hG_1.kp hk
    replace hE_gvR := hE_gvR.kp hk
    replace hG_2 := hG_2.kp hk
    replace hG_5 := hG_5.kp hk
    refine oM (.bool r_5) rfl rfl ?_
    refine oV (.bool (!(r_7 == r_5))) (q_neqB Tryz.underlying4 rfl rfl) rfl ?_
    refine oM (.bool (!(r_7 == r_5))) rfl rfl ?_
    rcases Bool.eq_false_or_eq_true (!(r_7 == r_5)) with c_3 | c_3
    ·
     replace hM := hM.1 c_3
     refine HO.past (past_by rfl rfl c_3) rfl ?_
     refine HO.past (past_by rfl rfl c_3) rfl ?_
     refine HO.past (past_by rfl rfl c_3) rfl ?_
     refine oV (.bool true) (q_pickK true rfl c_3 rfl) rfl ?_
     refine oM (.bool true) rfl rfl ?_
     refine HO.past (past_some rfl rfl) rfl ?_
     refine HO.past (past_some rfl rfl) rfl ?_
     refine HO.past (past_some rfl rfl) rfl ?_
     refine oV (.bool true) (q_pick rfl rfl) rfl ?_
     refine oM (.bool true) rfl rfl ?_
     refine HO.past (past_some rfl rfl) rfl ?_
     refine HO.past (past_some rfl rfl) rfl ?_
     refine HO.past (past_some rfl rfl) rfl ?_
     refine HO.past (past_undef rfl rfl) rfl ?_
     refine HO.past (past_undef rfl rfl) rfl ?_
     refine HO.past (past_undef rfl rfl) rfl ?_
     refine HO.past (past_undef rfl rfl) rfl ?_
     refine HO.past (past_some rfl rfl) rfl ?_
     refine HO.past (past_some rfl rfl) rfl ?_
     refine oV (.bool true) (q_pick rfl rfl) rfl ?_
     refine oM (.bool true) rfl rfl ?_
     refine HO.past (past_some rfl rfl) rfl ?_
     refine HO.past (past_some rfl rfl) rfl ?_
     refine HO.past (past_some rfl rfl) rfl ?_
     refine HO.past (past_some rfl rfl) rfl ?_
     refine HO.past (past_some rfl rfl) rfl ?_
     refine HO.past (past_some rfl rfl) rfl ?_
     refine HO.past (past_some rfl rfl) rfl ?_
     refine oV (.bool true) (q_pick rfl rfl) rfl ?_
     refine HO.nil (thenQ_normal (?_))
     refine HW.condT rfl ?_
     refine HW.seq ?_
     refine HW.region ?_
     refine oA (.bool false) rfl rfl ?_
     refine HO.nil (thenQ_normal (?_))
     refine HW.ret (thenQ_ret (?_))
     refine ⟨.inr rfl, .bool false, res1 rfl (rt rfl), ?_⟩
     replace hS : St F_21 (fr) h_15 := hS.perm2 [] 4 rfl rfl
     exact ⟨F_21, false, rfl, hK, hS, hL_t_Links, hG_0, hE_gvS, hG_1, hE_gvR, hG_2, hG_5, hM⟩
    ·
     replace hM := hM.2 c_3
     refine HO.val (v := .int .i64 r0_1) (want_by rfl rfl c_3) rfl (q_move rfl) ?_
     refine HO.val (v := .int .i64 r0_2) (want_by rfl rfl c_3) rfl (q_move rfl) ?_
     refine HO.val (v := .bool (!decide (r0_1 = r0_2))) (want_by rfl rfl c_3) rfl (q_neq rfl rfl) ?_
     refine oV (.bool (!decide (r0_1 = r0_2))) (q_pickK false rfl c_3 rfl) rfl ?_
     refine oM (.bool (!decide (r0_1 = r0_2))) rfl rfl ?_
     rcases Bool.eq_false_or_eq_true (!decide (r0_1 = r0_2)) with c_4 | c_4
     ·
      replace hM := hM.1 (nd_true c_4)
      refine HO.past (past_by rfl rfl c_4) rfl ?_
      refine HO.past (past_by rfl rfl c_4) rfl ?_
      refine HO.past (past_by rfl rfl c_4) rfl ?_
      refine oV (.bool true) (q_pickK true rfl c_4 rfl) rfl ?_
      refine oM (.bool true) rfl rfl ?_
      refine HO.past (past_some rfl rfl) rfl ?_
      refine HO.past (past_some rfl rfl) rfl ?_
      refine HO.past (past_some rfl rfl) rfl ?_
      refine HO.past (past_undef rfl rfl) rfl ?_
      refine HO.past (past_undef rfl rfl) rfl ?_
      refine HO.past (past_undef rfl rfl) rfl ?_
      refine HO.past (past_undef rfl rfl) rfl ?_
      refine HO.past (past_some rfl rfl) rfl ?_
      refine HO.past (past_some rfl rfl) rfl ?_
      refine oV (.bool true) (q_pick rfl rfl) rfl ?_
      refine oM (.bool true) rfl rfl ?_
      refine HO.past (past_some rfl rfl) rfl ?_
      refine HO.past (past_some rfl rfl) rfl ?_
      refine HO.past (past_some rfl rfl) rfl ?_
      refine HO.past (past_some rfl rfl) rfl ?_
      refine HO.past (past_some rfl rfl) rfl ?_
      refine HO.past (past_some rfl rfl) rfl ?_
      refine HO.past (past_some rfl rfl) rfl ?_
      refine oV (.bool true) (q_pick rfl rfl) rfl ?_
      refine HO.nil (thenQ_normal (?_))
      refine HW.condT rfl ?_
      refine HW.seq ?_
      refine HW.region ?_
      refine oA (.bool false) rfl rfl ?_
      refine HO.nil (thenQ_normal (?_))
      refine HW.ret (thenQ_ret (?_))
      refine ⟨.inr rfl, .bool false, res1 rfl (rt rfl), ?_⟩
      replace hS : St F_21 (fr) h_15 := hS.perm2 [] 4 rfl rfl
      exact ⟨F_21, false, rfl, hK, hS, hL_t_Links, hG_0, hE_gvS, hG_1, hE_gvR, hG_2, hG_5, hM⟩
     ·
      replace hM := hM.2 (nd_false c_4)
      refine HO.val (v := .bool r1_1) (want_by rfl rfl c_4) rfl (q_move rfl) ?_
      refine HO.val (v := .bool r1_2) (want_by rfl rfl c_4) rfl (q_move rfl) ?_
      refine HO.val (v := .bool (!(r1_1 == r1_2))) (want_by rfl rfl c_4) rfl (q_neqB Tryz.underlying4 rfl rfl) ?_
      refine oV (.bool (!(r1_1 == r1_2))) (q_pickK false rfl c_4 rfl) rfl ?_
      refine oM (.bool (!(r1_1 == r1_2))) rfl rfl ?_
      rcases Bool.eq_false_or_eq_true (!(r1_1 == r1_2)) with c_5 | c_5
      ·
       replace hM := hM.1 c_5
       refine HO.past (past_by rfl rfl c_5) rfl ?_
       refine HO.past (past_by rfl rfl c_5) rfl ?_
       refine HO.past (past_by rfl rfl c_5) rfl ?_
       refine HO.past (past_undef rfl rfl) rfl ?_
       refine HO.past (past_undef rfl rfl) rfl ?_
       refine HO.past (past_undef rfl rfl) rfl ?_
       refine HO.past (past_undef rfl rfl) rfl ?_
       refine HO.past (past_by rfl rfl c_5) rfl ?_
       refine HO.past (past_by rfl rfl c_5) rfl ?_
       refine oV (.bool true) (q_pickK true rfl c_5 rfl) rfl ?_
       refine oM (.bool true) rfl rfl ?_
       refine HO.past (past_some rfl rfl) rfl ?_
       refine HO.past (past_some rfl rfl) rfl ?_
       refine HO.past (past_some rfl rfl) rfl ?_
       refine HO.past (past_some rfl rfl) rfl ?_
       refine HO.past (past_some rfl rfl) rfl ?_
       refine HO.past (past_some rfl rfl) rfl ?_
       refine HO.past (past_some rfl rfl) rfl ?_
       refine oV (.bool true) (q_pick rfl rfl) rfl ?_
       refine HO.nil (thenQ_normal (?_))
       refine HW.condT rfl ?_
       refine HW.seq ?_
       refine HW.region ?_
       refine oA (.bool false) rfl rfl ?_
       refine HO.nil (thenQ_normal (?_))
       refine HW.ret (thenQ_ret (?_))
       refine ⟨.inr rfl, .bool false, res1 rfl (rt rfl), ?_⟩
       replace hS : St F_21 (fr) h_15 := hS.perm2 [] 4 rfl rfl
       exact ⟨F_21, false, rfl, hK, hS, hL_t_Links, hG_0, hE_gvS, hG_1, hE_gvR, hG_2, hG_5, hM⟩
      ·
       replace hM := hM.2 c_5
       refine HO.val (v := .bool r1_1) (want_by rfl rfl c_5) rfl (q_move rfl) ?_
       refine HO.val (v := .bool r_5) (want_by rfl rfl c_5) rfl (q_move rfl) ?_
       refine HO.val (v := .bool r_5) (want_by rfl rfl c_5) rfl (q_move rfl) ?_
       rcases Bool.eq_false_or_eq_true r_5 with c_6 | c_6
       ·
        replace hM := hM.1 c_6
        refine HO.val (v := .int .i64 n) (want_by rfl rfl c_6) rfl (q_move rfl) ?_
        refine HO.val (v := .pointer (some ⟨b_1, 0, none⟩)) (want_by rfl rfl c_6) rfl (q_fieldAddr fa_24_0 rfl rfl) ?_
        refine HO.val (v := .int .i64 r_0_1) (want_by rfl rfl c_6) rfl (q_load to_3 rfl (Blk.cell (hS.box 2 rfl) rfl)) ?_
        refine HO.val (v := .bool (!decide (n = r_0_1))) (want_by rfl rfl c_6) rfl (q_neq rfl rfl) ?_
        refine HO.val (v := .bool (!decide (n = r_0_1))) (want_by rfl rfl c_5) rfl (q_pickK true rfl c_6 rfl) ?_
        refine HO.val (v := .bool (!(r1_1 == (!decide (n = r_0_1))))) (want_by rfl rfl c_5) rfl (q_neqB Tryz.underlying4 rfl rfl) ?_
        refine oV (.bool (!(r1_1 == (!decide (n = r_0_1))))) (q_pickK false rfl c_5 rfl) rfl ?_
        refine oM (.bool (!(r1_1 == (!decide (n = r_0_1))))) rfl rfl ?_
        rcases Bool.eq_false_or_eq_true (!(r1_1 == (!decide (n = r_0_1)))) with c_7 | c_7
        ·
         replace hM := hM.1 c_7
         refine HO.past (past_by rfl rfl c_7) rfl ?_
         refine HO.past (past_by rfl rfl c_7) rfl ?_
         refine HO.past (past_by rfl rfl c_7) rfl ?_
         refine HO.past (past_by rfl rfl c_7) rfl ?_
         refine HO.past (past_by rfl rfl c_7) rfl ?_
         refine HO.past (past_by rfl rfl c_7) rfl ?_
         refine HO.past (past_by rfl rfl c_7) rfl ?_
         refine oV (.bool true) (q_pickK true rfl c_7 rfl) rfl ?_
         refine HO.nil (thenQ_normal (?_))
         refine HW.condT rfl ?_
         refine HW.seq ?_
         refine HW.region ?_
         refine oA (.bool false) rfl rfl ?_
         refine HO.nil (thenQ_normal (?_))
         refine HW.ret (thenQ_ret (?_))
         refine ⟨.inr rfl, .bool false, res1 rfl (rt rfl), ?_⟩
         replace hS : St F_21 (fr) h_15 := hS.perm2 [] 4 rfl rfl
         exact ⟨F_21, false, rfl, hK, hS, hL_t_Links, hG_0, hE_gvS, hG_1, hE_gvR, hG_2, hG_5, hM⟩
        ·
         replace hM := hM.2 c_7
         refine HO.val (v := .agg #[.int .i64 r_0_1, vr_1_1]) (want_by rfl rfl c_7) rfl (q_loadAgg (cs := [.int .i64 r_0_1, vr_1_1]) ta_24 rfl rfl (Blk.cells (k := 2) (hS.box 2 rfl) rfl)) ?_
         replace hS : St F_21 (Ow.own 46 2 e_api_Branch vr_1_1 r_1_1 :: Ow.own 46 2 e_api_Branch vr_1_3 r_1_3 :: Ow.box b_1 24 #[.int .i64 r_0_1, vr_1_1] :: Ow.own 3 1 encI vbelow_1 below_1 :: fr) h_15 := hS.perm2 [1, 0, 2, 3] 4 rfl rfl
         have hZ_10 := hS
         have hkz_10 := (hS.freeze).2
         replace hS := hS.freeze.1
         have hL_10 : SliceF (fun bz_ => F_21 bz_ ∨ (Ow.own 46 2 e_api_Branch vr_1_1 r_1_1).foot bz_) h_15 2 e_api_Branch vr_1_1 r_1_1 := ⟨(hZ_10.own 0 rfl).slice, fun _ b hb => .inr hb⟩
         refine HO.call (want_by rfl rfl c_7) rfl (ec en_8 rfl rfl) (law32_Few_walk (fr := (Ow.own 46 2 e_api_Branch vr_1_3 r_1_3 :: Ow.box b_1 24 #[.int .i64 r_0_1, vr_1_1] :: Ow.own 3 1 encI vbelow_1 below_1 :: fr)) r_0_1 r_1_1 vr_1_1 hS hL_10 hM) ?_
         rintro _ h_16 ⟨F_22, r_0_4, r_1_4, vr_1_4, rfl, hk, hS, _, hM⟩
         obtain ⟨hS, hk⟩ := hZ_10.back hk hS
         generalize (fun bz_ => F_22 bz_ ∧ ¬ (Ow.own 46 2 e_api_Branch vr_1_1 r_1_1).foot bz_) = F_23 at hS hk
         replace hK := hK.trans hk
         replace hL_t_Links := hL_t_Links.kp hk
         replace hG_0 := hG_0.kp hk
         replace hE_gvS := hE_gvS.kp hk
         replace hG_1 := hG_1.kp hk
         replace hE_gvR := hE_gvR.kp hk
         replace hG_2 := hG_2.kp hk
         replace hG_5 := hG_5.kp hk
         refine HO.val (v := .int .i64 n) (want_by rfl rfl c_7) rfl (q_move rfl) ?_
         replace hS : St F_23 (Ow.own 46 2 e_api_Branch vr_1_4 r_1_4 :: Ow.own 46 2 e_api_Branch vr_1_1 r_1_1 :: Ow.own 46 2 e_api_Branch vr_1_3 r_1_3 :: Ow.box b_1 24 #[.int .i64 r_0_1, vr_1_1] :: Ow.own 3 1 encI vbelow_1 below_1 :: fr) h_16 := hS.perm2 [1, 0, 2, 3, 4] 5 rfl rfl
         have hZ_11 := hS
         have hkz_11 := (hS.freeze).2
         replace hS := hS.freeze.1
         have hL_11 : SliceF (fun bz_ => F_23 bz_ ∨ (Ow.own 46 2 e_api_Branch vr_1_4 r_1_4).foot bz_) h_16 2 e_api_Branch vr_1_4 r_1_4 := ⟨(hZ_11.own 0 rfl).slice, fun _ b hb => .inr hb⟩
         refine HO.call (want_by rfl rfl c_7) rfl (ec en_23 rfl rfl) (tree_Below_walk (fr := (Ow.own 46 2 e_api_Branch vr_1_1 r_1_1 :: Ow.own 46 2 e_api_Branch vr_1_3 r_1_3 :: Ow.box b_1 24 #[.int .i64 r_0_1, vr_1_1] :: Ow.own 3 1 encI vbelow_1 below_1 :: fr)) r_0_4 r_1_4 n vr_1_4 hS hL_11 hM) ?_
         rintro vr_3 h_17 ⟨F_24, r_8, _, rfl, hk, hS, _, hM⟩
         obtain ⟨hS, hk⟩ := hZ_11.back hk hS
         generalize (fun bz_ => F_24 bz_ ∧ ¬ (Ow.own 46 2 e_api_Branch vr_1_4 r_1_4).foot bz_) = F_25 at hS hk
         replace hK := hK.trans hk
         replace hL_t_Links := hL_t_Links.kp hk
         replace hG_0 := hG_0.kp hk
         replace hE_gvS := hE_gvS.kp hk
         replace hG_1 := hG_1.kp hk
         replace hE_gvR := hE_gvR.kp hk
         replace hG_2 := hG_2.kp hk
         replace hG_5 := hG_5.kp hk
         refine HO.val (v := vbelow_1) (want_by rfl rfl c_7) rfl (q_move rfl) ?_
         replace hS : St F_25 (Ow.own 3 1 encI vr_3 r_8 :: Ow.own 46 2 e_api_Branch vr_1_4 r_1_4 :: Ow.own 46 2 e_api_Branch vr_1_1 r_1_1 :: Ow.own 46 2 e_api_Branch vr_1_3 r_1_3 :: Ow.box b_1 24 #[.int .i64 r_0_1, vr_1_1] :: Ow.own 3 1 encI vbelow_1 below_1 :: fr) h_17 := hS.perm2 [1, 0, 2, 3, 4, 5] 6 rfl rfl
         have hZ_12 := hS
         have hkz_12 := (hS.freeze).2
         replace hS := hS.freeze.1
         have hL_12 : SliceF (fun bz_ => F_25 bz_ ∨ (Ow.own 3 1 encI vr_3 r_8).foot bz_) h_17 1 encI vr_3 r_8 := ⟨(hZ_12.own 0 rfl).slice, fun _ b hb => .inr hb⟩
         replace hS : St (fun bz_ => F_25 bz_ ∨ (Ow.own 3 1 encI vr_3 r_8).foot bz_) (Ow.own 3 1 encI vbelow_1 below_1 :: Ow.own 46 2 e_api_Branch vr_1_4 r_1_4 :: Ow.own 46 2 e_api_Branch vr_1_1 r_1_1 :: Ow.own 46 2 e_api_Branch vr_1_3 r_1_3 :: Ow.box b_1 24 #[.int .i64 r_0_1, vr_1_1] :: fr) h_17 := hS.perm2 [4, 0, 1, 2, 3] 5 rfl rfl
         have hZ_13 := hS
         have hkz_13 := (hS.freeze).2
         replace hS := hS.freeze.1
         have hL_13 : SliceF (fun bz_ => (fun bz_ => F_25 bz_ ∨ (Ow.own 3 1 encI vr_3 r_8).foot bz_) bz_ ∨ (Ow.own 3 1 encI vbelow_1 below_1).foot bz_) h_17 1 encI vbelow_1 below_1 := ⟨(hZ_13.own 0 rfl).slice, fun _ b hb => .inr hb⟩
         refine HO.call (want_by rfl rfl c_7) rfl (ec en_22 rfl rfl) (ref32_SameInts_walk (fr := (Ow.own 46 2 e_api_Branch vr_1_4 r_1_4 :: Ow.own 46 2 e_api_Branch vr_1_1 r_1_1 :: Ow.own 46 2 e_api_Branch vr_1_3 r_1_3 :: Ow.box b_1 24 #[.int .i64 r_0_1, vr_1_1] :: fr)) r_8 below_1 vr_3 vbelow_1 hS (hL_12.kp hkz_13) hL_13 hM) ?_
         rintro _ h_18 ⟨F_26, r_9, rfl, hk, hS, _, _, hM⟩
         obtain ⟨hS, hk⟩ := hZ_13.back hk hS
         obtain ⟨hS, hk⟩ := hZ_12.back hk hS
         generalize (fun bz_ => (fun bz_ => F_26 bz_ ∧ ¬ (Ow.own 3 1 encI vbelow_1 below_1).foot bz_) bz_ ∧ ¬ (Ow.own 3 1 encI vr_3 r_8).foot bz_) = F_27 at hS hk
         replace hK := hK.trans hk
         replace hL_t_Links := hL_t_Links.kp hk
         replace hG_0 := hG_0.kp hk
         replace hE_gvS := hE_gvS.kp hk
         replace hG_1 := hG_1.kp hk
         replace hE_gvR := hE_gvR.kp hk
         replace hG_2 := hG_2.kp hk
         replace hG_5 := hG_5.kp hk
         refine HO.val (v := .bool (!r_9)) (want_by rfl rfl c_7) rfl (q_not rfl) ?_
         refine oV (.bool (!r_9)) (q_pickK false rfl c_7 rfl) rfl ?_
         refine HO.nil (thenQ_normal (?_))
         refine HW.cond (!r_9) rfl (fun c_8 => ?_) (fun c_8 => ?_)
         ·
          replace hM := hM.1 c_8
          refine HW.seq ?_
          refine HW.region ?_
          refine oA (.bool false) rfl rfl ?_
          refine HO.nil (thenQ_normal (?_))
          refine HW.ret (thenQ_ret (?_))
          refine ⟨.inr rfl, .bool false, res1 rfl (rt rfl), ?_⟩
          replace hS : St F_27 (fr) h_18 := hS.perm2 [] 6 rfl rfl
          exact ⟨F_27, false, rfl, hK, hS, hL_t_Links, hG_0, hE_gvS, hG_1, hE_gvR, hG_2, hG_5, hM⟩
         ·
          replace hM := hM.2 c_8
          refine HW.skip (thenQ_normal (?_))
          replace hS : St F_27 (Ow.box b_1 24 #[.int .i64 r_0_1, vr_1_1] :: Ow.own 46 2 e_api_Branch vr_1_1 r_1_1 :: fr) h_18 := hS.perm2 [5, 3] 6 rfl rfl
          exact ⟨F_27, rfl, rfl, rfl, hK, hS, hL_t_Links, hG_0, hE_gvS, hG_1, hE_gvR, hG_2, hG_5, hM⟩
       ·
        replace hM := hM.2 c_6
        refine HO.past (past_by rfl rfl c_6) rfl ?_
        refine HO.past (past_by rfl rfl c_6) rfl ?_
        refine HO.past (past_by rfl rfl c_6) rfl ?_
        refine HO.past (past_by rfl rfl c_6) rfl ?_
        refine HO.val (v := .bool false) (want_by rfl rfl c_5) rfl (q_pickK false rfl c_6 rfl) ?_
        refine HO.val (v := .bool (!(r1_1 == false))) (want_by rfl rfl c_5) rfl (q_neqB Tryz.underlying4 rfl rfl) ?_
        refine oV (.bool (!(r1_1 == false))) (q_pickK false rfl c_5 rfl) rfl ?_
        refine oM (.bool (!(r1_1 == false))) rfl rfl ?_
        rcases Bool.eq_false_or_eq_true (!(r1_1 == false)) with c_9 | c_9
        ·
         replace hM := hM.1 c_9
         refine HO.past (past_by rfl rfl c_9) rfl ?_
         refine HO.past (past_by rfl rfl c_9) rfl ?_
         refine HO.past (past_by rfl rfl c_9) rfl ?_
         refine HO.past (past_by rfl rfl c_9) rfl ?_
         refine HO.past (past_by rfl rfl c_9) rfl ?_
         refine HO.past (past_by rfl rfl c_9) rfl ?_
         refine HO.past (past_by rfl rfl c_9) rfl ?_
         refine oV (.bool true) (q_pickK true rfl c_9 rfl) rfl ?_
         refine HO.nil (thenQ_normal (?_))
         refine HW.condT rfl ?_
         refine HW.seq ?_
         refine HW.region ?_
         refine oA (.bool false) rfl rfl ?_
         refine HO.nil (thenQ_normal (?_))
         refine HW.ret (thenQ_ret (?_))
         refine ⟨.inr rfl, .bool false, res1 rfl (rt rfl), ?_⟩
         replace hS : St F_21 (fr) h_15 := hS.perm2 [] 4 rfl rfl
         exact ⟨F_21, false, rfl, hK, hS, hL_t_Links, hG_0, hE_gvS, hG_1, hE_gvR, hG_2, hG_5, hM⟩
        ·
         replace hM := hM.2 c_9
         refine HO.val (v := .agg #[.int .i64 r_0_1, vr_1_1]) (want_by rfl rfl c_9) rfl (q_loadAgg (cs := [.int .i64 r_0_1, vr_1_1]) ta_24 rfl rfl (Blk.cells (k := 2) (hS.box 2 rfl) rfl)) ?_
         replace hS : St F_21 (Ow.own 46 2 e_api_Branch vr_1_1 r_1_1 :: Ow.own 46 2 e_api_Branch vr_1_3 r_1_3 :: Ow.box b_1 24 #[.int .i64 r_0_1, vr_1_1] :: Ow.own 3 1 encI vbelow_1 below_1 :: fr) h_15 := hS.perm2 [1, 0, 2, 3] 4 rfl rfl
         have hZ_14 := hS
         have hkz_14 := (hS.freeze).2
         replace hS := hS.freeze.1
         have hL_14 : SliceF (fun bz_ => F_21 bz_ ∨ (Ow.own 46 2 e_api_Branch vr_1_1 r_1_1).foot bz_) h_15 2 e_api_Branch vr_1_1 r_1_1 := ⟨(hZ_14.own 0 rfl).slice, fun _ b hb => .inr hb⟩
         refine HO.call (want_by rfl rfl c_9) rfl (ec en_8 rfl rfl) (law32_Few_walk (fr := (Ow.own 46 2 e_api_Branch vr_1_3 r_1_3 :: Ow.box b_1 24 #[.int .i64 r_0_1, vr_1_1] :: Ow.own 3 1 encI vbelow_1 below_1 :: fr)) r_0_1 r_1_1 vr_1_1 hS hL_14 hM) ?_
         rintro _ h_19 ⟨F_28, r_0_5, r_1_5, vr_1_5, rfl, hk, hS, _, hM⟩
         obtain ⟨hS, hk⟩ := hZ_14.back hk hS
         generalize (fun bz_ => F_28 bz_ ∧ ¬ (Ow.own 46 2 e_api_Branch vr_1_1 r_1_1).foot bz_) = F_29 at hS hk
         replace hK := hK.trans hk
         replace hL_t_Links := hL_t_Links.kp hk
         replace hG_0 := hG_0.kp hk
         replace hE_gvS := hE_gvS.kp hk
         replace hG_1 := hG_1.kp hk
         replace hE_gvR := hE_gvR.kp hk
         replace hG_2 := hG_2.kp hk
         replace hG_5 := hG_5.kp hk
         refine HO.val (v := .int .i64 n) (want_by rfl rfl c_9) rfl (q_move rfl) ?_
         replace hS : St F_29 (Ow.own 46 2 e_api_Branch vr_1_5 r_1_5 :: Ow.own 46 2 e_api_Branch vr_1_1 r_1_1 :: Ow.own 46 2 e_api_Branch vr_1_3 r_1_3 :: Ow.box b_1 24 #[.int .i64 r_0_1, vr_1_1] :: Ow.own 3 1 encI vbelow_1 below_1 :: fr) h_19 := hS.perm2 [1, 0, 2, 3, 4] 5 rfl rfl
         have hZ_15 := hS
         have hkz_15 := (hS.freeze).2
         replace hS := hS.freeze.1
         have hL_15 : SliceF (fun bz_ => F_29 bz_ ∨ (Ow.own 46 2 e_api_Branch vr_1_5 r_1_5).foot bz_) h_19 2 e_api_Branch vr_1_5 r_1_5 := ⟨(hZ_15.own 0 rfl).slice, fun _ b hb => .inr hb⟩
         refine HO.call (want_by rfl rfl c_9) rfl (ec en_23 rfl rfl) (tree_Below_walk (fr := (Ow.own 46 2 e_api_Branch vr_1_1 r_1_1 :: Ow.own 46 2 e_api_Branch vr_1_3 r_1_3 :: Ow.box b_1 24 #[.int .i64 r_0_1, vr_1_1] :: Ow.own 3 1 encI vbelow_1 below_1 :: fr)) r_0_5 r_1_5 n vr_1_5 hS hL_15 hM) ?_
         rintro vr_4 h_20 ⟨F_30, r_10, _, rfl, hk, hS, _, hM⟩
         obtain ⟨hS, hk⟩ := hZ_15.back hk hS
         generalize (fun bz_ => F_30 bz_ ∧ ¬ (Ow.own 46 2 e_api_Branch vr_1_5 r_1_5).foot bz_) = F_31 at hS hk
         replace hK := hK.trans hk
         replace hL_t_Links := hL_t_Links.kp hk
         replace hG_0 := hG_0.kp hk
         replace hE_gvS := hE_gvS.kp hk
         replace hG_1 := hG_1.kp hk
         replace hE_gvR := hE_gvR.kp hk
         replace hG_2 := hG_2.kp hk
         replace hG_5 := hG_5.kp hk
         refine HO.val (v := vbelow_1) (want_by rfl rfl c_9) rfl (q_move rfl) ?_
         replace hS : St F_31 (Ow.own 3 1 encI vr_4 r_10 :: Ow.own 46 2 e_api_Branch vr_1_5 r_1_5 :: Ow.own 46 2 e_api_Branch vr_1_1 r_1_1 :: Ow.own 46 2 e_api_Branch vr_1_3 r_1_3 :: Ow.box b_1 24 #[.int .i64 r_0_1, vr_1_1] :: Ow.own 3 1 encI vbelow_1 below_1 :: fr) h_20 := hS.perm2 [1, 0, 2, 3, 4, 5] 6 rfl rfl
         have hZ_16 := hS
         have hkz_16 := (hS.freeze).2
         replace hS := hS.freeze.1
         have hL_16 : SliceF (fun bz_ => F_31 bz_ ∨ (Ow.own 3 1 encI vr_4 r_10).foot bz_) h_20 1 encI vr_4 r_10 := ⟨(hZ_16.own 0 rfl).slice, fun _ b hb => .inr hb⟩
         replace hS : St (fun bz_ => F_31 bz_ ∨ (Ow.own 3 1 encI vr_4 r_10).foot bz_) (Ow.own 3 1 encI vbelow_1 below_1 :: Ow.own 46 2 e_api_Branch vr_1_5 r_1_5 :: Ow.own 46 2 e_api_Branch vr_1_1 r_1_1 :: Ow.own 46 2 e_api_Branch vr_1_3 r_1_3 :: Ow.box b_1 24 #[.int .i64 r_0_1, vr_1_1] :: fr) h_20 := hS.perm2 [4, 0, 1, 2, 3] 5 rfl rfl
         have hZ_17 := hS
         have hkz_17 := (hS.freeze).2
         replace hS := hS.freeze.1
         have hL_17 : SliceF (fun bz_ => (fun bz_ => F_31 bz_ ∨ (Ow.own 3 1 encI vr_4 r_10).foot bz_) bz_ ∨ (Ow.own 3 1 encI vbelow_1 below_1).foot bz_) h_20 1 encI vbelow_1 below_1 := ⟨(hZ_17.own 0 rfl).slice, fun _ b hb => .inr hb⟩
         refine HO.call (want_by rfl rfl c_9) rfl (ec en_22 rfl rfl) (ref32_SameInts_walk (fr := (Ow.own 46 2 e_api_Branch vr_1_5 r_1_5 :: Ow.own 46 2 e_api_Branch vr_1_1 r_1_1 :: Ow.own 46 2 e_api_Branch vr_1_3 r_1_3 :: Ow.box b_1 24 #[.int .i64 r_0_1, vr_1_1] :: fr)) r_10 below_1 vr_4 vbelow_1 hS (hL_16.kp hkz_17) hL_17 hM) ?_
         rintro _ h_21 ⟨F_32, r_11, rfl, hk, hS, _, _, hM⟩
         obtain ⟨hS, hk⟩ := hZ_17.back hk hS
         obtain ⟨hS, hk⟩ := hZ_16.back hk hS
         generalize (fun bz_ => (fun bz_ => F_32 bz_ ∧ ¬ (Ow.own 3 1 encI vbelow_1 below_1).foot bz_) bz_ ∧ ¬ (Ow.own 3 1 encI vr_4 r_10).foot bz_) = F_33 at hS hk
         replace hK := hK.trans hk
         replace hL_t_Links := hL_t_Links.kp hk
         replace hG_0 := hG_0.kp hk
         replace hE_gvS := hE_gvS.kp hk
         replace hG_1 := hG_1.kp hk
         replace hE_gvR := hE_gvR.kp hk
         replace hG_2 := hG_2.kp hk
         replace hG_5 := hG_5.kp hk
         refine HO.val (v := .bool (!r_11)) (want_by rfl rfl c_9) rfl (q_not rfl) ?_
         refine oV (.bool (!r_11)) (q_pickK false rfl c_9 rfl) rfl ?_
         refine HO.nil (thenQ_normal (?_))
         refine HW.cond (!r_11) rfl (fun c_10 => ?_) (fun c_10 => ?_)
         ·
          replace hM := hM.1 c_10
          refine HW.seq ?_
          refine HW.region ?_
          refine oA (.bool false) rfl rfl ?_
          refine HO.nil (thenQ_normal (?_))
          refine HW.ret (thenQ_ret (?_))
          refine ⟨.inr rfl, .bool false, res1 rfl (rt rfl), ?_⟩
          replace hS : St F_33 (fr) h_21 := hS.perm2 [] 6 rfl rfl
          exact ⟨F_33, false, rfl, hK, hS, hL_t_Links, hG_0, hE_gvS, hG_1, hE_gvR, hG_2, hG_5, hM⟩
         ·
          replace hM := hM.2 c_10
          refine HW.skip (thenQ_normal (?_))
          replace hS : St F_33 (Ow.box b_1 24 #[.int .i64 r_0_1, vr_1_1] :: Ow.own 46 2 e_api_Branch vr_1_1 r_1_1 :: fr) h_21 := hS.perm2 [5, 3] 6 rfl rfl
          exact ⟨F_33, rfl, rfl, rfl, hK, hS, hL_t_Links, hG_0, hE_gvS, hG_1, hE_gvR, hG_2, hG_5, hM⟩
   ·
    rintro f_2 h_22 ⟨F_34, e1, e2, e4, hK, hS, hL_t_Links, hG_0, hE_gvS, hG_1, hE_gvR, hG_2, hG_5, hM⟩
    unfold law32_TreeTells_j2 at hM
    refine HW.fr [(1, .int .i64 n), (2, .pointer (some ⟨b_1, 0, none⟩)), (4, .bool false)] ⟨e1, e2, e4, trivial⟩ ?_
    refine HW.seq ?_
    refine HW.seq_mid (fun f h => ∃ (F' : Fz) (b_3 : Bool), f 2 = .pointer (some ⟨b_1, 0, none⟩) ∧ f 4 = .bool false ∧ f 103 = .bool b_3 ∧ Kp F h0 F' h ∧ St F' (Ow.box b_1 24 #[.int .i64 r_0_1, vr_1_1] :: Ow.own 46 2 e_api_Branch vr_1_1 r_1_1 :: fr) h ∧ (SliceF F' h 2 e_api_Branch vt_Links t_Links) ∧ (RoF (Ow.box 0 53 #[gvS]) F' h) ∧ (ErrF gbS gvS F' h) ∧ (RoF (Ow.box 1 53 #[gvR]) F' h) ∧ (ErrF gbR gvR F' h) ∧ (RoF (Ow.box 2 3 #[.int .i64 gm]) F' h) ∧ (RoF (Ow.box 5 163 (tab10 ()).toArray) F' h) ∧ law32_TreeTells_j3 Q r_0_1 r_1_1 b_3) ?_ ?_
    ·
     refine HW.regionA 29 mixed (fun h => (Blk h b_1 (.cells #[.int .i64 r_0_1, vr_1_1] 24 (0, 0)))) [] (by kernel_rfl) ?_
     refine HA.val (k := 0) (v := .agg #[.int .i64 r_0_1, vr_1_1]) rfl rfl (by kernel_rfl) (by kernel_rfl) (want_none) rfl (fun _ c209 => q_loadAgg (cs := [.int .i64 r_0_1, vr_1_1]) ta_24 rfl rfl (Blk.cells (k := 2) c209 rfl)) ?_
     refine HA.val (k := 2) (v := .int .i64 n) rfl rfl (by kernel_rfl) (by kernel_rfl) (want_none) rfl (fun _ c209 => q_move rfl) ?_
     refine HA.val (k := 4) (v := .agg #[.int .i64 r_0_1, vr_1_1]) rfl rfl (by kernel_rfl) (by kernel_rfl) (want_none) rfl (fun _ c209 => q_loadAgg (cs := [.int .i64 r_0_1, vr_1_1]) ta_24 rfl rfl (Blk.cells (k := 2) c209 rfl)) ?_
     refine HA.val (k := 5) (v := .int .i64 n) rfl rfl (by kernel_rfl) (by kernel_rfl) (want_none) rfl (fun _ c209 => q_move rfl) ?_
     refine HA.one (k := 1) ⟨(hS.box 0 rfl), (Go.Wk.at_nil _ _)⟩ (by kernel_rfl) ?_
     replace hS : St F_34 (Ow.own 46 2 e_api_Branch vr_1_1 r_1_1 :: Ow.box b_1 24 #[.int .i64 r_0_1, vr_1_1] :: fr) h_22 := hS.perm2 [1, 0] 2 rfl rfl
     have hZ_18 := hS
     have hkz_18 := (hS.freeze).2
     replace hS := hS.freeze.1
     have hL_18 : SliceF (fun bz_ => F_34 bz_ ∨ (Ow.own 46 2 e_api_Branch vr_1_1 r_1_1).foot bz_) h_22 2 e_api_Branch vr_1_1 r_1_1 := ⟨(hZ_18.own 0 rfl).slice, fun _ b hb => .inr hb⟩
     refine HS.call rfl (want_none) rfl (ec en_8 rfl rfl) (law32_Few_walk (fr := (Ow.box b_1 24 #[.int .i64 r_0_1, vr_1_1] :: fr)) r_0_1 r_1_1 vr_1_1 hS hL_18 hM) ?_
     rintro _ h_23 ⟨F_35, r_0_6, r_1_6, vr_1_6, rfl, hk, hS, _, hM⟩
     obtain ⟨hS, hk⟩ := hZ_18.back hk hS
     generalize (fun bz_ => F_35 bz_ ∧ ¬ (Ow.own 46 2 e_api_Branch vr_1_1 r_1_1).foot bz_) = F_36 at hS hk
     replace hK := hK.trans hk
     replace hL_t_Links := hL_t_Links.kp hk
     replace hG_0 := hG_0.kp hk
     replace hE_gvS := hE_gvS.kp hk
     replace hG_1 := hG_1.kp hk
     replace hE_gvR := hE_gvR.kp hk
     replace hG_2 := hG_2.kp hk
     replace hG_5 := hG_5.kp hk
     refine HA.one (k := 3) ⟨(hS.box 2 rfl), (Go.Wk.at_nil _ _)⟩ (by kernel_rfl) ?_
     replace hS : St F_36 (Ow.own 46 2 e_api_Branch vr_1_6 r_1_6 :: Ow.own 46 2 e_api_Branch vr_1_1 r_1_1 :: Ow.box b_1 24 #[.int .i64 r_0_1, vr_1_1] :: fr) h_23 := hS.perm2 [1, 0, 2] 3 rfl rfl
     obtain ⟨F_37, hS, hk, hL_19⟩ := hS.freezeOwn
     replace hK := hK.trans hk
     replace hL_t_Links := hL_t_Links.kp hk
     replace hG_0 := hG_0.kp hk
     replace hE_gvS := hE_gvS.kp hk
     replace hG_1 := hG_1.kp hk
     replace hE_gvR := hE_gvR.kp hk
     replace hG_2 := hG_2.kp hk
     replace hG_5 := hG_5.kp hk
     refine HS.call rfl (want_none) rfl (ec en_24 rfl rfl) (tree_Next_walk (fr := (Ow.own 46 2 e_api_Branch vr_1_1 r_1_1 :: Ow.box b_1 24 #[.int .i64 r_0_1, vr_1_1] :: fr)) r_0_6 r_1_6 n vr_1_6 hS hL_19 hM) ?_
     rintro vr_5 h_24 ⟨F_38, r_12, _, rfl, hk, hS, _, hL_20, hM⟩
     replace hK := hK.trans hk
     replace hL_t_Links := hL_t_Links.kp hk
     replace hG_0 := hG_0.kp hk
     replace hE_gvS := hE_gvS.kp hk
     replace hG_1 := hG_1.kp hk
     replace hE_gvR := hE_gvR.kp hk
     replace hG_2 := hG_2.kp hk
     replace hG_5 := hG_5.kp hk
     refine HA.one (k := 6) ⟨(hS.box 1 rfl), (Go.Wk.at_nil _ _)⟩ (by kernel_rfl) ?_
     have hZ_19 := hS
     have hkz_19 := (hS.freeze).2
     replace hS := hS.freeze.1
     have hL_21 : SliceF (fun bz_ => F_38 bz_ ∨ (Ow.own 46 2 e_api_Branch vr_1_1 r_1_1).foot bz_) h_24 2 e_api_Branch vr_1_1 r_1_1 := ⟨(hZ_19.own 0 rfl).slice, fun _ b hb => .inr hb⟩
     refine HS.call rfl (want_none) rfl (ec en_25 rfl rfl) (ref32_Next_walk (fr := (Ow.box b_1 24 #[.int .i64 r_0_1, vr_1_1] :: fr)) r_0_1 r_1_1 n vr_1_1 hS hL_21 hM) ?_
     rintro vr_6 h_25 ⟨F_39, r_13, _, rfl, hk, hS, _, hM⟩
     obtain ⟨hS, hk⟩ := hZ_19.back hk hS
     generalize (fun bz_ => F_39 bz_ ∧ ¬ (Ow.own 46 2 e_api_Branch vr_1_1 r_1_1).foot bz_) = F_40 at hS hk
     replace hK := hK.trans hk
     replace hL_t_Links := hL_t_Links.kp hk
     replace hG_0 := hG_0.kp hk
     replace hE_gvS := hE_gvS.kp hk
     replace hG_1 := hG_1.kp hk
     replace hE_gvR := hE_gvR.kp hk
     replace hG_2 := hG_2.kp hk
     replace hG_5 := hG_5.kp hk
     replace hL_20 := hL_20.kp hk
     refine HA.one (k := 7) ⟨(hS.box 2 rfl), (Go.Wk.at_nil _ _)⟩ (by kernel_rfl) ?_
     replace hS : St F_40 (Ow.own 3 1 encI vr_6 r_13 :: Ow.own 46 2 e_api_Branch vr_1_1 r_1_1 :: Ow.box b_1 24 #[.int .i64 r_0_1, vr_1_1] :: fr) h_25 := hS.perm2 [1, 0, 2] 3 rfl rfl
     have hZ_20 := hS
     have hkz_20 := (hS.freeze).2
     replace hS := hS.freeze.1
     have hL_22 : SliceF (fun bz_ => F_40 bz_ ∨ (Ow.own 3 1 encI vr_6 r_13).foot bz_) h_25 1 encI vr_6 r_13 := ⟨(hZ_20.own 0 rfl).slice, fun _ b hb => .inr hb⟩
     refine HS.call rfl (want_none) rfl (ec en_22 rfl rfl) (ref32_SameInts_walk (fr := (Ow.own 46 2 e_api_Branch vr_1_1 r_1_1 :: Ow.box b_1 24 #[.int .i64 r_0_1, vr_1_1] :: fr)) r_12 r_13 vr_5 vr_6 hS (hL_20.kp hkz_20) hL_22 hM) ?_
     rintro _ h_26 ⟨F_41, r_14, rfl, hk, hS, _, _, hM⟩
     obtain ⟨hS, hk⟩ := hZ_20.back hk hS
     generalize (fun bz_ => F_41 bz_ ∧ ¬ (Ow.own 3 1 encI vr_6 r_13).foot bz_) = F_42 at hS hk
     replace hK := hK.trans hk
     replace hL_t_Links := hL_t_Links.kp hk
     replace hG_0 := hG_0.kp hk
     replace hE_gvS := hE_gvS.kp hk
     replace hG_1 := hG_1.kp hk
     replace hE_gvR := hE_gvR.kp hk
     replace hG_2 := hG_2.kp hk
     replace hG_5 := hG_5.kp hk
     refine HA.val (k := 8) (v := .bool (!r_14)) rfl rfl (by kernel_rfl) (by kernel_rfl) (want_none) rfl (fun _ c209 => q_not rfl) ?_
     refine HA.val (k := 9) (v := .bool (!r_14)) rfl rfl (by kernel_rfl) (by kernel_rfl) (want_none) rfl (fun _ c209 => q_move rfl) ?_
     rcases Bool.eq_false_or_eq_true (!r_14) with c_11 | c_11
     ·
      replace hM := hM.1 c_11
      refine HA.past (k := 10) rfl rfl (by kernel_rfl) (by kernel_rfl) (past_by rfl rfl c_11) rfl ?_
      refine HA.past (k := 12) rfl rfl (by kernel_rfl) (by kernel_rfl) (past_by rfl rfl c_11) rfl ?_
      refine HA.past (k := 14) rfl rfl (by kernel_rfl) (by kernel_rfl) (past_by rfl rfl c_11) rfl ?_
      refine HA.past (k := 15) rfl rfl (by kernel_rfl) (by kernel_rfl) (past_by rfl rfl c_11) rfl ?_
      refine HA.one (k := 11) ⟨(hS.box 2 rfl), (Go.Wk.at_nil _ _)⟩ (by kernel_rfl) ?_
      refine HS.past rfl (past_by rfl rfl c_11) rfl ?_
      refine HA.one (k := 13) ⟨(hS.box 2 rfl), (Go.Wk.at_nil _ _)⟩ (by kernel_rfl) ?_
      refine HS.past rfl (past_by rfl rfl c_11) rfl ?_
      refine HA.one (k := 16) ⟨(hS.box 2 rfl), (Go.Wk.at_nil _ _)⟩ (by kernel_rfl) ?_
      refine HS.past rfl (past_by rfl rfl c_11) rfl ?_
      refine HA.one (k := 17) ⟨(hS.box 2 rfl), (Go.Wk.at_nil _ _)⟩ (by kernel_rfl) ?_
      refine HS.past rfl (past_by rfl rfl c_11) rfl ?_
      refine HA.past (k := 18) rfl rfl (by kernel_rfl) (by kernel_rfl) (past_by rfl rfl c_11) rfl ?_
      refine HA.val (k := 19) (v := .bool true) rfl rfl (by kernel_rfl) (by kernel_rfl) (want_none) rfl (fun _ c209 => q_pickK true rfl c_11 rfl) ?_
      refine HA.val (k := 20) (v := .bool true) rfl rfl (by kernel_rfl) (by kernel_rfl) (want_none) rfl (fun _ c209 => q_move rfl) ?_
      refine HA.past (k := 21) rfl rfl (by kernel_rfl) (by kernel_rfl) (past_some rfl rfl) rfl ?_
      refine HA.past (k := 24) rfl rfl (by kernel_rfl) (by kernel_rfl) (past_some rfl rfl) rfl ?_
      refine HA.one (k := 22) ⟨(hS.box 2 rfl), (Go.Wk.at_nil _ _)⟩ (by kernel_rfl) ?_
      refine HS.past rfl (past_some rfl rfl) rfl ?_
      refine HA.one (k := 23) ⟨(hS.box 2 rfl), (Go.Wk.at_nil _ _)⟩ (by kernel_rfl) ?_
      refine HS.past rfl (past_some rfl rfl) rfl ?_
      refine HA.one (k := 25) ⟨(hS.box 2 rfl), (Go.Wk.at_nil _ _)⟩ (by kernel_rfl) ?_
      refine HS.past rfl (past_some rfl rfl) rfl ?_
      refine HA.one (k := 26) ⟨(hS.box 2 rfl), (Go.Wk.at_nil _ _)⟩ (by kernel_rfl) ?_
      refine HS.past rfl (past_some rfl rfl) rfl ?_
      refine HA.past (k := 27) rfl rfl (by kernel_rfl) (by kernel_rfl) (past_some rfl rfl) rfl ?_
      refine HA.val (k := 28) (v := .bool true) rfl rfl (by kernel_rfl) (by kernel_rfl) (want_none) rfl (fun _ c209 => q_pick rfl rfl) ?_
      refine HA.nil ⟨(hS.box 2 rfl), (Go.Wk.at_nil _ _)⟩ (by kernel_rfl) (thenQ_normal (?_))
      replace hS : St F_42 (Ow.box b_1 24 #[.int .i64 r_0_1, vr_1_1] :: Ow.own 46 2 e_api_Branch vr_1_1 r_1_1 :: fr) h_26 := hS.perm2 [2, 1] 3 rfl rfl
      exact ⟨F_42, true, rfl, rfl, rfl, hK, hS, hL_t_Links, hG_0, hE_gvS, hG_1, hE_gvR, hG_2, hG_5, hM⟩
     ·
      replace hM := hM.2 c_11
      refine HA.val (k := 10) (v := .agg #[.int .i64 r_0_1, vr_1_1]) rfl rfl (by kernel_rfl) (by kernel_rfl) (want_by rfl rfl c_11) rfl (fun _ c209 => q_loadAgg (cs := [.int .i64 r_0_1, vr_1_1]) ta_24 rfl rfl (Blk.cells (k := 2) c209 rfl)) ?_
      refine HA.val (k := 12) (v := .int .i64 n) rfl rfl (by kernel_rfl) (by kernel_rfl) (want_by rfl rfl c_11) rfl (fun _ c209 => q_move rfl) ?_
      refine HA.val (k := 14) (v := .agg #[.int .i64 r_0_1, vr_1_1]) rfl rfl (by kernel_rfl) (by kernel_rfl) (want_by rfl rfl c_11) rfl (fun _ c209 => q_loadAgg (cs := [.int .i64 r_0_1, vr_1_1]) ta_24 rfl rfl (Blk.cells (k := 2) c209 rfl)) ?_
      refine HA.val (k := 15) (v := .int .i64 n) rfl rfl (by kernel_rfl) (by kernel_rfl) (want_by rfl rfl c_11) rfl (fun _ c209 => q_move rfl) ?_
      refine HA.one (k := 11) ⟨(hS.box 2 rfl), (Go.Wk.at_nil _ _)⟩ (by kernel_rfl) ?_
      replace hS : St F_42 (Ow.own 46 2 e_api_Branch vr_1_1 r_1_1 :: Ow.own 3 1 encI vr_6 r_13 :: Ow.box b_1 24 #[.int .i64 r_0_1, vr_1_1] :: fr) h_26 := hS.perm2 [1, 0, 2] 3 rfl rfl
      have hZ_21 := hS
      have hkz_21 := (hS.freeze).2
      replace hS := hS.freeze.1
      have hL_23 : SliceF (fun bz_ => F_42 bz_ ∨ (Ow.own 46 2 e_api_Branch vr_1_1 r_1_1).foot bz_) h_26 2 e_api_Branch vr_1_1 r_1_1 := ⟨(hZ_21.own 0 rfl).slice, fun _ b hb => .inr hb⟩
      refine HS.call rfl (want_by rfl rfl c_11) rfl (ec en_8 rfl rfl) (law32_Few_walk (fr := (Ow.own 3 1 encI vr_6 r_13 :: Ow.box b_1 24 #[.int .i64 r_0_1, vr_1_1] :: fr)) r_0_1 r_1_1 vr_1_1 hS hL_23 hM) ?_
      rintro _ h_27 ⟨F_43, r_0_7, r_1_7, vr_1_7, rfl, hk, hS, _, hM⟩
      obtain ⟨hS, hk⟩ := hZ_21.back hk hS
      generalize (fun bz_ => F_43 bz_ ∧ ¬ (Ow.own 46 2 e_api_Branch vr_1_1 r_1_1).foot bz_) = F_44 at hS hk
      replace hK := hK.trans hk
      replace hL_t_Links := hL_t_Links.kp hk
      replace hG_0 := hG_0.kp hk
      replace hE_gvS := hE_gvS.kp hk
      replace hG_1 := hG_1.kp hk
      replace hE_gvR := hE_gvR.kp hk
      replace hG_2 := hG_2.kp hk
      replace hG_5 := hG_5.kp hk
      refine HA.one (k := 13) ⟨(hS.box 3 rfl), (Go.Wk.at_nil _ _)⟩ (by kernel_rfl) ?_
      replace hS : St F_44 (Ow.own 46 2 e_api_Branch vr_1_7 r_1_7 :: Ow.own 46 2 e_api_Branch vr_1_1 r_1_1 :: Ow.own 3 1 encI vr_6 r_13 :: Ow.box b_1 24 #[.int .i64 r_0_1, vr_1_1] :: fr) h_27 := hS.perm2 [1, 0, 2, 3] 4 rfl rfl
      have hZ_22 := hS
      have hkz_22 := (hS.freeze).2
      replace hS := hS.freeze.1
      have hL_24 : SliceF (fun bz_ => F_44 bz_ ∨ (Ow.own 46 2 e_api_Branch vr_1_7 r_1_7).foot bz_) h_27 2 e_api_Branch vr_1_7 r_1_7 := ⟨(hZ_22.own 0 rfl).slice, fun _ b hb => .inr hb⟩
      refine HS.call rfl (want_by rfl rfl c_11) rfl (ec en_26 rfl rfl) (tree_Path_walk (fr := (Ow.own 46 2 e_api_Branch vr_1_1 r_1_1 :: Ow.own 3 1 encI vr_6 r_13 :: Ow.box b_1 24 #[.int .i64 r_0_1, vr_1_1] :: fr)) r_0_7 r_1_7 n vr_1_7 hS hL_24 hM) ?_
      rintro vr_7 h_28 ⟨F_45, r_15, _, rfl, hk, hS, _, hM⟩
      obtain ⟨hS, hk⟩ := hZ_22.back hk hS
      generalize (fun bz_ => F_45 bz_ ∧ ¬ (Ow.own 46 2 e_api_Branch vr_1_7 r_1_7).foot bz_) = F_46 at hS hk
      replace hK := hK.trans hk
      replace hL_t_Links := hL_t_Links.kp hk
      replace hG_0 := hG_0.kp hk
      replace hE_gvS := hE_gvS.kp hk
      replace hG_1 := hG_1.kp hk
      replace hE_gvR := hE_gvR.kp hk
      replace hG_2 := hG_2.kp hk
      replace hG_5 := hG_5.kp hk
      refine HA.one (k := 16) ⟨(hS.box 4 rfl), (Go.Wk.at_nil _ _)⟩ (by kernel_rfl) ?_
      replace hS : St F_46 (Ow.own 46 2 e_api_Branch vr_1_1 r_1_1 :: Ow.own 46 2 e_api_Branch vr_1_7 r_1_7 :: Ow.own 3 1 encI vr_7 r_15 :: Ow.own 3 1 encI vr_6 r_13 :: Ow.box b_1 24 #[.int .i64 r_0_1, vr_1_1] :: fr) h_28 := hS.perm2 [2, 0, 1, 3, 4] 5 rfl rfl
      have hZ_23 := hS
      have hkz_23 := (hS.freeze).2
      replace hS := hS.freeze.1
      have hL_25 : SliceF (fun bz_ => F_46 bz_ ∨ (Ow.own 46 2 e_api_Branch vr_1_1 r_1_1).foot bz_) h_28 2 e_api_Branch vr_1_1 r_1_1 := ⟨(hZ_23.own 0 rfl).slice, fun _ b hb => .inr hb⟩
      refine HS.call rfl (want_by rfl rfl c_11) rfl (ec en_27 rfl rfl) (ref32_Path_walk (fr := (Ow.own 46 2 e_api_Branch vr_1_7 r_1_7 :: Ow.own 3 1 encI vr_7 r_15 :: Ow.own 3 1 encI vr_6 r_13 :: Ow.box b_1 24 #[.int .i64 r_0_1, vr_1_1] :: fr)) r_0_1 r_1_1 n vr_1_1 hS hL_25 hM) ?_
      rintro vr_8 h_29 ⟨F_47, r_16, _, rfl, hk, hS, _, hM⟩
      obtain ⟨hS, hk⟩ := hZ_23.back hk hS
      generalize (fun bz_ => F_47 bz_ ∧ ¬ (Ow.own 46 2 e_api_Branch vr_1_1 r_1_1).foot bz_) = F_48 at hS hk
      replace hK := hK.trans hk
      replace hL_t_Links := hL_t_Links.kp hk
      replace hG_0 := hG_0.kp hk
      replace hE_gvS := hE_gvS.kp hk
      replace hG_1 := hG_1.kp hk
      replace hE_gvR := hE_gvR.kp hk
      replace hG_2 := hG_2.kp hk
      replace hG_5 := hG_5.kp hk
      refine HA.one (k := 17) ⟨(hS.box 5 rfl), (Go.Wk.at_nil _ _)⟩ (by kernel_rfl) ?_
      replace hS : St F_48 (Ow.own 3 1 encI vr_7 r_15 :: Ow.own 46 2 e_api_Branch vr_1_1 r_1_1 :: Ow.own 3 1 encI vr_8 r_16 :: Ow.own 46 2 e_api_Branch vr_1_7 r_1_7 :: Ow.own 3 1 encI vr_6 r_13 :: Ow.box b_1 24 #[.int .i64 r_0_1, vr_1_1] :: fr) h_29 := hS.perm2 [3, 0, 1, 2, 4, 5] 6 rfl rfl
      have hZ_24 := hS
      have hkz_24 := (hS.freeze).2
      replace hS := hS.freeze.1
      have hL_26 : SliceF (fun bz_ => F_48 bz_ ∨ (Ow.own 3 1 encI vr_7 r_15).foot bz_) h_29 1 encI vr_7 r_15 := ⟨(hZ_24.own 0 rfl).slice, fun _ b hb => .inr hb⟩
      replace hS : St (fun bz_ => F_48 bz_ ∨ (Ow.own 3 1 encI vr_7 r_15).foot bz_) (Ow.own 3 1 encI vr_8 r_16 :: Ow.own 46 2 e_api_Branch vr_1_1 r_1_1 :: Ow.own 46 2 e_api_Branch vr_1_7 r_1_7 :: Ow.own 3 1 encI vr_6 r_13 :: Ow.box b_1 24 #[.int .i64 r_0_1, vr_1_1] :: fr) h_29 := hS.perm2 [1, 0, 2, 3, 4] 5 rfl rfl
      have hZ_25 := hS
      have hkz_25 := (hS.freeze).2
      replace hS := hS.freeze.1
      have hL_27 : SliceF (fun bz_ => (fun bz_ => F_48 bz_ ∨ (Ow.own 3 1 encI vr_7 r_15).foot bz_) bz_ ∨ (Ow.own 3 1 encI vr_8 r_16).foot bz_) h_29 1 encI vr_8 r_16 := ⟨(hZ_25.own 0 rfl).slice, fun _ b hb => .inr hb⟩
      refine HS.call rfl (want_by rfl rfl c_11) rfl (ec en_22 rfl rfl) (ref32_SameInts_walk (fr := (Ow.own 46 2 e_api_Branch vr_1_1 r_1_1 :: Ow.own 46 2 e_api_Branch vr_1_7 r_1_7 :: Ow.own 3 1 encI vr_6 r_13 :: Ow.box b_1 24 #[.int .i64 r_0_1, vr_1_1] :: fr)) r_15 r_16 vr_7 vr_8 hS (hL_26.kp hkz_25) hL_27 hM) ?_
      rintro _ h_30 ⟨F_49, r_17, rfl, hk, hS, _, _, hM⟩
      obtain ⟨hS, hk⟩ := hZ_25.back hk hS
      obtain ⟨hS, hk⟩ := hZ_24.back hk hS
      generalize (fun bz_ => (fun bz_ => F_49 bz_ ∧ ¬ (Ow.own 3 1 encI vr_8 r_16).foot bz_) bz_ ∧ ¬ (Ow.own 3 1 encI vr_7 r_15).foot bz_) = F_50 at hS hk
      replace hK := hK.trans hk
      replace hL_t_Links := hL_t_Links.kp hk
      replace hG_0 := hG_0.kp hk
      replace hE_gvS := hE_gvS.kp hk
      replace hG_1 := hG_1.kp hk
      replace hE_gvR := hE_gvR.kp hk
      replace hG_2 := hG_2.kp hk
      replace hG_5 := hG_5.kp hk
      refine HA.val (k := 18) (v := .bool (!r_17)) rfl rfl (by kernel_rfl) (by kernel_rfl) (want_by rfl rfl c_11) rfl (fun _ c209 => q_not rfl) ?_
      refine HA.val (k := 19) (v := .bool (!r_17)) rfl rfl (by kernel_rfl) (by kernel_rfl) (want_none) rfl (fun _ c209 => q_pickK false rfl c_11 rfl) ?_
      refine HA.val (k := 20) (v := .bool (!r_17)) rfl rfl (by kernel_rfl) (by kernel_rfl) (want_none) rfl (fun _ c209 => q_move rfl) ?_
      rcases Bool.eq_false_or_eq_true (!r_17) with c_12 | c_12
      ·
       replace hM := hM.1 c_12
       refine HA.past (k := 21) rfl rfl (by kernel_rfl) (by kernel_rfl) (past_by rfl rfl c_12) rfl ?_
       refine HA.past (k := 24) rfl rfl (by kernel_rfl) (by kernel_rfl) (past_by rfl rfl c_12) rfl ?_
       refine HA.one (k := 22) ⟨(hS.box 5 rfl), (Go.Wk.at_nil _ _)⟩ (by kernel_rfl) ?_
       refine HS.past rfl (past_by rfl rfl c_12) rfl ?_
       refine HA.one (k := 23) ⟨(hS.box 5 rfl), (Go.Wk.at_nil _ _)⟩ (by kernel_rfl) ?_
       refine HS.past rfl (past_by rfl rfl c_12) rfl ?_
       refine HA.one (k := 25) ⟨(hS.box 5 rfl), (Go.Wk.at_nil _ _)⟩ (by kernel_rfl) ?_
       refine HS.past rfl (past_by rfl rfl c_12) rfl ?_
       refine HA.one (k := 26) ⟨(hS.box 5 rfl), (Go.Wk.at_nil _ _)⟩ (by kernel_rfl) ?_
       refine HS.past rfl (past_by rfl rfl c_12) rfl ?_
       refine HA.past (k := 27) rfl rfl (by kernel_rfl) (by kernel_rfl) (past_by rfl rfl c_12) rfl ?_
       refine HA.val (k := 28) (v := .bool true) rfl rfl (by kernel_rfl) (by kernel_rfl) (want_none) rfl (fun _ c209 => q_pickK true rfl c_12 rfl) ?_
       refine HA.nil ⟨(hS.box 5 rfl), (Go.Wk.at_nil _ _)⟩ (by kernel_rfl) (thenQ_normal (?_))
       replace hS : St F_50 (Ow.box b_1 24 #[.int .i64 r_0_1, vr_1_1] :: Ow.own 46 2 e_api_Branch vr_1_1 r_1_1 :: fr) h_30 := hS.perm2 [5, 2] 6 rfl rfl
       exact ⟨F_50, true, rfl, rfl, rfl, hK, hS, hL_t_Links, hG_0, hE_gvS, hG_1, hE_gvR, hG_2, hG_5, hM⟩
      ·
       replace hM := hM.2 c_12
       refine HA.val (k := 21) (v := .agg #[.int .i64 r_0_1, vr_1_1]) rfl rfl (by kernel_rfl) (by kernel_rfl) (want_by rfl rfl c_12) rfl (fun _ c209 => q_loadAgg (cs := [.int .i64 r_0_1, vr_1_1]) ta_24 rfl rfl (Blk.cells (k := 2) c209 rfl)) ?_
       refine HA.val (k := 24) (v := .agg #[.int .i64 r_0_1, vr_1_1]) rfl rfl (by kernel_rfl) (by kernel_rfl) (want_by rfl rfl c_12) rfl (fun _ c209 => q_loadAgg (cs := [.int .i64 r_0_1, vr_1_1]) ta_24 rfl rfl (Blk.cells (k := 2) c209 rfl)) ?_
       refine HA.one (k := 22) ⟨(hS.box 5 rfl), (Go.Wk.at_nil _ _)⟩ (by kernel_rfl) ?_
       replace hS : St F_50 (Ow.own 46 2 e_api_Branch vr_1_1 r_1_1 :: Ow.own 3 1 encI vr_7 r_15 :: Ow.own 3 1 encI vr_8 r_16 :: Ow.own 46 2 e_api_Branch vr_1_7 r_1_7 :: Ow.own 3 1 encI vr_6 r_13 :: Ow.box b_1 24 #[.int .i64 r_0_1, vr_1_1] :: fr) h_30 := hS.perm2 [2, 0, 1, 3, 4, 5] 6 rfl rfl
       have hZ_26 := hS
       have hkz_26 := (hS.freeze).2
       replace hS := hS.freeze.1
       have hL_28 : SliceF (fun bz_ => F_50 bz_ ∨ (Ow.own 46 2 e_api_Branch vr_1_1 r_1_1).foot bz_) h_30 2 e_api_Branch vr_1_1 r_1_1 := ⟨(hZ_26.own 0 rfl).slice, fun _ b hb => .inr hb⟩
       refine HS.call rfl (want_by rfl rfl c_12) rfl (ec en_8 rfl rfl) (law32_Few_walk (fr := (Ow.own 3 1 encI vr_7 r_15 :: Ow.own 3 1 encI vr_8 r_16 :: Ow.own 46 2 e_api_Branch vr_1_7 r_1_7 :: Ow.own 3 1 encI vr_6 r_13 :: Ow.box b_1 24 #[.int .i64 r_0_1, vr_1_1] :: fr)) r_0_1 r_1_1 vr_1_1 hS hL_28 hM) ?_
       rintro _ h_31 ⟨F_51, r_0_8, r_1_8, vr_1_8, rfl, hk, hS, _, hM⟩
       obtain ⟨hS, hk⟩ := hZ_26.back hk hS
       generalize (fun bz_ => F_51 bz_ ∧ ¬ (Ow.own 46 2 e_api_Branch vr_1_1 r_1_1).foot bz_) = F_52 at hS hk
       replace hK := hK.trans hk
       replace hL_t_Links := hL_t_Links.kp hk
       replace hG_0 := hG_0.kp hk
       replace hE_gvS := hE_gvS.kp hk
       replace hG_1 := hG_1.kp hk
       replace hE_gvR := hE_gvR.kp hk
       replace hG_2 := hG_2.kp hk
       replace hG_5 := hG_5.kp hk
       refine HA.one (k := 23) ⟨(hS.box 6 rfl), (Go.Wk.at_nil _ _)⟩ (by kernel_rfl) ?_
       replace hS : St F_52 (Ow.own 46 2 e_api_Branch vr_1_8 r_1_8 :: Ow.own 46 2 e_api_Branch vr_1_1 r_1_1 :: Ow.own 3 1 encI vr_7 r_15 :: Ow.own 3 1 encI vr_8 r_16 :: Ow.own 46 2 e_api_Branch vr_1_7 r_1_7 :: Ow.own 3 1 encI vr_6 r_13 :: Ow.box b_1 24 #[.int .i64 r_0_1, vr_1_1] :: fr) h_31 := hS.perm2 [1, 0, 2, 3, 4, 5, 6] 7 rfl rfl
       have hZ_27 := hS
       have hkz_27 := (hS.freeze).2
       replace hS := hS.freeze.1
       have hL_29 : SliceF (fun bz_ => F_52 bz_ ∨ (Ow.own 46 2 e_api_Branch vr_1_8 r_1_8).foot bz_) h_31 2 e_api_Branch vr_1_8 r_1_8 := ⟨(hZ_27.own 0 rfl).slice, fun _ b hb => .inr hb⟩
       refine HS.call rfl (want_by rfl rfl c_12) rfl (ec en_28 rfl rfl) (tree_Nodes_walk (fr := (Ow.own 46 2 e_api_Branch vr_1_1 r_1_1 :: Ow.own 3 1 encI vr_7 r_15 :: Ow.own 3 1 encI vr_8 r_16 :: Ow.own 46 2 e_api_Branch vr_1_7 r_1_7 :: Ow.own 3 1 encI vr_6 r_13 :: Ow.box b_1 24 #[.int .i64 r_0_1, vr_1_1] :: fr)) r_0_8 r_1_8 vr_1_8 hS hL_29 hM) ?_
       rintro vr_9 h_32 ⟨F_53, r_18, _, rfl, hk, hS, _, hM⟩
       obtain ⟨hS, hk⟩ := hZ_27.back hk hS
       generalize (fun bz_ => F_53 bz_ ∧ ¬ (Ow.own 46 2 e_api_Branch vr_1_8 r_1_8).foot bz_) = F_54 at hS hk
       replace hK := hK.trans hk
       replace hL_t_Links := hL_t_Links.kp hk
       replace hG_0 := hG_0.kp hk
       replace hE_gvS := hE_gvS.kp hk
       replace hG_1 := hG_1.kp hk
       replace hE_gvR := hE_gvR.kp hk
       replace hG_2 := hG_2.kp hk
       replace hG_5 := hG_5.kp hk
       refine HA.one (k := 25) ⟨(hS.box 7 rfl), (Go.Wk.at_nil _ _)⟩ (by kernel_rfl) ?_
       replace hS : St F_54 (Ow.own 46 2 e_api_Branch vr_1_1 r_1_1 :: Ow.own 46 2 e_api_Branch vr_1_8 r_1_8 :: Ow.own 3 1 encI vr_9 r_18 :: Ow.own 3 1 encI vr_7 r_15 :: Ow.own 3 1 encI vr_8 r_16 :: Ow.own 46 2 e_api_Branch vr_1_7 r_1_7 :: Ow.own 3 1 encI vr_6 r_13 :: Ow.box b_1 24 #[.int .i64 r_0_1, vr_1_1] :: fr) h_32 := hS.perm2 [2, 0, 1, 3, 4, 5, 6, 7] 8 rfl rfl
       have hZ_28 := hS
       have hkz_28 := (hS.freeze).2
       replace hS := hS.freeze.1
       have hL_30 : SliceF (fun bz_ => F_54 bz_ ∨ (Ow.own 46 2 e_api_Branch vr_1_1 r_1_1).foot bz_) h_32 2 e_api_Branch vr_1_1 r_1_1 := ⟨(hZ_28.own 0 rfl).slice, fun _ b hb => .inr hb⟩
       refine HS.call rfl (want_by rfl rfl c_12) rfl (ec en_17 rfl rfl) (ref32_Nodes_walk (fr := (Ow.own 46 2 e_api_Branch vr_1_8 r_1_8 :: Ow.own 3 1 encI vr_9 r_18 :: Ow.own 3 1 encI vr_7 r_15 :: Ow.own 3 1 encI vr_8 r_16 :: Ow.own 46 2 e_api_Branch vr_1_7 r_1_7 :: Ow.own 3 1 encI vr_6 r_13 :: Ow.box b_1 24 #[.int .i64 r_0_1, vr_1_1] :: fr)) r_0_1 r_1_1 vr_1_1 hS hL_30 hM) ?_
       rintro vr_10 h_33 ⟨F_55, r_19, _, rfl, hk, hS, _, hM⟩
       obtain ⟨hS, hk⟩ := hZ_28.back hk hS
       generalize (fun bz_ => F_55 bz_ ∧ ¬ (Ow.own 46 2 e_api_Branch vr_1_1 r_1_1).foot bz_) = F_56 at hS hk
       replace hK := hK.trans hk
       replace hL_t_Links := hL_t_Links.kp hk
       replace hG_0 := hG_0.kp hk
       replace hE_gvS := hE_gvS.kp hk
       replace hG_1 := hG_1.kp hk
       replace hE_gvR := hE_gvR.kp hk
       replace hG_2 := hG_2.kp hk
       replace hG_5 := hG_5.kp hk
       refine HA.one (k := 26) ⟨(hS.box 8 rfl), (Go.Wk.at_nil _ _)⟩ (by kernel_rfl) ?_
       replace hS : St F_56 (Ow.own 3 1 encI vr_9 r_18 :: Ow.own 46 2 e_api_Branch vr_1_1 r_1_1 :: Ow.own 3 1 encI vr_10 r_19 :: Ow.own 46 2 e_api_Branch vr_1_8 r_1_8 :: Ow.own 3 1 encI vr_7 r_15 :: Ow.own 3 1 encI vr_8 r_16 :: Ow.own 46 2 e_api_Branch vr_1_7 r_1_7 :: Ow.own 3 1 encI vr_6 r_13 :: Ow.box b_1 24 #[.int .i64 r_0_1, vr_1_1] :: fr) h_33 := hS.perm2 [3, 0, 1, 2, 4, 5, 6, 7, 8] 9 rfl rfl
       have hZ_29 := hS
       have hkz_29 := (hS.freeze).2
       replace hS := hS.freeze.1
       have hL_31 : SliceF (fun bz_ => F_56 bz_ ∨ (Ow.own 3 1 encI vr_9 r_18).foot bz_) h_33 1 encI vr_9 r_18 := ⟨(hZ_29.own 0 rfl).slice, fun _ b hb => .inr hb⟩
       replace hS : St (fun bz_ => F_56 bz_ ∨ (Ow.own 3 1 encI vr_9 r_18).foot bz_) (Ow.own 3 1 encI vr_10 r_19 :: Ow.own 46 2 e_api_Branch vr_1_1 r_1_1 :: Ow.own 46 2 e_api_Branch vr_1_8 r_1_8 :: Ow.own 3 1 encI vr_7 r_15 :: Ow.own 3 1 encI vr_8 r_16 :: Ow.own 46 2 e_api_Branch vr_1_7 r_1_7 :: Ow.own 3 1 encI vr_6 r_13 :: Ow.box b_1 24 #[.int .i64 r_0_1, vr_1_1] :: fr) h_33 := hS.perm2 [1, 0, 2, 3, 4, 5, 6, 7] 8 rfl rfl
       have hZ_30 := hS
       have hkz_30 := (hS.freeze).2
       replace hS := hS.freeze.1
       have hL_32 : SliceF (fun bz_ => (fun bz_ => F_56 bz_ ∨ (Ow.own 3 1 encI vr_9 r_18).foot bz_) bz_ ∨ (Ow.own 3 1 encI vr_10 r_19).foot bz_) h_33 1 encI vr_10 r_19 := ⟨(hZ_30.own 0 rfl).slice, fun _ b hb => .inr hb⟩
       refine HS.call rfl (want_by rfl rfl c_12) rfl (ec en_22 rfl rfl) (ref32_SameInts_walk (fr := (Ow.own 46 2 e_api_Branch vr_1_1 r_1_1 :: Ow.own 46 2 e_api_Branch vr_1_8 r_1_8 :: Ow.own 3 1 encI vr_7 r_15 :: Ow.own 3 1 encI vr_8 r_16 :: Ow.own 46 2 e_api_Branch vr_1_7 r_1_7 :: Ow.own 3 1 encI vr_6 r_13 :: Ow.box b_1 24 #[.int .i64 r_0_1, vr_1_1] :: fr)) r_18 r_19 vr_9 vr_10 hS (hL_31.kp hkz_30) hL_32 hM) ?_
       rintro _ h_34 ⟨F_57, r_20, rfl, hk, hS, _, _, hM⟩
       obtain ⟨hS, hk⟩ := hZ_30.back hk hS
       obtain ⟨hS, hk⟩ := hZ_29.back hk hS
       generalize (fun bz_ => (fun bz_ => F_57 bz_ ∧ ¬ (Ow.own 3 1 encI vr_10 r_19).foot bz_) bz_ ∧ ¬ (Ow.own 3 1 encI vr_9 r_18).foot bz_) = F_58 at hS hk
       replace hK := hK.trans hk
       replace hL_t_Links := hL_t_Links.kp hk
       replace hG_0 := hG_0.kp hk
       replace hE_gvS := hE_gvS.kp hk
       replace hG_1 := hG_1.kp hk
       replace hE_gvR := hE_gvR.kp hk
       replace hG_2 := hG_2.kp hk
       replace hG_5 := hG_5.kp hk
       refine HA.val (k := 27) (v := .bool (!r_20)) rfl rfl (by kernel_rfl) (by kernel_rfl) (want_by rfl rfl c_12) rfl (fun _ c209 => q_not rfl) ?_
       refine HA.val (k := 28) (v := .bool (!r_20)) rfl rfl (by kernel_rfl) (by kernel_rfl) (want_none) rfl (fun _ c209 => q_pickK false rfl c_12 rfl) ?_
       refine HA.nil ⟨(hS.box 8 rfl), (Go.Wk.at_nil _ _)⟩ (by kernel_rfl) (thenQ_normal (?_))
       replace hS : St F_58 (Ow.box b_1 24 #[.int .i64 r_0_1, vr_1_1] :: Ow.own 46 2 e_api_Branch vr_1_1 r_1_1 :: fr) h_34 := hS.perm2 [8, 2] 9 rfl rfl
       exact ⟨F_58, !r_20, rfl, rfl, rfl, hK, hS, hL_t_Links, hG_0, hE_gvS, hG_1, hE_gvR, hG_2, hG_5, hM⟩
    ·
     rintro f_3 h_35 ⟨F_59, b_3, e2, e4, e103, hK, hS, hL_t_Links, hG_0, hE_gvS, hG_1, hE_gvR, hG_2, hG_5, hM⟩
     unfold law32_TreeTells_j3 at hM
     refine HW.fr [(2, .pointer (some ⟨b_1, 0, none⟩)), (4, .bool false), (103, .bool b_3)] ⟨e2, e4, e103, trivial⟩ ?_
     refine HW.cond b_3 rfl (fun c_13 => ?_) (fun c_13 => ?_)
     ·
      replace hM := hM.1 c_13
      refine HW.seq ?_
      refine HW.region ?_
      refine oA (.bool false) rfl rfl ?_
      refine HO.nil (thenQ_normal (?_))
      refine HW.ret (thenQ_ret (?_))
      refine ⟨.inr rfl, .bool false, res1 rfl (rt rfl), ?_⟩
      replace hS : St F_59 (fr) h_35 := hS.perm2 [] 2 rfl rfl
      exact ⟨F_59, false, rfl, hK, hS, hL_t_Links, hG_0, hE_gvS, hG_1, hE_gvR, hG_2, hG_5, hM⟩
     ·
      replace hM := hM.2 c_13
      refine HW.skip (thenQ_normal (?_))
      refine HW.seq ?_
      refine HW.regionA 26 mixed (fun h => (Blk h b_1 (.cells #[.int .i64 r_0_1, vr_1_1] 24 (0, 0)))) [] (by kernel_rfl) ?_
      refine HA.val (k := 0) (v := .agg #[.int .i64 r_0_1, vr_1_1]) rfl rfl (by kernel_rfl) (by kernel_rfl) (want_none) rfl (fun _ c211 => q_loadAgg (cs := [.int .i64 r_0_1, vr_1_1]) ta_24 rfl rfl (Blk.cells (k := 2) c211 rfl)) ?_
      refine HA.val (k := 3) (v := .agg #[.int .i64 r_0_1, vr_1_1]) rfl rfl (by kernel_rfl) (by kernel_rfl) (want_none) rfl (fun _ c211 => q_loadAgg (cs := [.int .i64 r_0_1, vr_1_1]) ta_24 rfl rfl (Blk.cells (k := 2) c211 rfl)) ?_
      refine HA.one (k := 1) ⟨(hS.box 0 rfl), (Go.Wk.at_nil _ _)⟩ (by kernel_rfl) ?_
      replace hS : St F_59 (Ow.own 46 2 e_api_Branch vr_1_1 r_1_1 :: Ow.box b_1 24 #[.int .i64 r_0_1, vr_1_1] :: fr) h_35 := hS.perm2 [1, 0] 2 rfl rfl
      have hZ_31 := hS
      have hkz_31 := (hS.freeze).2
      replace hS := hS.freeze.1
      have hL_33 : SliceF (fun bz_ => F_59 bz_ ∨ (Ow.own 46 2 e_api_Branch vr_1_1 r_1_1).foot bz_) h_35 2 e_api_Branch vr_1_1 r_1_1 := ⟨(hZ_31.own 0 rfl).slice, fun _ b hb => .inr hb⟩
      refine HS.call rfl (want_none) rfl (ec en_8 rfl rfl) (law32_Few_walk (fr := (Ow.box b_1 24 #[.int .i64 r_0_1, vr_1_1] :: fr)) r_0_1 r_1_1 vr_1_1 hS hL_33 hM) ?_
      rintro _ h_36 ⟨F_60, r_0_9, r_1_9, vr_1_9, rfl, hk, hS, _, hM⟩
      obtain ⟨hS, hk⟩ := hZ_31.back hk hS
      generalize (fun bz_ => F_60 bz_ ∧ ¬ (Ow.own 46 2 e_api_Branch vr_1_1 r_1_1).foot bz_) = F_61 at hS hk
      replace hK := hK.trans hk
      replace hL_t_Links := hL_t_Links.kp hk
      replace hG_0 := hG_0.kp hk
      replace hE_gvS := hE_gvS.kp hk
      replace hG_1 := hG_1.kp hk
      replace hE_gvR := hE_gvR.kp hk
      replace hG_2 := hG_2.kp hk
      replace hG_5 := hG_5.kp hk
      refine HA.one (k := 2) ⟨(hS.box 2 rfl), (Go.Wk.at_nil _ _)⟩ (by kernel_rfl) ?_
      replace hS : St F_61 (Ow.own 46 2 e_api_Branch vr_1_9 r_1_9 :: Ow.own 46 2 e_api_Branch vr_1_1 r_1_1 :: Ow.box b_1 24 #[.int .i64 r_0_1, vr_1_1] :: fr) h_36 := hS.perm2 [1, 0, 2] 3 rfl rfl
      have hZ_32 := hS
      have hkz_32 := (hS.freeze).2
      replace hS := hS.freeze.1
      have hL_34 : SliceF (fun bz_ => F_61 bz_ ∨ (Ow.own 46 2 e_api_Branch vr_1_9 r_1_9).foot bz_) h_36 2 e_api_Branch vr_1_9 r_1_9 := ⟨(hZ_32.own 0 rfl).slice, fun _ b hb => .inr hb⟩
      refine HS.call rfl (want_none) rfl (ec en_29 rfl rfl) (tree_Depth_walk (fr := (Ow.own 46 2 e_api_Branch vr_1_1 r_1_1 :: Ow.box b_1 24 #[.int .i64 r_0_1, vr_1_1] :: fr)) r_0_9 r_1_9 vr_1_9 hS hL_34 hM) ?_
      rintro _ h_37 ⟨F_62, r_21, rfl, hk, hS, _, hM⟩
      obtain ⟨hS, hk⟩ := hZ_32.back hk hS
      generalize (fun bz_ => F_62 bz_ ∧ ¬ (Ow.own 46 2 e_api_Branch vr_1_9 r_1_9).foot bz_) = F_63 at hS hk
      replace hK := hK.trans hk
      replace hL_t_Links := hL_t_Links.kp hk
      replace hG_0 := hG_0.kp hk
      replace hE_gvS := hE_gvS.kp hk
      replace hG_1 := hG_1.kp hk
      replace hE_gvR := hE_gvR.kp hk
      replace hG_2 := hG_2.kp hk
      replace hG_5 := hG_5.kp hk
      refine HA.one (k := 4) ⟨(hS.box 2 rfl), (Go.Wk.at_nil _ _)⟩ (by kernel_rfl) ?_
      replace hS : St F_63 (Ow.own 46 2 e_api_Branch vr_1_1 r_1_1 :: Ow.own 46 2 e_api_Branch vr_1_9 r_1_9 :: Ow.box b_1 24 #[.int .i64 r_0_1, vr_1_1] :: fr) h_37 := hS.perm2 [1, 0, 2] 3 rfl rfl
      have hZ_33 := hS
      have hkz_33 := (hS.freeze).2
      replace hS := hS.freeze.1
      have hL_35 : SliceF (fun bz_ => F_63 bz_ ∨ (Ow.own 46 2 e_api_Branch vr_1_1 r_1_1).foot bz_) h_37 2 e_api_Branch vr_1_1 r_1_1 := ⟨(hZ_33.own 0 rfl).slice, fun _ b hb => .inr hb⟩
      refine HS.call rfl (want_none) rfl (ec en_30 rfl rfl) (ref32_Depth_walk (fr := (Ow.own 46 2 e_api_Branch vr_1_9 r_1_9 :: Ow.box b_1 24 #[.int .i64 r_0_1, vr_1_1] :: fr)) r_0_1 r_1_1 vr_1_1 hS hL_35 hM) ?_
      rintro _ h_38 ⟨F_64, r_22, rfl, hk, hS, _, hM⟩
      obtain ⟨hS, hk⟩ := hZ_33.back hk hS
      generalize (fun bz_ => F_64 bz_ ∧ ¬ (Ow.own 46 2 e_api_Branch vr_1_1 r_1_1).foot bz_) = F_65 at hS hk
      replace hK := hK.trans hk
      replace hL_t_Links := hL_t_Links.kp hk
      replace hG_0 := hG_0.kp hk
      replace hE_gvS := hE_gvS.kp hk
      replace hG_1 := hG_1.kp hk
      replace hE_gvR := hE_gvR.kp hk
      replace hG_2 := hG_2.kp hk
      replace hG_5 := hG_5.kp hk
      refine HA.val (k := 5) (v := .bool (decide (r_21 = r_22))) rfl rfl (by kernel_rfl) (by kernel_rfl) (want_none) rfl (fun _ c211 => q_eql rfl rfl) ?_
      refine HA.val (k := 6) (v := .bool (decide (r_21 = r_22))) rfl rfl (by kernel_rfl) (by kernel_rfl) (want_none) rfl (fun _ c211 => q_move rfl) ?_
      rcases Bool.eq_false_or_eq_true (decide (r_21 = r_22)) with c_14 | c_14
      ·
       replace hM := hM.1 (of_decide_eq_true c_14)
       refine HA.val (k := 7) (v := .agg #[.int .i64 r_0_1, vr_1_1]) rfl rfl (by kernel_rfl) (by kernel_rfl) (want_by rfl rfl c_14) rfl (fun _ c211 => q_loadAgg (cs := [.int .i64 r_0_1, vr_1_1]) ta_24 rfl rfl (Blk.cells (k := 2) c211 rfl)) ?_
       refine HA.val (k := 10) (v := .agg #[.int .i64 r_0_1, vr_1_1]) rfl rfl (by kernel_rfl) (by kernel_rfl) (want_by rfl rfl c_14) rfl (fun _ c211 => q_loadAgg (cs := [.int .i64 r_0_1, vr_1_1]) ta_24 rfl rfl (Blk.cells (k := 2) c211 rfl)) ?_
       refine HA.one (k := 8) ⟨(hS.box 2 rfl), (Go.Wk.at_nil _ _)⟩ (by kernel_rfl) ?_
       have hZ_34 := hS
       have hkz_34 := (hS.freeze).2
       replace hS := hS.freeze.1
       have hL_36 : SliceF (fun bz_ => F_65 bz_ ∨ (Ow.own 46 2 e_api_Branch vr_1_1 r_1_1).foot bz_) h_38 2 e_api_Branch vr_1_1 r_1_1 := ⟨(hZ_34.own 0 rfl).slice, fun _ b hb => .inr hb⟩
       refine HS.call rfl (want_by rfl rfl c_14) rfl (ec en_8 rfl rfl) (law32_Few_walk (fr := (Ow.own 46 2 e_api_Branch vr_1_9 r_1_9 :: Ow.box b_1 24 #[.int .i64 r_0_1, vr_1_1] :: fr)) r_0_1 r_1_1 vr_1_1 hS hL_36 hM) ?_
       rintro _ h_39 ⟨F_66, r_0_10, r_1_10, vr_1_10, rfl, hk, hS, _, hM⟩
       obtain ⟨hS, hk⟩ := hZ_34.back hk hS
       generalize (fun bz_ => F_66 bz_ ∧ ¬ (Ow.own 46 2 e_api_Branch vr_1_1 r_1_1).foot bz_) = F_67 at hS hk
       replace hK := hK.trans hk
       replace hL_t_Links := hL_t_Links.kp hk
       replace hG_0 := hG_0.kp hk
       replace hE_gvS := hE_gvS.kp hk
       replace hG_1 := hG_1.kp hk
       replace hE_gvR := hE_gvR.kp hk
       replace hG_2 := hG_2.kp hk
       replace hG_5 := hG_5.kp hk
       refine HA.one (k := 9) ⟨(hS.box 3 rfl), (Go.Wk.at_nil _ _)⟩ (by kernel_rfl) ?_
       replace hS : St F_67 (Ow.own 46 2 e_api_Branch vr_1_10 r_1_10 :: Ow.own 46 2 e_api_Branch vr_1_1 r_1_1 :: Ow.own 46 2 e_api_Branch vr_1_9 r_1_9 :: Ow.box b_1 24 #[.int .i64 r_0_1, vr_1_1] :: fr) h_39 := hS.perm2 [1, 0, 2, 3] 4 rfl rfl
       have hZ_35 := hS
       have hkz_35 := (hS.freeze).2
       replace hS := hS.freeze.1
       have hL_37 : SliceF (fun bz_ => F_67 bz_ ∨ (Ow.own 46 2 e_api_Branch vr_1_10 r_1_10).foot bz_) h_39 2 e_api_Branch vr_1_10 r_1_10 := ⟨(hZ_35.own 0 rfl).slice, fun _ b hb => .inr hb⟩
       refine HS.call rfl (want_by rfl rfl c_14) rfl (ec en_31 rfl rfl) (tree_Leaves_walk (fr := (Ow.own 46 2 e_api_Branch vr_1_1 r_1_1 :: Ow.own 46 2 e_api_Branch vr_1_9 r_1_9 :: Ow.box b_1 24 #[.int .i64 r_0_1, vr_1_1] :: fr)) r_0_10 r_1_10 vr_1_10 hS hL_37 hM) ?_
       rintro vr_11 h_40 ⟨F_68, r_23, _, rfl, hk, hS, _, hM⟩
       obtain ⟨hS, hk⟩ := hZ_35.back hk hS
       generalize (fun bz_ => F_68 bz_ ∧ ¬ (Ow.own 46 2 e_api_Branch vr_1_10 r_1_10).foot bz_) = F_69 at hS hk
       replace hK := hK.trans hk
       replace hL_t_Links := hL_t_Links.kp hk
       replace hG_0 := hG_0.kp hk
       replace hE_gvS := hE_gvS.kp hk
       replace hG_1 := hG_1.kp hk
       replace hE_gvR := hE_gvR.kp hk
       replace hG_2 := hG_2.kp hk
       replace hG_5 := hG_5.kp hk
       refine HA.one (k := 11) ⟨(hS.box 4 rfl), (Go.Wk.at_nil _ _)⟩ (by kernel_rfl) ?_
       replace hS : St F_69 (Ow.own 46 2 e_api_Branch vr_1_1 r_1_1 :: Ow.own 46 2 e_api_Branch vr_1_10 r_1_10 :: Ow.own 3 1 encI vr_11 r_23 :: Ow.own 46 2 e_api_Branch vr_1_9 r_1_9 :: Ow.box b_1 24 #[.int .i64 r_0_1, vr_1_1] :: fr) h_40 := hS.perm2 [2, 0, 1, 3, 4] 5 rfl rfl
       have hZ_36 := hS
       have hkz_36 := (hS.freeze).2
       replace hS := hS.freeze.1
       have hL_38 : SliceF (fun bz_ => F_69 bz_ ∨ (Ow.own 46 2 e_api_Branch vr_1_1 r_1_1).foot bz_) h_40 2 e_api_Branch vr_1_1 r_1_1 := ⟨(hZ_36.own 0 rfl).slice, fun _ b hb => .inr hb⟩
       refine HS.call rfl (want_by rfl rfl c_14) rfl (ec en_32 rfl rfl) (ref32_Leaves_walk (fr := (Ow.own 46 2 e_api_Branch vr_1_10 r_1_10 :: Ow.own 3 1 encI vr_11 r_23 :: Ow.own 46 2 e_api_Branch vr_1_9 r_1_9 :: Ow.box b_1 24 #[.int .i64 r_0_1, vr_1_1] :: fr)) r_0_1 r_1_1 vr_1_1 hS hL_38 hM) ?_
       rintro vr_12 h_41 ⟨F_70, r_24, _, rfl, hk, hS, _, hM⟩
       obtain ⟨hS, hk⟩ := hZ_36.back hk hS
       generalize (fun bz_ => F_70 bz_ ∧ ¬ (Ow.own 46 2 e_api_Branch vr_1_1 r_1_1).foot bz_) = F_71 at hS hk
       replace hK := hK.trans hk
       replace hL_t_Links := hL_t_Links.kp hk
       replace hG_0 := hG_0.kp hk
       replace hE_gvS := hE_gvS.kp hk
       replace hG_1 := hG_1.kp hk
       replace hE_gvR := hE_gvR.kp hk
       replace hG_2 := hG_2.kp hk
       replace hG_5 := hG_5.kp hk
       refine HA.one (k := 12) ⟨(hS.box 5 rfl), (Go.Wk.at_nil _ _)⟩ (by kernel_rfl) ?_
       replace hS : St F_71 (Ow.own 3 1 encI vr_11 r_23 :: Ow.own 46 2 e_api_Branch vr_1_1 r_1_1 :: Ow.own 3 1 encI vr_12 r_24 :: Ow.own 46 2 e_api_Branch vr_1_10 r_1_10 :: Ow.own 46 2 e_api_Branch vr_1_9 r_1_9 :: Ow.box b_1 24 #[.int .i64 r_0_1, vr_1_1] :: fr) h_41 := hS.perm2 [3, 0, 1, 2, 4, 5] 6 rfl rfl
       have hZ_37 := hS
       have hkz_37 := (hS.freeze).2
       replace hS := hS.freeze.1
       have hL_39 : SliceF (fun bz_ => F_71 bz_ ∨ (Ow.own 3 1 encI vr_11 r_23).foot bz_) h_41 1 encI vr_11 r_23 := ⟨(hZ_37.own 0 rfl).slice, fun _ b hb => .inr hb⟩
       replace hS : St (fun bz_ => F_71 bz_ ∨ (Ow.own 3 1 encI vr_11 r_23).foot bz_) (Ow.own 3 1 encI vr_12 r_24 :: Ow.own 46 2 e_api_Branch vr_1_1 r_1_1 :: Ow.own 46 2 e_api_Branch vr_1_10 r_1_10 :: Ow.own 46 2 e_api_Branch vr_1_9 r_1_9 :: Ow.box b_1 24 #[.int .i64 r_0_1, vr_1_1] :: fr) h_41 := hS.perm2 [1, 0, 2, 3, 4] 5 rfl rfl
       have hZ_38 := hS
       have hkz_38 := (hS.freeze).2
       replace hS := hS.freeze.1
       have hL_40 : SliceF (fun bz_ => (fun bz_ => F_71 bz_ ∨ (Ow.own 3 1 encI vr_11 r_23).foot bz_) bz_ ∨ (Ow.own 3 1 encI vr_12 r_24).foot bz_) h_41 1 encI vr_12 r_24 := ⟨(hZ_38.own 0 rfl).slice, fun _ b hb => .inr hb⟩
       refine HS.call rfl (want_by rfl rfl c_14) rfl (ec en_22 rfl rfl) (ref32_SameInts_walk (fr := (Ow.own 46 2 e_api_Branch vr_1_1 r_1_1 :: Ow.own 46 2 e_api_Branch vr_1_10 r_1_10 :: Ow.own 46 2 e_api_Branch vr_1_9 r_1_9 :: Ow.box b_1 24 #[.int .i64 r_0_1, vr_1_1] :: fr)) r_23 r_24 vr_11 vr_12 hS (hL_39.kp hkz_38) hL_40 hM) ?_
       rintro _ h_42 ⟨F_72, r_25, rfl, hk, hS, _, _, hM⟩
       obtain ⟨hS, hk⟩ := hZ_38.back hk hS
       obtain ⟨hS, hk⟩ := hZ_37.back hk hS
       generalize (fun bz_ => (fun bz_ => F_72 bz_ ∧ ¬ (Ow.own 3 1 encI vr_12 r_24).foot bz_) bz_ ∧ ¬ (Ow.own 3 1 encI vr_11 r_23).foot bz_) = F_73 at hS hk
       replace hK := hK.trans hk
       replace hL_t_Links := hL_t_Links.kp hk
       replace hG_0 := hG_0.kp hk
       replace hE_gvS := hE_gvS.kp hk
       replace hG_1 := hG_1.kp hk
       replace hE_gvR := hE_gvR.kp hk
       replace hG_2 := hG_2.kp hk
       replace hG_5 := hG_5.kp hk
       refine HA.val (k := 13) (v := .bool r_25) rfl rfl (by kernel_rfl) (by kernel_rfl) (want_none) rfl (fun _ c211 => q_pickK true rfl c_14 rfl) ?_
       refine HA.val (k := 14) (v := .bool r_25) rfl rfl (by kernel_rfl) (by kernel_rfl) (want_none) rfl (fun _ c211 => q_move rfl) ?_
       rcases Bool.eq_false_or_eq_true r_25 with c_15 | c_15
       ·
        replace hM := hM.1 c_15
        refine HA.val (k := 15) (v := .agg #[.int .i64 r_0_1, vr_1_1]) rfl rfl (by kernel_rfl) (by kernel_rfl) (want_by rfl rfl c_15) rfl (fun _ c211 => q_loadAgg (cs := [.int .i64 r_0_1, vr_1_1]) ta_24 rfl rfl (Blk.cells (k := 2) c211 rfl)) ?_
        refine HA.val (k := 18) (v := .agg #[.int .i64 r_0_1, vr_1_1]) rfl rfl (by kernel_rfl) (by kernel_rfl) (want_by rfl rfl c_15) rfl (fun _ c211 => q_loadAgg (cs := [.int .i64 r_0_1, vr_1_1]) ta_24 rfl rfl (Blk.cells (k := 2) c211 rfl)) ?_
        refine HA.one (k := 16) ⟨(hS.box 5 rfl), (Go.Wk.at_nil _ _)⟩ (by kernel_rfl) ?_
        replace hS : St F_73 (Ow.own 46 2 e_api_Branch vr_1_1 r_1_1 :: Ow.own 3 1 encI vr_11 r_23 :: Ow.own 3 1 encI vr_12 r_24 :: Ow.own 46 2 e_api_Branch vr_1_10 r_1_10 :: Ow.own 46 2 e_api_Branch vr_1_9 r_1_9 :: Ow.box b_1 24 #[.int .i64 r_0_1, vr_1_1] :: fr) h_42 := hS.perm2 [2, 0, 1, 3, 4, 5] 6 rfl rfl
        have hZ_39 := hS
        have hkz_39 := (hS.freeze).2
        replace hS := hS.freeze.1
        have hL_41 : SliceF (fun bz_ => F_73 bz_ ∨ (Ow.own 46 2 e_api_Branch vr_1_1 r_1_1).foot bz_) h_42 2 e_api_Branch vr_1_1 r_1_1 := ⟨(hZ_39.own 0 rfl).slice, fun _ b hb => .inr hb⟩
        refine HS.call rfl (want_by rfl rfl c_15) rfl (ec en_8 rfl rfl) (law32_Few_walk (fr := (Ow.own 3 1 encI vr_11 r_23 :: Ow.own 3 1 encI vr_12 r_24 :: Ow.own 46 2 e_api_Branch vr_1_10 r_1_10 :: Ow.own 46 2 e_api_Branch vr_1_9 r_1_9 :: Ow.box b_1 24 #[.int .i64 r_0_1, vr_1_1] :: fr)) r_0_1 r_1_1 vr_1_1 hS hL_41 hM) ?_
        rintro _ h_43 ⟨F_74, r_0_11, r_1_11, vr_1_11, rfl, hk, hS, _, hM⟩
        obtain ⟨hS, hk⟩ := hZ_39.back hk hS
        generalize (fun bz_ => F_74 bz_ ∧ ¬ (Ow.own 46 2 e_api_Branch vr_1_1 r_1_1).foot bz_) = F_75 at hS hk
        replace hK := hK.trans hk
        replace hL_t_Links := hL_t_Links.kp hk
        replace hG_0 := hG_0.kp hk
        replace hE_gvS := hE_gvS.kp hk
        replace hG_1 := hG_1.kp hk
        replace hE_gvR := hE_gvR.kp hk
        replace hG_2 := hG_2.kp hk
        replace hG_5 := hG_5.kp hk
        refine HA.one (k := 17) ⟨(hS.box 6 rfl), (Go.Wk.at_nil _ _)⟩ (by kernel_rfl) ?_
        replace hS : St F_75 (Ow.own 46 2 e_api_Branch vr_1_11 r_1_11 :: Ow.own 46 2 e_api_Branch vr_1_1 r_1_1 :: Ow.own 3 1 encI vr_11 r_23 :: Ow.own 3 1 encI vr_12 r_24 :: Ow.own 46 2 e_api_Branch vr_1_10 r_1_10 :: Ow.own 46 2 e_api_Branch vr_1_9 r_1_9 :: Ow.box b_1 24 #[.int .i64 r_0_1, vr_1_1] :: fr) h_43 := hS.perm2 [1, 0, 2, 3, 4, 5, 6] 7 rfl rfl
        have hZ_40 := hS
        have hkz_40 := (hS.freeze).2
        replace hS := hS.freeze.1
        have hL_42 : SliceF (fun bz_ => F_75 bz_ ∨ (Ow.own 46 2 e_api_Branch vr_1_11 r_1_11).foot bz_) h_43 2 e_api_Branch vr_1_11 r_1_11 := ⟨(hZ_40.own 0 rfl).slice, fun _ b hb => .inr hb⟩
        refine HS.call rfl (want_by rfl rfl c_15) rfl (ec en_33 rfl rfl) (tree_Fan_walk (fr := (Ow.own 46 2 e_api_Branch vr_1_1 r_1_1 :: Ow.own 3 1 encI vr_11 r_23 :: Ow.own 3 1 encI vr_12 r_24 :: Ow.own 46 2 e_api_Branch vr_1_10 r_1_10 :: Ow.own 46 2 e_api_Branch vr_1_9 r_1_9 :: Ow.box b_1 24 #[.int .i64 r_0_1, vr_1_1] :: fr)) r_0_11 r_1_11 vr_1_11 hS hL_42 hM) ?_
        rintro _ h_44 ⟨F_76, r_26, rfl, hk, hS, _, hM⟩
        obtain ⟨hS, hk⟩ := hZ_40.back hk hS
        generalize (fun bz_ => F_76 bz_ ∧ ¬ (Ow.own 46 2 e_api_Branch vr_1_11 r_1_11).foot bz_) = F_77 at hS hk
        replace hK := hK.trans hk
        replace hL_t_Links := hL_t_Links.kp hk
        replace hG_0 := hG_0.kp hk
        replace hE_gvS := hE_gvS.kp hk
        replace hG_1 := hG_1.kp hk
        replace hE_gvR := hE_gvR.kp hk
        replace hG_2 := hG_2.kp hk
        replace hG_5 := hG_5.kp hk
        refine HA.one (k := 19) ⟨(hS.box 6 rfl), (Go.Wk.at_nil _ _)⟩ (by kernel_rfl) ?_
        replace hS : St F_77 (Ow.own 46 2 e_api_Branch vr_1_1 r_1_1 :: Ow.own 46 2 e_api_Branch vr_1_11 r_1_11 :: Ow.own 3 1 encI vr_11 r_23 :: Ow.own 3 1 encI vr_12 r_24 :: Ow.own 46 2 e_api_Branch vr_1_10 r_1_10 :: Ow.own 46 2 e_api_Branch vr_1_9 r_1_9 :: Ow.box b_1 24 #[.int .i64 r_0_1, vr_1_1] :: fr) h_44 := hS.perm2 [1, 0, 2, 3, 4, 5, 6] 7 rfl rfl
        have hZ_41 := hS
        have hkz_41 := (hS.freeze).2
        replace hS := hS.freeze.1
        have hL_43 : SliceF (fun bz_ => F_77 bz_ ∨ (Ow.own 46 2 e_api_Branch vr_1_1 r_1_1).foot bz_) h_44 2 e_api_Branch vr_1_1 r_1_1 := ⟨(hZ_41.own 0 rfl).slice, fun _ b hb => .inr hb⟩
        refine HS.call rfl (want_by rfl rfl c_15) rfl (ec en_34 rfl rfl) (ref32_Fan_walk (fr := (Ow.own 46 2 e_api_Branch vr_1_11 r_1_11 :: Ow.own 3 1 encI vr_11 r_23 :: Ow.own 3 1 encI vr_12 r_24 :: Ow.own 46 2 e_api_Branch vr_1_10 r_1_10 :: Ow.own 46 2 e_api_Branch vr_1_9 r_1_9 :: Ow.box b_1 24 #[.int .i64 r_0_1, vr_1_1] :: fr)) r_0_1 r_1_1 vr_1_1 hS hL_43 hM) ?_
        rintro _ h_45 ⟨F_78, r_27, rfl, hk, hS, _, hM⟩
        obtain ⟨hS, hk⟩ := hZ_41.back hk hS
        generalize (fun bz_ => F_78 bz_ ∧ ¬ (Ow.own 46 2 e_api_Branch vr_1_1 r_1_1).foot bz_) = F_79 at hS hk
        replace hK := hK.trans hk
        replace hL_t_Links := hL_t_Links.kp hk
        replace hG_0 := hG_0.kp hk
        replace hE_gvS := hE_gvS.kp hk
        replace hG_1 := hG_1.kp hk
        replace hE_gvR := hE_gvR.kp hk
        replace hG_2 := hG_2.kp hk
        replace hG_5 := hG_5.kp hk
        refine HA.val (k := 20) (v := .bool (decide (r_26 = r_27))) rfl rfl (by kernel_rfl) (by kernel_rfl) (want_by rfl rfl c_15) rfl (fun _ c211 => q_eql rfl rfl) ?_
        refine HA.val (k := 21) (v := .bool (decide (r_26 = r_27))) rfl rfl (by kernel_rfl) (by kernel_rfl) (want_none) rfl (fun _ c211 => q_pickK true rfl c_15 rfl) ?_
        refine HA.val (k := 22) (v := .bool (decide (r_26 = r_27))) rfl rfl (by kernel_rfl) (by kernel_rfl) (want_none) rfl (fun _ c211 => q_move rfl) ?_
        rcases Bool.eq_false_or_eq_true (decide (r_26 = r_27)) with c_16 | c_16
        ·
         replace hM := hM.1 (of_decide_eq_true c_16)
         refine HA.one (k := 23) ⟨(hS.box 6 rfl), (Go.Wk.at_nil _ _)⟩ (by kernel_rfl) ?_
         refine HS.call rfl (want_by rfl rfl c_16) rfl (ec en_14 rfl rfl) (law32_lives_walk (fr := (Ow.own 46 2 e_api_Branch vr_1_1 r_1_1 :: Ow.own 46 2 e_api_Branch vr_1_11 r_1_11 :: Ow.own 3 1 encI vr_11 r_23 :: Ow.own 3 1 encI vr_12 r_24 :: Ow.own 46 2 e_api_Branch vr_1_10 r_1_10 :: Ow.own 46 2 e_api_Branch vr_1_9 r_1_9 :: Ow.box b_1 24 #[.int .i64 r_0_1, vr_1_1] :: fr)) gvS gbS gvR gbR gm hS hG_0 hE_gvS hG_1 hE_gvR hG_2 hG_5 hD hM) ?_
         rintro _ h_46 ⟨F_80, r_28, rfl, hk, hS, _, _, _, _, _, _, hM⟩
         replace hK := hK.trans hk
         replace hL_t_Links := hL_t_Links.kp hk
         replace hG_0 := hG_0.kp hk
         replace hE_gvS := hE_gvS.kp hk
         replace hG_1 := hG_1.kp hk
         replace hE_gvR := hE_gvR.kp hk
         replace hG_2 := hG_2.kp hk
         replace hG_5 := hG_5.kp hk
         refine HA.val (k := 24) (v := .bool r_28) rfl rfl (by kernel_rfl) (by kernel_rfl) (want_none) rfl (fun _ c211 => q_pickK true rfl c_16 rfl) ?_
         refine HA.val (k := 25) (v := .bool r_28) rfl rfl (by kernel_rfl) (by kernel_rfl) (want_none) rfl (fun _ c211 => q_assign rfl) ?_
         refine HA.nil ⟨(hS.box 6 rfl), (Go.Wk.at_nil _ _)⟩ (by kernel_rfl) (thenQ_normal (?_))
         refine HW.ret (?_)
         refine ⟨.inr rfl, .bool r_28, res1 rfl (rt rfl), ?_⟩
         replace hS : St F_80 (fr) h_46 := hS.perm2 [] 7 rfl rfl
         exact ⟨F_80, r_28, rfl, hK, hS, hL_t_Links, hG_0, hE_gvS, hG_1, hE_gvR, hG_2, hG_5, hM⟩
        ·
         replace hM := hM.2 (of_decide_eq_false c_16)
         refine HA.one (k := 23) ⟨(hS.box 6 rfl), (Go.Wk.at_nil _ _)⟩ (by kernel_rfl) ?_
         refine HS.past rfl (past_by rfl rfl c_16) rfl ?_
         refine HA.val (k := 24) (v := .bool false) rfl rfl (by kernel_rfl) (by kernel_rfl) (want_none) rfl (fun _ c211 => q_pickK false rfl c_16 rfl) ?_
         refine HA.val (k := 25) (v := .bool false) rfl rfl (by kernel_rfl) (by kernel_rfl) (want_none) rfl (fun _ c211 => q_assign rfl) ?_
         refine HA.nil ⟨(hS.box 6 rfl), (Go.Wk.at_nil _ _)⟩ (by kernel_rfl) (thenQ_normal (?_))
         refine HW.ret (?_)
         refine ⟨.inr rfl, .bool false, res1 rfl (rt rfl), ?_⟩
         replace hS : St F_79 (fr) h_45 := hS.perm2 [] 7 rfl rfl
         exact ⟨F_79, false, rfl, hK, hS, hL_t_Links, hG_0, hE_gvS, hG_1, hE_gvR, hG_2, hG_5, hM⟩
       ·
        replace hM := hM.2 c_15
        refine HA.past (k := 15) rfl rfl (by kernel_rfl) (by kernel_rfl) (past_by rfl rfl c_15) rfl ?_
        refine HA.past (k := 18) rfl rfl (by kernel_rfl) (by kernel_rfl) (past_by rfl rfl c_15) rfl ?_
        refine HA.one (k := 16) ⟨(hS.box 5 rfl), (Go.Wk.at_nil _ _)⟩ (by kernel_rfl) ?_
        refine HS.past rfl (past_by rfl rfl c_15) rfl ?_
        refine HA.one (k := 17) ⟨(hS.box 5 rfl), (Go.Wk.at_nil _ _)⟩ (by kernel_rfl) ?_
        refine HS.past rfl (past_by rfl rfl c_15) rfl ?_
        refine HA.one (k := 19) ⟨(hS.box 5 rfl), (Go.Wk.at_nil _ _)⟩ (by kernel_rfl) ?_
        refine HS.past rfl (past_by rfl rfl c_15) rfl ?_
        refine HA.past (k := 20) rfl rfl (by kernel_rfl) (by kernel_rfl) (past_by rfl rfl c_15) rfl ?_
        refine HA.val (k := 21) (v := .bool false) rfl rfl (by kernel_rfl) (by kernel_rfl) (want_none) rfl (fun _ c211 => q_pickK false rfl c_15 rfl) ?_
        refine HA.val (k := 22) (v := .bool false) rfl rfl (by kernel_rfl) (by kernel_rfl) (want_none) rfl (fun _ c211 => q_move rfl) ?_
        refine HA.one (k := 23) ⟨(hS.box 5 rfl), (Go.Wk.at_nil _ _)⟩ (by kernel_rfl) ?_
        refine HS.past rfl (past_some rfl rfl) rfl ?_
        refine HA.val (k := 24) (v := .bool false) rfl rfl (by kernel_rfl) (by kernel_rfl) (want_none) rfl (fun _ c211 => q_pick rfl rfl) ?_
        refine HA.val (k := 25) (v := .bool false) rfl rfl (by kernel_rfl) (by kernel_rfl) (want_none) rfl (fun _ c211 => q_assign rfl) ?_
        refine HA.nil ⟨(hS.box 5 rfl), (Go.Wk.at_nil _ _)⟩ (by kernel_rfl) (thenQ_normal (?_))
        refine HW.ret (?_)
        refine ⟨.inr rfl, .bool false, res1 rfl (rt rfl), ?_⟩
        replace hS : St F_73 (fr) h_42 := hS.perm2 [] 6 rfl rfl
        exact ⟨F_73, false, rfl, hK, hS, hL_t_Links, hG_0, hE_gvS, hG_1, hE_gvR, hG_2, hG_5, hM⟩
      ·
       replace hM := hM.2 (of_decide_eq_false c_14)
       refine HA.past (k := 7) rfl rfl (by kernel_rfl) (by kernel_rfl) (past_by rfl rfl c_14) rfl ?_
       refine HA.past (k := 10) rfl rfl (by kernel_rfl) (by kernel_rfl) (past_by rfl rfl c_14) rfl ?_
       refine HA.one (k := 8) ⟨(hS.box 2 rfl), (Go.Wk.at_nil _ _)⟩ (by kernel_rfl) ?_
       refine HS.past rfl (past_by rfl rfl c_14) rfl ?_
       refine HA.one (k := 9) ⟨(hS.box 2 rfl), (Go.Wk.at_nil _ _)⟩ (by kernel_rfl) ?_
       refine HS.past rfl (past_by rfl rfl c_14) rfl ?_
       refine HA.one (k := 11) ⟨(hS.box 2 rfl), (Go.Wk.at_nil _ _)⟩ (by kernel_rfl) ?_
       refine HS.past rfl (past_by rfl rfl c_14) rfl ?_
       refine HA.one (k := 12) ⟨(hS.box 2 rfl), (Go.Wk.at_nil _ _)⟩ (by kernel_rfl) ?_
       refine HS.past rfl (past_by rfl rfl c_14) rfl ?_
       refine HA.val (k := 13) (v := .bool false) rfl rfl (by kernel_rfl) (by kernel_rfl) (want_none) rfl (fun _ c211 => q_pickK false rfl c_14 rfl) ?_
       refine HA.val (k := 14) (v := .bool false) rfl rfl (by kernel_rfl) (by kernel_rfl) (want_none) rfl (fun _ c211 => q_move rfl) ?_
       refine HA.past (k := 15) rfl rfl (by kernel_rfl) (by kernel_rfl) (past_some rfl rfl) rfl ?_
       refine HA.past (k := 18) rfl rfl (by kernel_rfl) (by kernel_rfl) (past_some rfl rfl) rfl ?_
       refine HA.one (k := 16) ⟨(hS.box 2 rfl), (Go.Wk.at_nil _ _)⟩ (by kernel_rfl) ?_
       refine HS.past rfl (past_some rfl rfl) rfl ?_
       refine HA.one (k := 17) ⟨(hS.box 2 rfl), (Go.Wk.at_nil _ _)⟩ (by kernel_rfl) ?_
       refine HS.past rfl (past_some rfl rfl) rfl ?_
       refine HA.one (k := 19) ⟨(hS.box 2 rfl), (Go.Wk.at_nil _ _)⟩ (by kernel_rfl) ?_
       refine HS.past rfl (past_some rfl rfl) rfl ?_
       refine HA.past (k := 20) rfl rfl (by kernel_rfl) (by kernel_rfl) (past_some rfl rfl) rfl ?_
       refine HA.val (k := 21) (v := .bool false) rfl rfl (by kernel_rfl) (by kernel_rfl) (want_none) rfl (fun _ c211 => q_pick rfl rfl) ?_
       refine HA.val (k := 22) (v := .bool false) rfl rfl (by kernel_rfl) (by kernel_rfl) (want_none) rfl (fun _ c211 => q_move rfl) ?_
       refine HA.one (k := 23) ⟨(hS.box 2 rfl), (Go.Wk.at_nil _ _)⟩ (by kernel_rfl) ?_
       refine HS.past rfl (past_some rfl rfl) rfl ?_
       refine HA.val (k := 24) (v := .bool false) rfl rfl (by kernel_rfl) (by kernel_rfl) (want_none) rfl (fun _ c211 => q_pick rfl rfl) ?_
       refine HA.val (k := 25) (v := .bool false) rfl rfl (by kernel_rfl) (by kernel_rfl) (want_none) rfl (fun _ c211 => q_assign rfl) ?_
       refine HA.nil ⟨(hS.box 2 rfl), (Go.Wk.at_nil _ _)⟩ (by kernel_rfl) (thenQ_normal (?_))
       refine HW.ret (?_)
       refine ⟨.inr rfl, .bool false, res1 rfl (rt rfl), ?_⟩
       replace hS : St F_65 (fr) h_38 := hS.perm2 [] 3 rfl rfl
       exact ⟨F_65, false, rfl, hK, hS, hL_t_Links, hG_0, hE_gvS, hG_1, hE_gvR, hG_2, hG_5, hM⟩
end Go.Wk
