/- The walks of TreeLong. -/
import Derived.Test.YtjliljlmgepmpaaGreatDoorTreB1
set_option linter.unusedSimpArgs false
set_option linter.unusedVariables false
set_option linter.unusedSectionVars false
namespace Go.Wk
open Go.HL
open Go.Proofs hiding encI
variable [DM]
theorem en_38 (args : Array Value) (w : World) : (callFunc 38 args).run Tryz.prog w = .ok (.enter 38 args) w := by kernel_rfl
theorem en_14 (args : Array Value) (w : World) : (callFunc 14 args).run Tryz.prog w = .ok (.enter 14 args) w := by kernel_rfl
theorem en_28 (args : Array Value) (w : World) : (callFunc 28 args).run Tryz.prog w = .ok (.enter 28 args) w := by kernel_rfl
def law32_TreeLong_j1 (l_1 : List T_api_Branch) (i_1 : Int) (K_1 : (List T_api_Branch) → Int → Prop) (b_0_1 : Int) : Prop :=
 ((l_1.length + ([(b_0_1, i_1)] : List T_api_Branch).length) * 16 ≤ 140737488355328) ∧ ((I64 (i_1 + 1)) ∧ (K_1 (l_1 ++ ([(b_0_1, i_1)] : List T_api_Branch)) (i_1 + 1)))
def law32_TreeLong_j2 (Q : Bool → Prop) (b_5 : Bool) : Prop :=
 Q b_5
def law32_TreeLong_j3 (n : Int) (Q : Bool → Prop) (r0_0_1 : Int) (r0_1_1 : List T_api_Branch) (r1_1 : Int) (want_1 : Int) : Prop :=
 (r1_1 = 0 → tree_Nodes_W r0_0_1 r0_1_1 (fun r_3 => ((r_3.length : Int) = (250 + ((u8w (n.tmod 10)).toNat : Int)) → tree_Depth_W r0_0_1 r0_1_1 (fun r_4 => (r_4 = want_1 → law32_lives_W  (fun r_5 => Q r_5)) ∧ (¬ (r_4 = want_1) → Q false))) ∧ (¬ ((r_3.length : Int) = (250 + ((u8w (n.tmod 10)).toNat : Int))) → Q false))) ∧ (¬ (r1_1 = 0) → Q false)
def law32_TreeLong_l2 (n : Int) (deep : Bool) (Q : Bool → Prop) (K_1 : (List T_api_Branch) → Int → Prop) (l_1 : List T_api_Branch) (i_1 : Int) : Prop :=
 (i_1 < (250 + ((u8w (n.tmod 10)).toNat : Int)) → (deep = true → (I64 (i_1 - 1)) ∧ (law32_TreeLong_j1 l_1 i_1 K_1 (i_1 - 1))) ∧ (deep = false → law32_TreeLong_j1 l_1 i_1 K_1 0)) ∧ (¬ (i_1 < (250 + ((u8w (n.tmod 10)).toNat : Int))) → tree_Of_W 0 l_1 (fun r0_0_1 r0_1_1 r1_1 => (256 < (250 + ((u8w (n.tmod 10)).toNat : Int)) → (r1_1 = 6 → ((r0_1_1.length : Int) = 0 → law32_lives_W  (fun r_2 => law32_TreeLong_j2 Q r_2)) ∧ (¬ ((r0_1_1.length : Int) = 0) → law32_TreeLong_j2 Q false)) ∧ (¬ (r1_1 = 6) → law32_TreeLong_j2 Q false)) ∧ (¬ (256 < (250 + ((u8w (n.tmod 10)).toNat : Int))) → (deep = true → (I64 ((250 + ((u8w (n.tmod 10)).toNat : Int)) - 1)) ∧ (law32_TreeLong_j3 n Q r0_0_1 r0_1_1 r1_1 ((250 + ((u8w (n.tmod 10)).toNat : Int)) - 1))) ∧ (deep = false → law32_TreeLong_j3 n Q r0_0_1 r0_1_1 r1_1 1))))
def law32_TreeLong_W (n : Int) (deep : Bool) (Q : Bool → Prop) : Prop :=
 ((0 : Int) ≤ (n.tmod 10) ∧ (n.tmod 10) < 256) ∧ ((I64 ((u8w (n.tmod 10)).toNat : Int)) ∧ ((I64 (250 + ((u8w (n.tmod 10)).toNat : Int))) ∧ (loopW (fun (K_1 : (List T_api_Branch × Int) → Prop) (s : List T_api_Branch × Int) => law32_TreeLong_l2 n deep Q (fun l_1 i_1 => K_1 (l_1, i_1)) s.1 s.2) ([], 1))))
set_option maxHeartbeats 40000000 in
set_option maxRecDepth 100000 in
theorem law32_TreeLong_walk {F : Fz} {fr : List Ow} {h0 : Heap} (n : Int) (deep : Bool) (gvS : Value) (gbS : Bool) (gvR : Value) (gbR : Bool) (gm : Int) (hS : St F (fr) h0) (hG_0 : RoF (Ow.box 0 53 #[gvS]) F h0) (hE_gvS : ErrF gbS gvS F h0) (hG_1 : RoF (Ow.box 1 53 #[gvR]) F h0) (hE_gvR : ErrF gbR gvR F h0) (hG_2 : RoF (Ow.box 2 3 #[.int .i64 gm]) F h0) (hG_5 : RoF (Ow.box 5 163 (tab10 ()).toArray) F h0) (hD : DM.on = false) {Q : Bool → Prop} (hM : law32_TreeLong_W n deep Q) :
  HC Tryz.prog 6 #[.int .u8 n, .bool deep] h0 fun u h' => ∃ (F' : Fz) (r_1 : Bool), u = .bool r_1 ∧ Kp F h0 F' h' ∧ St F' (fr) h' ∧ (RoF (Ow.box 0 53 #[gvS]) F' h') ∧ (ErrF gbS gvS F' h') ∧ (RoF (Ow.box 1 53 #[gvR]) F' h') ∧ (ErrF gbR gvR F' h') ∧ (RoF (Ow.box 2 3 #[.int .i64 gm]) F' h') ∧ (RoF (Ow.box 5 163 (tab10 ()).toArray) F' h') ∧ Q r_1 := by
 unfold law32_TreeLong_W at hM
 have hK := Kp.refl F h0
 refine HC.of_HW (n := 71) Tryz.func6 rfl rfl (Nat.le_of_ble_eq_true rfl) ?_
 refine HW.seq ?_
 refine HW.region ?_
 refine oA (.bool false) rfl rfl ?_
 refine HO.nil (thenQ_normal (?_))
 refine HW.seq ?_
 refine HW.region ?_
 refine oM (.int .u8 n) rfl rfl ?_
 obtain ⟨ho_1, hM⟩ := hM
 refine oV (.int .u8 ((u8w (n.tmod 10)).toNat : Int)) ((q_rem rfl rfl (by decide)).of_eq (u8r_v ho_1)) rfl ?_
 obtain ⟨ho_2, hM⟩ := hM
 refine oV (.int .i64 ((u8w (n.tmod 10)).toNat : Int)) (q_convInt Tryz.underlying5 Tryz.underlying3 rfl (wrap_i64 ho_2.1 ho_2.2)) rfl ?_
 obtain ⟨ho_3, hM⟩ := hM
 refine oV (.int .i64 (250 + ((u8w (n.tmod 10)).toNat : Int))) (q_addN _ rfl rfl rfl ho_3.1 ho_3.2) rfl ?_
 refine oA (.int .i64 (250 + ((u8w (n.tmod 10)).toNat : Int))) rfl rfl ?_
 refine HO.nil (thenQ_normal (?_))
 refine HW.seq ?_
 refine HW.region ?_
 refine HO.eff (want_none) rfl (st_litEmpty (α := T_api_Branch) e_api_Branch hS tl_22) ?_
 rintro _ h_1 ⟨b_1, rfl, hS, hk⟩
 replace hK := hK.trans hk
 replace hG_0 := hG_0.kp hk
 replace hE_gvS := hE_gvS.kp hk
 replace hG_1 := hG_1.kp hk
 replace hE_gvR := hE_gvR.kp hk
 replace hG_2 := hG_2.kp hk
 replace hG_5 := hG_5.kp hk
 refine oA (.slice (some ⟨b_1, 0, none⟩) 0 0) rfl rfl ?_
 refine HO.nil (thenQ_normal (?_))
 refine HW.seq ?_
 refine HW.seq ?_
 refine HW.region ?_
 refine oA (.int .i64 1) rfl rfl ?_
 refine HO.nil (thenQ_normal (?_))
 refine HW.block ?_
 obtain ⟨I_1, m_1, hI_1, hR_1⟩ := hM
 refine HW.loop (S := List T_api_Branch × Int) (fun s f h => match s with | (l_1, i_1) => ∃ (F' : Fz) (vl_1 : Value), f 1 = .bool deep ∧ f 4 = .bool false ∧ f 5 = .int .i64 (250 + ((u8w (n.tmod 10)).toNat : Int)) ∧ f 6 = vl_1 ∧ f 7 = .int .i64 i_1 ∧ Kp F h0 F' h ∧ St F' (Ow.own 46 2 e_api_Branch vl_1 l_1 :: fr) h ∧ (RoF (Ow.box 0 53 #[gvS]) F' h) ∧ (ErrF gbS gvS F' h) ∧ (RoF (Ow.box 1 53 #[gvR]) F' h) ∧ (ErrF gbR gvR F' h) ∧ (RoF (Ow.box 2 3 #[.int .i64 gm]) F' h) ∧ (RoF (Ow.box 5 163 (tab10 ()).toArray) F' h) ∧ I_1 (l_1, i_1)) m_1 ([], 1) ⟨F, .slice (some ⟨b_1, 0, none⟩) 0 0, rfl, rfl, rfl, rfl, rfl, hK, hS, hG_0, hE_gvS, hG_1, hE_gvR, hG_2, hG_5, hI_1⟩ ?_
 rintro ⟨l_1, i_1⟩ f_1 h_2 ⟨F_1, vl_1, e1, e4, e5, e6, e7, hK, hS, hG_0, hE_gvS, hG_1, hE_gvR, hG_2, hG_5, hI0⟩
 obtain ⟨K_1, hKe_1⟩ : ∃ K : (List T_api_Branch) → Int → Prop, K = fun l_1' i_1' => I_1 (l_1', i_1') ∧ m_1 (l_1', i_1') < m_1 (l_1, i_1) := ⟨_, rfl⟩
 have hM : law32_TreeLong_l2 n deep Q K_1 l_1 i_1 := by rw [hKe_1]; exact hR_1 (l_1, i_1) hI0
 unfold law32_TreeLong_l2 at hM
 refine HW.fr [(1, .bool deep), (4, .bool false), (5, .int .i64 (250 + ((u8w (n.tmod 10)).toNat : Int))), (6, vl_1), (7, .int .i64 i_1)] ⟨e1, e4, e5, e6, e7, trivial⟩ ?_
 refine HW.seq ?_
 refine HW.seq ?_
 refine HW.region ?_
 refine oM (.int .i64 i_1) rfl rfl ?_
 refine oM (.int .i64 (250 + ((u8w (n.tmod 10)).toNat : Int))) rfl rfl ?_
 refine oV (.bool (decide (i_1 < (250 + ((u8w (n.tmod 10)).toNat : Int))))) (q_lss rfl rfl) rfl ?_
 refine HO.nil (thenQ_normal (?_))
 refine HW.cond (decide (i_1 < (250 + ((u8w (n.tmod 10)).toNat : Int)))) rfl (fun c_1 => ?_) (fun c_1 => ?_)
 ·
  replace hM := hM.1 (of_decide_eq_true c_1)
  refine HW.skip (thenQ_normal (?_))
  refine HW.seq ?_
  refine HW.block ?_
  refine HW.seq ?_
  refine HW.region ?_
  refine oM (.int .i64 i_1) rfl rfl ?_
  refine oV (.agg #[.int .i64 0, .int .i64 i_1]) (q_build tp_46 rfl) rfl ?_
  refine HO.eff (want_none) rfl (st_alloc (c := #[.int .i64 0, .int .i64 0]) hS tz_46 rfl) ?_
  rintro _ h_3 ⟨b_2, rfl, hS, hk⟩
  replace hK := hK.trans hk
  replace hG_0 := hG_0.kp hk
  replace hE_gvS := hE_gvS.kp hk
  replace hG_1 := hG_1.kp hk
  replace hE_gvR := hE_gvR.kp hk
  replace hG_2 := hG_2.kp hk
  replace hG_5 := hG_5.kp hk
  refine HO.sto (want_none) rfl (st_storeAgg (c' := #[.int .i64 0, .int .i64 i_1]) hS (i := 0) rfl ta_46 rfl rfl rfl (by simp [Value.oneCell']) (Nat.le_of_ble_eq_true rfl) rfl) ?_
  rintro h_4 ⟨hS, hk⟩
  replace hS : St F_1 (Ow.box b_2 46 #[.int .i64 0, .int .i64 i_1] :: Ow.own 46 2 e_api_Branch vl_1 l_1 :: fr) h_4 := hS
  replace hK := hK.trans hk
  replace hG_0 := hG_0.kp hk
  replace hE_gvS := hE_gvS.kp hk
  replace hG_1 := hG_1.kp hk
  replace hE_gvR := hE_gvR.kp hk
  replace hG_2 := hG_2.kp hk
  replace hG_5 := hG_5.kp hk
  refine HO.nil (thenQ_normal (?_))
  refine HW.seq_mid (fun f h => ∃ (F' : Fz) (b_0_1 : Int), f 1 = .bool deep ∧ f 4 = .bool false ∧ f 5 = .int .i64 (250 + ((u8w (n.tmod 10)).toNat : Int)) ∧ f 6 = vl_1 ∧ f 7 = .int .i64 i_1 ∧ f 8 = .pointer (some ⟨b_2, 0, none⟩) ∧ Kp F h0 F' h ∧ St F' (Ow.own 46 2 e_api_Branch vl_1 l_1 :: Ow.box b_2 46 #[.int .i64 b_0_1, .int .i64 i_1] :: fr) h ∧ (RoF (Ow.box 0 53 #[gvS]) F' h) ∧ (ErrF gbS gvS F' h) ∧ (RoF (Ow.box 1 53 #[gvR]) F' h) ∧ (ErrF gbR gvR F' h) ∧ (RoF (Ow.box 2 3 #[.int .i64 gm]) F' h) ∧ (RoF (Ow.box 5 163 (tab10 ()).toArray) F' h) ∧ law32_TreeLong_j1 l_1 i_1 K_1 b_0_1) ?_ ?_
  ·
   refine HW.seq ?_
   refine HW.region ?_
   refine oM (.bool deep) rfl rfl ?_
   refine HO.nil (thenQ_normal (?_))
   refine HW.cond deep rfl (fun c_2 => ?_) (fun c_2 => ?_)
   ·
    replace hM := hM.1 c_2
    refine HW.region ?_
    refine oM (.int .i64 i_1) rfl rfl ?_
    obtain ⟨ho_4, hM⟩ := hM
    refine oV (.int .i64 (i_1 - 1)) (q_subN _ rfl rfl rfl ho_4.1 ho_4.2) rfl ?_
    refine oV (.pointer (some ⟨b_2, 0, none⟩)) (q_fieldAddr fa_46_0 rfl rfl) rfl ?_
    refine HO.sto (want_none) rfl (st_store (c' := #[.int .i64 (i_1 - 1), .int .i64 i_1]) hS (i := 0) rfl to_3 rfl rfl rfl rfl (Nat.le_of_ble_eq_true rfl) rfl) ?_
    rintro h_5 ⟨hS, hk⟩
    replace hS : St F_1 (Ow.box b_2 46 #[.int .i64 (i_1 - 1), .int .i64 i_1] :: Ow.own 46 2 e_api_Branch vl_1 l_1 :: fr) h_5 := hS
    replace hK := hK.trans hk
    replace hG_0 := hG_0.kp hk
    replace hE_gvS := hE_gvS.kp hk
    replace hG_1 := hG_1.kp hk
    replace hE_gvR := hE_gvR.kp hk
    replace hG_2 := hG_2.kp hk
    replace hG_5 := hG_5.kp hk
    refine HO.nil (thenQ_normal (?_))
    replace hS : St F_1 (Ow.own 46 2 e_api_Branch vl_1 l_1 :: Ow.box b_2 46 #[.int .i64 (i_1 - 1), .int .i64 i_1] :: fr) h_5 := hS.perm2 [1, 0] 2 rfl rfl
    exact ⟨F_1, i_1 - 1, rfl, rfl, rfl, rfl, rfl, rfl, hK, hS, hG_0, hE_gvS, hG_1, hE_gvR, hG_2, hG_5, hM⟩
   ·
    replace hM := hM.2 c_2
    refine HW.skip (thenQ_normal (?_))
    replace hS : St F_1 (Ow.own 46 2 e_api_Branch vl_1 l_1 :: Ow.box b_2 46 #[.int .i64 0, .int .i64 i_1] :: fr) h_4 := hS.perm2 [1, 0] 2 rfl rfl
    exact ⟨F_1, 0, rfl, rfl, rfl, rfl, rfl, rfl, hK, hS, hG_0, hE_gvS, hG_1, hE_gvR, hG_2, hG_5, hM⟩
  ·
   rintro f_2 h_6 ⟨F_2, b_0_1, e1, e4, e5, e6, e7, e8, hK, hS, hG_0, hE_gvS, hG_1, hE_gvR, hG_2, hG_5, hM⟩
   unfold law32_TreeLong_j1 at hM
   refine HW.fr [(1, .bool deep), (4, .bool false), (5, .int .i64 (250 + ((u8w (n.tmod 10)).toNat : Int))), (6, vl_1), (7, .int .i64 i_1), (8, .pointer (some ⟨b_2, 0, none⟩))] ⟨e1, e4, e5, e6, e7, e8, trivial⟩ ?_
   refine HW.region ?_
   refine oM (vl_1) rfl rfl ?_
   refine oV (.agg #[.int .i64 b_0_1, .int .i64 i_1]) (q_loadAgg (cs := [.int .i64 b_0_1, .int .i64 i_1]) ta_46 rfl rfl (Blk.cells (k := 2) (hS.box 1 rfl) rfl)) rfl ?_
   refine HO.eff (want_none) rfl (st_lit (enc := e_api_Branch) (cells := #[.int .i64 b_0_1, .int .i64 i_1]) #[.int .i64 0, .int .i64 0] ([(b_0_1, i_1)] : List T_api_Branch) hS tl_22 (by decide) (by decide) (by kernel_rfl) (by kernel_rfl) rfl (by intro x hx; rfl) rfl) ?_
   rintro _ h_7 ⟨b_3, rfl, hS, hk⟩
   replace hK := hK.trans hk
   replace hG_0 := hG_0.kp hk
   replace hE_gvS := hE_gvS.kp hk
   replace hG_1 := hG_1.kp hk
   replace hE_gvR := hE_gvR.kp hk
   replace hG_2 := hG_2.kp hk
   replace hG_5 := hG_5.kp hk
   obtain ⟨ho_5, hM⟩ := hM
   refine HO.eff (want_none) rfl (st_append te_22 hS (i := 1) rfl (hS.own 0 rfl).slice rfl rfl rfl (by intro a _ u hu; simp [e_api_Branch, encI, encN, encB, encT] at hu; rcases hu with rfl | rfl <;> rfl) ho_5 (by omega)) ?_
   rintro v_1 h_8 ⟨hS, hk⟩
   replace hS : St F_2 (Ow.own 46 2 e_api_Branch (.slice (some ⟨b_3, 0, none⟩) 1 1) ([(b_0_1, i_1)] : List T_api_Branch) :: Ow.own 46 2 e_api_Branch v_1 (l_1 ++ ([(b_0_1, i_1)] : List T_api_Branch)) :: Ow.box b_2 46 #[.int .i64 b_0_1, .int .i64 i_1] :: fr) h_8 := hS
   replace hK := hK.trans hk
   replace hG_0 := hG_0.kp hk
   replace hE_gvS := hE_gvS.kp hk
   replace hG_1 := hG_1.kp hk
   replace hE_gvR := hE_gvR.kp hk
   replace hG_2 := hG_2.kp hk
   replace hG_5 := hG_5.kp hk
   refine oA (v_1) rfl rfl ?_
   refine HO.nil (blockQ_normal (thenQ_normal (?_)))
   refine HW.region ?_
   refine oM (.int .i64 i_1) rfl rfl ?_
   obtain ⟨ho_6, hM⟩ := hM
   refine oV (.int .i64 (i_1 + 1)) (q_addN _ rfl rfl rfl ho_6.1 ho_6.2) rfl ?_
   refine oA (.int .i64 (i_1 + 1)) rfl rfl ?_
   refine HO.nil (thenQ_normal (?_))
   replace hS : St F_2 (Ow.own 46 2 e_api_Branch v_1 (l_1 ++ ([(b_0_1, i_1)] : List T_api_Branch)) :: fr) h_8 := hS.perm2 [1] 3 rfl rfl
   rw [hKe_1] at hM
   exact ⟨(l_1 ++ ([(b_0_1, i_1)] : List T_api_Branch), i_1 + 1), ⟨F_2, v_1, rfl, rfl, rfl, rfl, rfl, hK, hS, hG_0, hE_gvS, hG_1, hE_gvR, hG_2, hG_5, hM.1⟩, hM.2⟩
 ·
  replace hM := hM.2 (of_decide_eq_false c_1)
  refine HW.exit (thenQ_exit (thenQ_exit (blockQ_exit (thenQ_normal (?_)))))
  refine HW.seq ?_
  refine HW.region ?_
  refine oM (vl_1) rfl rfl ?_
  have hZ_1 := hS
  have hkz_1 := (hS.freeze).2
  replace hS := hS.freeze.1
  have hL_1 : SliceF (fun bz_ => F_1 bz_ ∨ (Ow.own 46 2 e_api_Branch vl_1 l_1).foot bz_) h_2 2 e_api_Branch vl_1 l_1 := ⟨(hZ_1.own 0 rfl).slice, fun _ b hb => .inr hb⟩
  refine HO.call (want_none) rfl (ec en_38 rfl rfl) (tree_Of_walk (fr := (fr)) 0 l_1 vl_1 hS hL_1 hM) ?_
  rintro _ h_9 ⟨F_3, r0_0_1, r0_1_1, r1_1, vr0_1_1, rfl, hk, hS, _, hM⟩
  obtain ⟨hS, hk⟩ := hZ_1.back hk hS
  generalize (fun bz_ => F_3 bz_ ∧ ¬ (Ow.own 46 2 e_api_Branch vl_1 l_1).foot bz_) = F_4 at hS hk
  replace hK := hK.trans hk
  replace hG_0 := hG_0.kp hk
  replace hE_gvS := hE_gvS.kp hk
  replace hG_1 := hG_1.kp hk
  replace hE_gvR := hE_gvR.kp hk
  replace hG_2 := hG_2.kp hk
  replace hG_5 := hG_5.kp hk
  refine oM (.tuple #[.agg #[.int .i64 r0_0_1, vr0_1_1], .int .i64 r1_1]) rfl rfl ?_
  refine oV (.agg #[.int .i64 r0_0_1, vr0_1_1]) (q_extract rfl rfl) rfl ?_
  refine oV (.int .i64 r1_1) (q_extract rfl rfl) rfl ?_
  refine HO.eff (want_none) rfl (st_alloc (c := #[.int .i64 0, .slice none 0 0]) hS tz_24 rfl) ?_
  rintro _ h_10 ⟨b_4, rfl, hS, hk⟩
  replace hK := hK.trans hk
  replace hG_0 := hG_0.kp hk
  replace hE_gvS := hE_gvS.kp hk
  replace hG_1 := hG_1.kp hk
  replace hE_gvR := hE_gvR.kp hk
  replace hG_2 := hG_2.kp hk
  replace hG_5 := hG_5.kp hk
  refine HO.sto (want_none) rfl (st_storeAgg (c' := #[.int .i64 r0_0_1, vr0_1_1]) hS (i := 0) rfl ta_24 rfl rfl rfl (List.forall_mem_cons.2 ⟨rfl, (List.forall_mem_cons.2 ⟨(shp (hS.own 2 rfl).slice).one, (fun _ h => by cases h)⟩)⟩) (Nat.le_of_ble_eq_true rfl) rfl) ?_
  rintro h_11 ⟨hS, hk⟩
  replace hS : St F_4 (Ow.box b_4 24 #[.int .i64 r0_0_1, vr0_1_1] :: Ow.own 46 2 e_api_Branch vl_1 l_1 :: Ow.own 46 2 e_api_Branch vr0_1_1 r0_1_1 :: fr) h_11 := hS
  replace hK := hK.trans hk
  replace hG_0 := hG_0.kp hk
  replace hE_gvS := hE_gvS.kp hk
  replace hG_1 := hG_1.kp hk
  replace hE_gvR := hE_gvR.kp hk
  replace hG_2 := hG_2.kp hk
  replace hG_5 := hG_5.kp hk
  refine oA (.int .i64 r1_1) rfl rfl ?_
  refine HO.nil (thenQ_normal (?_))
  refine HW.seq ?_
  refine HW.seq ?_
  refine HW.region ?_
  refine oM (.int .i64 (250 + ((u8w (n.tmod 10)).toNat : Int))) rfl rfl ?_
  refine oV (.bool (decide (256 < (250 + ((u8w (n.tmod 10)).toNat : Int))))) (q_gtr rfl rfl) rfl ?_
  refine HO.nil (thenQ_normal (?_))
  refine HW.cond (decide (256 < (250 + ((u8w (n.tmod 10)).toNat : Int)))) rfl (fun c_3 => ?_) (fun c_3 => ?_)
  ·
   replace hM := hM.1 (of_decide_eq_true c_3)
   refine HW.seq_mid (fun f h => ∃ (F' : Fz) (b_5 : Bool), f 1 = .bool deep ∧ f 4 = .bool b_5 ∧ f 5 = .int .i64 (250 + ((u8w (n.tmod 10)).toNat : Int)) ∧ f 9 = .pointer (some ⟨b_4, 0, none⟩) ∧ f 10 = .int .i64 r1_1 ∧ Kp F h0 F' h ∧ St F' (Ow.box b_4 24 #[.int .i64 r0_0_1, vr0_1_1] :: Ow.own 46 2 e_api_Branch vr0_1_1 r0_1_1 :: fr) h ∧ (RoF (Ow.box 0 53 #[gvS]) F' h) ∧ (ErrF gbS gvS F' h) ∧ (RoF (Ow.box 1 53 #[gvR]) F' h) ∧ (ErrF gbR gvR F' h) ∧ (RoF (Ow.box 2 3 #[.int .i64 gm]) F' h) ∧ (RoF (Ow.box 5 163 (tab10 ()).toArray) F' h) ∧ law32_TreeLong_j2 Q b_5) ?_ ?_
   ·
    refine HW.region ?_
    refine oM (.int .i64 r1_1) rfl rfl ?_
    refine oV (.bool (decide (r1_1 = 6))) (q_eql rfl rfl) rfl ?_
    refine oM (.bool (decide (r1_1 = 6))) rfl rfl ?_
    rcases Bool.eq_false_or_eq_true (decide (r1_1 = 6)) with c_4 | c_4
    ·
     replace hM := hM.1 (of_decide_eq_true c_4)
     refine HO.val (v := .pointer (some ⟨b_4, 1, none⟩)) (want_by rfl rfl c_4) rfl (q_fieldAddr fa_24_1 rfl rfl) ?_
     refine HO.val (v := vr0_1_1) (want_by rfl rfl c_4) rfl (q_load to_22 rfl (Blk.cell (hS.box 0 rfl) rfl)) ?_
     refine HO.val (v := .int .i64 (r0_1_1.length : Int)) (want_by rfl rfl c_4) rfl (q_len ts_22 (shp (hS.own 2 rfl).slice) rfl rfl) ?_
     refine HO.val (v := .bool (decide ((r0_1_1.length : Int) = 0))) (want_by rfl rfl c_4) rfl (q_eql rfl rfl) ?_
     refine oV (.bool (decide ((r0_1_1.length : Int) = 0))) (q_pickK true rfl c_4 rfl) rfl ?_
     refine oM (.bool (decide ((r0_1_1.length : Int) = 0))) rfl rfl ?_
     rcases Bool.eq_false_or_eq_true (decide ((r0_1_1.length : Int) = 0)) with c_5 | c_5
     ·
      replace hM := hM.1 (of_decide_eq_true c_5)
      refine HO.call (want_by rfl rfl c_5) rfl (ec en_14 rfl rfl) (law32_lives_walk (fr := (Ow.box b_4 24 #[.int .i64 r0_0_1, vr0_1_1] :: Ow.own 46 2 e_api_Branch vl_1 l_1 :: Ow.own 46 2 e_api_Branch vr0_1_1 r0_1_1 :: fr)) gvS gbS gvR gbR gm hS hG_0 hE_gvS hG_1 hE_gvR hG_2 hG_5 hD hM) ?_
      rintro _ h_12 ⟨F_5, r_2, rfl, hk, hS, _, _, _, _, _, _, hM⟩
      replace hK := hK.trans hk
      replace hG_0 := hG_0.kp hk
      replace hE_gvS := hE_gvS.kp hk
      replace hG_1 := hG_1.kp hk
      replace hE_gvR := hE_gvR.kp hk
      replace hG_2 := hG_2.kp hk
      replace hG_5 := hG_5.kp hk
      refine oV (.bool r_2) (q_pickK true rfl c_5 rfl) rfl ?_
      refine oA (.bool r_2) rfl rfl ?_
      refine HO.nil (thenQ_normal (?_))
      replace hS : St F_5 (Ow.box b_4 24 #[.int .i64 r0_0_1, vr0_1_1] :: Ow.own 46 2 e_api_Branch vr0_1_1 r0_1_1 :: fr) h_12 := hS.perm2 [0, 2] 3 rfl rfl
      exact ⟨F_5, r_2, rfl, rfl, rfl, rfl, rfl, hK, hS, hG_0, hE_gvS, hG_1, hE_gvR, hG_2, hG_5, hM⟩
     ·
      replace hM := hM.2 (of_decide_eq_false c_5)
      refine HO.past (past_by rfl rfl c_5) rfl ?_
      refine oV (.bool false) (q_pickK false rfl c_5 rfl) rfl ?_
      refine oA (.bool false) rfl rfl ?_
      refine HO.nil (thenQ_normal (?_))
      replace hS : St F_4 (Ow.box b_4 24 #[.int .i64 r0_0_1, vr0_1_1] :: Ow.own 46 2 e_api_Branch vr0_1_1 r0_1_1 :: fr) h_11 := hS.perm2 [0, 2] 3 rfl rfl
      exact ⟨F_4, false, rfl, rfl, rfl, rfl, rfl, hK, hS, hG_0, hE_gvS, hG_1, hE_gvR, hG_2, hG_5, hM⟩
    ·
     replace hM := hM.2 (of_decide_eq_false c_4)
     refine HO.past (past_by rfl rfl c_4) rfl ?_
     refine HO.past (past_by rfl rfl c_4) rfl ?_
     refine HO.past (past_by rfl rfl c_4) rfl ?_
     refine HO.past (past_by rfl rfl c_4) rfl ?_
     refine oV (.bool false) (q_pickK false rfl c_4 rfl) rfl ?_
     refine oM (.bool false) rfl rfl ?_
     refine HO.past (past_some rfl rfl) rfl ?_
     refine oV (.bool false) (q_pick rfl rfl) rfl ?_
     refine oA (.bool false) rfl rfl ?_
     refine HO.nil (thenQ_normal (?_))
     replace hS : St F_4 (Ow.box b_4 24 #[.int .i64 r0_0_1, vr0_1_1] :: Ow.own 46 2 e_api_Branch vr0_1_1 r0_1_1 :: fr) h_11 := hS.perm2 [0, 2] 3 rfl rfl
     exact ⟨F_4, false, rfl, rfl, rfl, rfl, rfl, hK, hS, hG_0, hE_gvS, hG_1, hE_gvR, hG_2, hG_5, hM⟩
   ·
    rintro f_3 h_13 ⟨F_6, b_5, e1, e4, e5, e9, e10, hK, hS, hG_0, hE_gvS, hG_1, hE_gvR, hG_2, hG_5, hM⟩
    unfold law32_TreeLong_j2 at hM
    refine HW.fr [(1, .bool deep), (4, .bool b_5), (5, .int .i64 (250 + ((u8w (n.tmod 10)).toNat : Int))), (9, .pointer (some ⟨b_4, 0, none⟩)), (10, .int .i64 r1_1)] ⟨e1, e4, e5, e9, e10, trivial⟩ ?_
    refine HW.ret (thenQ_ret (?_))
    refine ⟨.inr rfl, .bool b_5, res1 rfl (rt rfl), ?_⟩
    replace hS : St F_6 (fr) h_13 := hS.perm2 [] 2 rfl rfl
    exact ⟨F_6, b_5, rfl, hK, hS, hG_0, hE_gvS, hG_1, hE_gvR, hG_2, hG_5, hM⟩
  ·
   replace hM := hM.2 (of_decide_eq_false c_3)
   refine HW.skip (thenQ_normal (?_))
   refine HW.seq ?_
   refine HW.region ?_
   refine oA (.int .i64 1) rfl rfl ?_
   refine HO.nil (thenQ_normal (?_))
   refine HW.seq_mid (fun f h => ∃ (F' : Fz) (want_1 : Int), f 4 = .bool false ∧ f 5 = .int .i64 (250 + ((u8w (n.tmod 10)).toNat : Int)) ∧ f 9 = .pointer (some ⟨b_4, 0, none⟩) ∧ f 10 = .int .i64 r1_1 ∧ f 11 = .int .i64 want_1 ∧ Kp F h0 F' h ∧ St F' (Ow.box b_4 24 #[.int .i64 r0_0_1, vr0_1_1] :: Ow.own 46 2 e_api_Branch vr0_1_1 r0_1_1 :: fr) h ∧ (RoF (Ow.box 0 53 #[gvS]) F' h) ∧ (ErrF gbS gvS F' h) ∧ (RoF (Ow.box 1 53 #[gvR]) F' h) ∧ (ErrF gbR gvR F' h) ∧ (RoF (Ow.box 2 3 #[.int .i64 gm]) F' h) ∧ (RoF (Ow.box 5 163 (tab10 ()).toArray) F' h) ∧ law32_TreeLong_j3 n Q r0_0_1 r0_1_1 r1_1 want_1) ?_ ?_
   ·
    refine HW.seq ?_
    refine HW.region ?_
    refine oM (.bool deep) rfl rfl ?_
    refine HO.nil (thenQ_normal (?_))
    refine HW.cond deep rfl (fun c_6 => ?_) (fun c_6 => ?_)
    ·
     replace hM := hM.1 c_6
     refine HW.region ?_
     refine oM (.int .i64 (250 + ((u8w (n.tmod 10)).toNat : Int))) rfl rfl ?_
     obtain ⟨ho_7, hM⟩ := hM
     refine oV (.int .i64 ((250 + ((u8w (n.tmod 10)).toNat : Int)) - 1)) (q_subN _ rfl rfl rfl ho_7.1 ho_7.2) rfl ?_
     refine oA (.int .i64 ((250 + ((u8w (n.tmod 10)).toNat : Int)) - 1)) rfl rfl ?_
     refine HO.nil (thenQ_normal (?_))
     replace hS : St F_4 (Ow.box b_4 24 #[.int .i64 r0_0_1, vr0_1_1] :: Ow.own 46 2 e_api_Branch vr0_1_1 r0_1_1 :: fr) h_11 := hS.perm2 [0, 2] 3 rfl rfl
     exact ⟨F_4, (250 + ((u8w (n.tmod 10)).toNat : Int)) - 1, rfl, rfl, rfl, rfl, rfl, hK, hS, hG_0, hE_gvS, hG_1, hE_gvR, hG_2, hG_5, hM⟩
    ·
     replace hM := hM.2 c_6
     refine HW.skip (thenQ_normal (?_))
     replace hS : St F_4 (Ow.box b_4 24 #[.int .i64 r0_0_1, vr0_1_1] :: Ow.own 46 2 e_api_Branch vr0_1_1 r0_1_1 :: fr) h_11 := hS.perm2 [0, 2] 3 rfl rfl
     exact ⟨F_4, 1, rfl, rfl, rfl, rfl, rfl, hK, hS, hG_0, hE_gvS, hG_1, hE_gvR, hG_2, hG_5, hM⟩
   ·
    rintro f_4 h_14 ⟨F_7, want_1, e4, e5, e9, e10, e11, hK, hS, hG_0, hE_gvS, hG_1, hE_gvR, hG_2, hG_5, hM⟩
    unfold law32_TreeLong_j3 at hM
    refine HW.fr [(4, .bool false), (5, .int .i64 (250 + ((u8w (n.tmod 10)).toNat : Int))), (9, .pointer (some ⟨b_4, 0, none⟩)), (10, .int .i64 r1_1), (11, .int .i64 want_1)] ⟨e4, e5, e9, e10, e11, trivial⟩ ?_
    refine HW.seq ?_
    refine HW.region ?_
    refine oM (.int .i64 r1_1) rfl rfl ?_
    refine oV (.bool (decide (r1_1 = 0))) (q_eql rfl rfl) rfl ?_
    refine oM (.bool (decide (r1_1 = 0))) rfl rfl ?_
    rcases Bool.eq_false_or_eq_true (decide (r1_1 = 0)) with c_7 | c_7
    ·
     replace hM := hM.1 (of_decide_eq_true c_7)
     refine HO.val (v := .agg #[.int .i64 r0_0_1, vr0_1_1]) (want_by rfl rfl c_7) rfl (q_loadAgg (cs := [.int .i64 r0_0_1, vr0_1_1]) ta_24 rfl rfl (Blk.cells (k := 2) (hS.box 0 rfl) rfl)) ?_
     replace hS : St F_7 (Ow.own 46 2 e_api_Branch vr0_1_1 r0_1_1 :: Ow.box b_4 24 #[.int .i64 r0_0_1, vr0_1_1] :: fr) h_14 := hS.perm2 [1, 0] 2 rfl rfl
     have hZ_2 := hS
     have hkz_2 := (hS.freeze).2
     replace hS := hS.freeze.1
     have hL_2 : SliceF (fun bz_ => F_7 bz_ ∨ (Ow.own 46 2 e_api_Branch vr0_1_1 r0_1_1).foot bz_) h_14 2 e_api_Branch vr0_1_1 r0_1_1 := ⟨(hZ_2.own 0 rfl).slice, fun _ b hb => .inr hb⟩
     refine HO.call (want_by rfl rfl c_7) rfl (ec en_28 rfl rfl) (tree_Nodes_walk (fr := (Ow.box b_4 24 #[.int .i64 r0_0_1, vr0_1_1] :: fr)) r0_0_1 r0_1_1 vr0_1_1 hS hL_2 hM) ?_
     rintro vr_1 h_15 ⟨F_8, r_3, _, rfl, hk, hS, _, hM⟩
     obtain ⟨hS, hk⟩ := hZ_2.back hk hS
     generalize (fun bz_ => F_8 bz_ ∧ ¬ (Ow.own 46 2 e_api_Branch vr0_1_1 r0_1_1).foot bz_) = F_9 at hS hk
     replace hK := hK.trans hk
     replace hG_0 := hG_0.kp hk
     replace hE_gvS := hE_gvS.kp hk
     replace hG_1 := hG_1.kp hk
     replace hE_gvR := hE_gvR.kp hk
     replace hG_2 := hG_2.kp hk
     replace hG_5 := hG_5.kp hk
     refine HO.val (v := .int .i64 (r_3.length : Int)) (want_by rfl rfl c_7) rfl (q_len ts_36 (shp (hS.own 1 rfl).slice) rfl rfl) ?_
     refine HO.val (v := .int .i64 (250 + ((u8w (n.tmod 10)).toNat : Int))) (want_by rfl rfl c_7) rfl (q_move rfl) ?_
     refine HO.val (v := .bool (decide ((r_3.length : Int) = (250 + ((u8w (n.tmod 10)).toNat : Int))))) (want_by rfl rfl c_7) rfl (q_eql rfl rfl) ?_
     refine oV (.bool (decide ((r_3.length : Int) = (250 + ((u8w (n.tmod 10)).toNat : Int))))) (q_pickK true rfl c_7 rfl) rfl ?_
     refine oM (.bool (decide ((r_3.length : Int) = (250 + ((u8w (n.tmod 10)).toNat : Int))))) rfl rfl ?_
     rcases Bool.eq_false_or_eq_true (decide ((r_3.length : Int) = (250 + ((u8w (n.tmod 10)).toNat : Int)))) with c_8 | c_8
     ·
      replace hM := hM.1 (of_decide_eq_true c_8)
      refine HO.val (v := .agg #[.int .i64 r0_0_1, vr0_1_1]) (want_by rfl rfl c_8) rfl (q_loadAgg (cs := [.int .i64 r0_0_1, vr0_1_1]) ta_24 rfl rfl (Blk.cells (k := 2) (hS.box 2 rfl) rfl)) ?_
      have hZ_3 := hS
      have hkz_3 := (hS.freeze).2
      replace hS := hS.freeze.1
      have hL_3 : SliceF (fun bz_ => F_9 bz_ ∨ (Ow.own 46 2 e_api_Branch vr0_1_1 r0_1_1).foot bz_) h_15 2 e_api_Branch vr0_1_1 r0_1_1 := ⟨(hZ_3.own 0 rfl).slice, fun _ b hb => .inr hb⟩
      refine HO.call (want_by rfl rfl c_8) rfl (ec en_29 rfl rfl) (tree_Depth_walk (fr := (Ow.own 3 1 encI vr_1 r_3 :: Ow.box b_4 24 #[.int .i64 r0_0_1, vr0_1_1] :: fr)) r0_0_1 r0_1_1 vr0_1_1 hS hL_3 hM) ?_
      rintro _ h_16 ⟨F_10, r_4, rfl, hk, hS, _, hM⟩
      obtain ⟨hS, hk⟩ := hZ_3.back hk hS
      generalize (fun bz_ => F_10 bz_ ∧ ¬ (Ow.own 46 2 e_api_Branch vr0_1_1 r0_1_1).foot bz_) = F_11 at hS hk
      replace hK := hK.trans hk
      replace hG_0 := hG_0.kp hk
      replace hE_gvS := hE_gvS.kp hk
      replace hG_1 := hG_1.kp hk
      replace hE_gvR := hE_gvR.kp hk
      replace hG_2 := hG_2.kp hk
      replace hG_5 := hG_5.kp hk
      refine HO.val (v := .int .i64 want_1) (want_by rfl rfl c_8) rfl (q_move rfl) ?_
      refine HO.val (v := .bool (decide (r_4 = want_1))) (want_by rfl rfl c_8) rfl (q_eql rfl rfl) ?_
      refine oV (.bool (decide (r_4 = want_1))) (q_pickK true rfl c_8 rfl) rfl ?_
      refine oM (.bool (decide (r_4 = want_1))) rfl rfl ?_
      rcases Bool.eq_false_or_eq_true (decide (r_4 = want_1)) with c_9 | c_9
      ·
       replace hM := hM.1 (of_decide_eq_true c_9)
       refine HO.call (want_by rfl rfl c_9) rfl (ec en_14 rfl rfl) (law32_lives_walk (fr := (Ow.own 46 2 e_api_Branch vr0_1_1 r0_1_1 :: Ow.own 3 1 encI vr_1 r_3 :: Ow.box b_4 24 #[.int .i64 r0_0_1, vr0_1_1] :: fr)) gvS gbS gvR gbR gm hS hG_0 hE_gvS hG_1 hE_gvR hG_2 hG_5 hD hM) ?_
       rintro _ h_17 ⟨F_12, r_5, rfl, hk, hS, _, _, _, _, _, _, hM⟩
       replace hK := hK.trans hk
       replace hG_0 := hG_0.kp hk
       replace hE_gvS := hE_gvS.kp hk
       replace hG_1 := hG_1.kp hk
       replace hE_gvR := hE_gvR.kp hk
       replace hG_2 := hG_2.kp hk
       replace hG_5 := hG_5.kp hk
       refine oV (.bool r_5) (q_pickK true rfl c_9 rfl) rfl ?_
       refine oA (.bool r_5) rfl rfl ?_
       refine HO.nil (thenQ_normal (?_))
       refine HW.ret (?_)
       refine ⟨.inr rfl, .bool r_5, res1 rfl (rt rfl), ?_⟩
       replace hS : St F_12 (fr) h_17 := hS.perm2 [] 3 rfl rfl
       exact ⟨F_12, r_5, rfl, hK, hS, hG_0, hE_gvS, hG_1, hE_gvR, hG_2, hG_5, hM⟩
      ·
       replace hM := hM.2 (of_decide_eq_false c_9)
       refine HO.past (past_by rfl rfl c_9) rfl ?_
       refine oV (.bool false) (q_pickK false rfl c_9 rfl) rfl ?_
       refine oA (.bool false) rfl rfl ?_
       refine HO.nil (thenQ_normal (?_))
       refine HW.ret (?_)
       refine ⟨.inr rfl, .bool false, res1 rfl (rt rfl), ?_⟩
       replace hS : St F_11 (fr) h_16 := hS.perm2 [] 3 rfl rfl
       exact ⟨F_11, false, rfl, hK, hS, hG_0, hE_gvS, hG_1, hE_gvR, hG_2, hG_5, hM⟩
     ·
      replace hM := hM.2 (of_decide_eq_false c_8)
      refine HO.past (past_by rfl rfl c_8) rfl ?_
      refine HO.past (past_by rfl rfl c_8) rfl ?_
      refine HO.past (past_by rfl rfl c_8) rfl ?_
      refine HO.past (past_by rfl rfl c_8) rfl ?_
      refine oV (.bool false) (q_pickK false rfl c_8 rfl) rfl ?_
      refine oM (.bool false) rfl rfl ?_
      refine HO.past (past_some rfl rfl) rfl ?_
      refine oV (.bool false) (q_pick rfl rfl) rfl ?_
      refine oA (.bool false) rfl rfl ?_
      refine HO.nil (thenQ_normal (?_))
      refine HW.ret (?_)
      refine ⟨.inr rfl, .bool false, res1 rfl (rt rfl), ?_⟩
      replace hS : St F_9 (fr) h_15 := hS.perm2 [] 3 rfl rfl
      exact ⟨F_9, false, rfl, hK, hS, hG_0, hE_gvS, hG_1, hE_gvR, hG_2, hG_5, hM⟩
    ·
     replace hM := hM.2 (of_decide_eq_false c_7)
     refine HO.past (past_by rfl rfl c_7) rfl ?_
     refine HO.past (past_by rfl rfl c_7) rfl ?_
     refine HO.past (past_by rfl rfl c_7) rfl ?_
     refine HO.past (past_by rfl rfl c_7) rfl ?_
     refine HO.past (past_by rfl rfl c_7) rfl ?_
     refine oV (.bool false) (q_pickK false rfl c_7 rfl) rfl ?_
     refine oM (.bool false) rfl rfl ?_
     refine HO.past (past_some rfl rfl) rfl ?_
     refine HO.past (past_some rfl rfl) rfl ?_
     refine HO.past (past_some rfl rfl) rfl ?_
     refine HO.past (past_some rfl rfl) rfl ?_
     refine oV (.bool false) (q_pick rfl rfl) rfl ?_
     refine oM (.bool false) rfl rfl ?_
     refine HO.past (past_some rfl rfl) rfl ?_
     refine oV (.bool false) (q_pick rfl rfl) rfl ?_
     refine oA (.bool false) rfl rfl ?_
     refine HO.nil (thenQ_normal (?_))
     refine HW.ret (?_)
     refine ⟨.inr rfl, .bool false, res1 rfl (rt rfl), ?_⟩
     replace hS : St F_7 (fr) h_14 := hS.perm2 [] 2 rfl rfl
     exact ⟨F_7, false, rfl, hK, hS, hG_0, hE_gvS, hG_1, hE_gvR, hG_2, hG_5, hM⟩
end Go.Wk
