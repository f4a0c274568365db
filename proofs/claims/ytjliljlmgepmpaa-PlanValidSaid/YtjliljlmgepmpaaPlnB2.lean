/- Walks of plans: what three laws share. -/
import Derived.Test.YtjliljlmgepmpaaPlnB1
set_option linter.unusedSimpArgs false
set_option linter.unusedVariables false
set_option linter.unusedSectionVars false
namespace Go.Wk
open Go.HL
open Go.Proofs hiding encI
variable [DM]

def ref32_Next_l1 (t_Links : List T_api_Branch) (n : Int) (Q : (List Int) → Prop) (K_1 : (List Int) → Int → Prop) (out_1 : List Int) (i_1 : Int) : Prop :=
 (i_1 < (t_Links.length : Int) → ((0 : Int) ≤ i_1 ∧ i_1 < (t_Links.length : Int)) ∧ ((((gi t_Links i_1).1) = n → ((out_1.length + ([(gi t_Links i_1).2] : List Int).length) * 8 ≤ 140737488355328) ∧ ((I64 (i_1 + 1)) ∧ (K_1 (out_1 ++ ([(gi t_Links i_1).2] : List Int)) (i_1 + 1)))) ∧ (¬ (((gi t_Links i_1).1) = n) → (I64 (i_1 + 1)) ∧ (K_1 out_1 (i_1 + 1))))) ∧ (¬ (i_1 < (t_Links.length : Int)) → Q out_1)
def ref32_Next_W (t_Root : Int) (t_Links : List T_api_Branch) (n : Int) (Q : (List Int) → Prop) : Prop :=
 loopW (fun (K_1 : (List Int × Int) → Prop) (s : List Int × Int) => ref32_Next_l1 t_Links n Q (fun out_1 i_1 => K_1 (out_1, i_1)) s.1 s.2) ([], 0)
set_option maxHeartbeats 40000000 in
set_option maxRecDepth 100000 in
theorem ref32_Next_walk {F : Fz} {fr : List Ow} {h0 : Heap} (t_Root : Int) (t_Links : List T_api_Branch) (n : Int) (vt_Links : Value) (hS : St F (fr) h0) (hL_t_Links : SliceF F h0 2 e_api_Branch vt_Links t_Links) {Q : (List Int) → Prop} (hM : ref32_Next_W t_Root t_Links n Q) :
  HC Try.prog 57 #[.agg #[.int .i64 t_Root, vt_Links], .int .i64 n] h0 fun u h' => ∃ (F' : Fz) (r_1 : List Int) (vr_1 : Value), u = vr_1 ∧ Kp F h0 F' h' ∧ St F' (Ow.own 3 1 encI vr_1 r_1 :: fr) h' ∧ (SliceF F' h' 2 e_api_Branch vt_Links t_Links) ∧ Q r_1 := by
 unfold ref32_Next_W at hM
 have hK := Kp.refl F h0
 refine HC.of_HW (n := 33) Try.func57 rfl rfl (Nat.le_of_ble_eq_true rfl) ?_
 refine HW.seq ?_
 refine HW.region ?_
 refine HO.eff (want_none) rfl (st_box (c := #[.int .i64 t_Root, vt_Links]) (k' := 2) hS rfl rfl) ?_
 rintro _ h_1 ⟨b_1, rfl, hS, hk⟩
 replace hK := hK.trans hk
 replace hL_t_Links := hL_t_Links.kp hk
 refine oA (.slice none 0 0) rfl rfl ?_
 refine HO.nil (thenQ_normal (?_))
 refine HW.seq ?_
 refine HW.region ?_
 refine HO.eff (want_none) rfl (st_litEmpty (α := Int) encI hS tl_31) ?_
 rintro _ h_2 ⟨b_2, rfl, hS, hk⟩
 replace hK := hK.trans hk
 replace hL_t_Links := hL_t_Links.kp hk
 refine oA (.slice (some ⟨b_2, 0, none⟩) 0 0) rfl rfl ?_
 refine HO.nil (thenQ_normal (?_))
 refine HW.seq ?_
 refine HW.seq ?_
 refine HW.region ?_
 refine oA (.int .i64 0) rfl rfl ?_
 refine HO.nil (thenQ_normal (?_))
 refine HW.block ?_
 obtain ⟨I_1, m_1, hI_1, hR_1⟩ := hM
 replace hS : St F (Ow.box b_1 46 #[.int .i64 t_Root, vt_Links] :: Ow.own 3 1 encI (.slice (some ⟨b_2, 0, none⟩) 0 0) ([] : List Int) :: fr) h_2 := hS.perm2 [1, 0] 2 rfl rfl
 refine HW.loop (S := List Int × Int) (fun s f h => match s with | (out_1, i_1) => ∃ (F' : Fz) (vout_1 : Value), f 1 = .int .i64 n ∧ f 2 = .pointer (some ⟨b_1, 0, none⟩) ∧ f 4 = .slice none 0 0 ∧ f 5 = vout_1 ∧ f 6 = .int .i64 i_1 ∧ Kp F h0 F' h ∧ St F' (Ow.box b_1 46 #[.int .i64 t_Root, vt_Links] :: Ow.own 3 1 encI vout_1 out_1 :: fr) h ∧ (SliceF F' h 2 e_api_Branch vt_Links t_Links) ∧ I_1 (out_1, i_1)) m_1 ([], 0) ⟨F, .slice (some ⟨b_2, 0, none⟩) 0 0, rfl, rfl, rfl, rfl, rfl, hK, hS, hL_t_Links, hI_1⟩ ?_
 rintro ⟨out_1, i_1⟩ f_1 h_3 ⟨F_1, vout_1, e1, e2, e4, e5, e6, hK, hS, hL_t_Links, hI0⟩
 obtain ⟨K_1, hKe_1⟩ : ∃ K : (List Int) → Int → Prop, K = fun out_1' i_1' => I_1 (out_1', i_1') ∧ m_1 (out_1', i_1') < m_1 (out_1, i_1) := ⟨_, rfl⟩
 have hM : ref32_Next_l1 t_Links n Q K_1 out_1 i_1 := by rw [hKe_1]; exact hR_1 (out_1, i_1) hI0
 unfold ref32_Next_l1 at hM
 refine HW.fr [(1, .int .i64 n), (2, .pointer (some ⟨b_1, 0, none⟩)), (4, .slice none 0 0), (5, vout_1), (6, .int .i64 i_1)] ⟨e1, e2, e4, e5, e6, trivial⟩ ?_
 refine HW.seq ?_
 refine HW.seq ?_
 refine HW.region ?_
 refine oM (.int .i64 i_1) rfl rfl ?_
 refine oV (.pointer (some ⟨b_1, 1, none⟩)) (q_fieldAddr fa_46_1 rfl rfl) rfl ?_
 refine oV (vt_Links) (q_load to_44 rfl (Blk.cell (hS.box 0 rfl) rfl)) rfl ?_
 refine oV (.int .i64 (t_Links.length : Int)) (q_len ts_44 (shp hL_t_Links.is) rfl rfl) rfl ?_
 refine oV (.bool (decide (i_1 < (t_Links.length : Int)))) (q_lss rfl rfl) rfl ?_
 refine HO.nil (thenQ_normal (?_))
 refine HW.cond (decide (i_1 < (t_Links.length : Int))) rfl (fun c_1 => ?_) (fun c_1 => ?_)
 ·
  replace hM := hM.1 (of_decide_eq_true c_1)
  refine HW.skip (thenQ_normal (?_))
  refine HW.seq ?_
  refine HW.block ?_
  refine HW.seq ?_
  refine HW.region ?_
  refine oV (.pointer (some ⟨b_1, 1, none⟩)) (q_fieldAddr fa_46_1 rfl rfl) rfl ?_
  refine oV (vt_Links) (q_load to_44 rfl (Blk.cell (hS.box 0 rfl) rfl)) rfl ?_
  refine oM (.int .i64 i_1) rfl rfl ?_
  obtain ⟨ho_1, hM⟩ := hM
  refine oV (elemPtr 2 vt_Links (i_1).toNat) (q_idx ts_44 hL_t_Links.is rfl rfl ho_1) rfl ?_
  refine oV (fieldPtr 2 vt_Links (i_1).toNat 0) (q_fldElem fa_67_0 hL_t_Links.is rfl ho_1) rfl ?_
  refine oV (.int .i64 ((gi t_Links i_1).1)) (q_ldField to_3 hL_t_Links.is rfl ho_1 (by decide) rfl) rfl ?_
  refine oM (.int .i64 n) rfl rfl ?_
  refine oV (.bool (decide (((gi t_Links i_1).1) = n))) (q_eql rfl rfl) rfl ?_
  refine HO.nil (thenQ_normal (?_))
  refine HW.cond (decide (((gi t_Links i_1).1) = n)) rfl (fun c_2 => ?_) (fun c_2 => ?_)
  ·
   replace hM := hM.1 (of_decide_eq_true c_2)
   refine HW.region ?_
   refine oM (vout_1) rfl rfl ?_
   refine oV (.pointer (some ⟨b_1, 1, none⟩)) (q_fieldAddr fa_46_1 rfl rfl) rfl ?_
   refine oV (vt_Links) (q_load to_44 rfl (Blk.cell (hS.box 0 rfl) rfl)) rfl ?_
   refine oM (.int .i64 i_1) rfl rfl ?_
   refine oV (elemPtr 2 vt_Links (i_1).toNat) (q_idx ts_44 hL_t_Links.is rfl rfl ho_1) rfl ?_
   refine oV (fieldPtr 2 vt_Links (i_1).toNat 1) (q_fldElem fa_67_1 hL_t_Links.is rfl ho_1) rfl ?_
   refine oV (.int .i64 ((gi t_Links i_1).2)) (q_ldField to_3 hL_t_Links.is rfl ho_1 (by decide) rfl) rfl ?_
   refine HO.eff (want_none) rfl (st_lit (enc := encI) (cells := #[.int .i64 ((gi t_Links i_1).2)]) #[.int .i64 0] ([(gi t_Links i_1).2] : List Int) hS tl_31 (by decide) (by decide) (by kernel_rfl) (by kernel_rfl) rfl (by intro x hx; rfl) rfl) ?_
   rintro _ h_4 ⟨b_3, rfl, hS, hk⟩
   replace hK := hK.trans hk
   replace hL_t_Links := hL_t_Links.kp hk
   obtain ⟨ho_2, hM⟩ := hM
   refine HO.eff (want_none) rfl (st_append te_31 hS (i := 2) rfl (hS.own 0 rfl).slice rfl rfl rfl (by intro a _ u hu; simp [encI, encI, encN, encB, encT] at hu; subst hu; rfl) ho_2 (by omega)) ?_
   rintro v_1 h_5 ⟨hS, hk⟩
   replace hS : St F_1 (Ow.own 3 1 encI (.slice (some ⟨b_3, 0, none⟩) 1 1) ([(gi t_Links i_1).2] : List Int) :: Ow.box b_1 46 #[.int .i64 t_Root, vt_Links] :: Ow.own 3 1 encI v_1 (out_1 ++ ([(gi t_Links i_1).2] : List Int)) :: fr) h_5 := hS
   replace hK := hK.trans hk
   replace hL_t_Links := hL_t_Links.kp hk
   refine oA (v_1) rfl rfl ?_
   refine HO.nil (blockQ_normal (thenQ_normal (?_)))
   refine HW.region ?_
   refine oM (.int .i64 i_1) rfl rfl ?_
   obtain ⟨ho_3, hM⟩ := hM
   refine oV (.int .i64 (i_1 + 1)) (q_addN _ rfl rfl rfl ho_3.1 ho_3.2) rfl ?_
   refine oA (.int .i64 (i_1 + 1)) rfl rfl ?_
   refine HO.nil (thenQ_normal (?_))
   replace hS : St F_1 (Ow.box b_1 46 #[.int .i64 t_Root, vt_Links] :: Ow.own 3 1 encI v_1 (out_1 ++ ([(gi t_Links i_1).2] : List Int)) :: fr) h_5 := hS.perm2 [1, 2] 3 rfl rfl
   rw [hKe_1] at hM
   exact ⟨(out_1 ++ ([(gi t_Links i_1).2] : List Int), i_1 + 1), ⟨F_1, v_1, rfl, rfl, rfl, rfl, rfl, hK, hS, hL_t_Links, hM.1⟩, hM.2⟩
  ·
   replace hM := hM.2 (of_decide_eq_false c_2)
   refine HW.skip (blockQ_normal (thenQ_normal (?_)))
   refine HW.region ?_
   refine oM (.int .i64 i_1) rfl rfl ?_
   obtain ⟨ho_4, hM⟩ := hM
   refine oV (.int .i64 (i_1 + 1)) (q_addN _ rfl rfl rfl ho_4.1 ho_4.2) rfl ?_
   refine oA (.int .i64 (i_1 + 1)) rfl rfl ?_
   refine HO.nil (thenQ_normal (?_))
   rw [hKe_1] at hM
   exact ⟨(out_1, i_1 + 1), ⟨F_1, vout_1, rfl, rfl, rfl, rfl, rfl, hK, hS, hL_t_Links, hM.1⟩, hM.2⟩
 ·
  replace hM := hM.2 (of_decide_eq_false c_1)
  refine HW.exit (thenQ_exit (thenQ_exit (blockQ_exit (thenQ_normal (?_)))))
  refine HW.seq ?_
  refine HW.region ?_
  refine oM (vout_1) rfl rfl ?_
  refine oA (vout_1) rfl rfl ?_
  refine HO.nil (thenQ_normal (?_))
  refine HW.ret (?_)
  refine ⟨.inr rfl, vout_1, res1 rfl (rt rfl), ?_⟩
  replace hS : St F_1 (Ow.own 3 1 encI vout_1 out_1 :: fr) h_3 := hS.perm2 [1] 2 rfl rfl
  exact ⟨F_1, out_1, vout_1, rfl, hK, hS, hL_t_Links, hM⟩

def ref32_Leaves_j1 (r_2 : List Int) (out_1 : List Int) (i_1 : Int) (K_1 : (List Int) → Int → Prop) (b_3 : Bool) : Prop :=
 (b_3 = true → ((0 : Int) ≤ i_1 ∧ i_1 < (r_2.length : Int)) ∧ (((out_1.length + ([(gi r_2 i_1)] : List Int).length) * 8 ≤ 140737488355328) ∧ ((I64 (i_1 + 1)) ∧ (K_1 (out_1 ++ ([(gi r_2 i_1)] : List Int)) (i_1 + 1))))) ∧ (b_3 = false → (I64 (i_1 + 1)) ∧ (K_1 out_1 (i_1 + 1)))
def ref32_Leaves_l1 (t_Root : Int) (t_Links : List T_api_Branch) (Q : (List Int) → Prop) (r_2 : List Int) (K_1 : (List Int) → Int → Prop) (out_1 : List Int) (i_1 : Int) : Prop :=
 (i_1 < (r_2.length : Int) → ((0 : Int) ≤ i_1 ∧ i_1 < (r_2.length : Int)) ∧ ((¬ ((gi r_2 i_1) = t_Root) → ref32_Next_W t_Root t_Links (gi r_2 i_1) (fun r_3 => ref32_Leaves_j1 r_2 out_1 i_1 K_1 (decide ((r_3.length : Int) = 0)))) ∧ ((gi r_2 i_1) = t_Root → ref32_Leaves_j1 r_2 out_1 i_1 K_1 false))) ∧ (¬ (i_1 < (r_2.length : Int)) → Q out_1)
def ref32_Leaves_W (t_Root : Int) (t_Links : List T_api_Branch) (Q : (List Int) → Prop) : Prop :=
 ref32_Nodes_W t_Root t_Links (fun r_2 => loopW (fun (K_1 : (List Int × Int) → Prop) (s : List Int × Int) => ref32_Leaves_l1 t_Root t_Links Q r_2 (fun out_1 i_1 => K_1 (out_1, i_1)) s.1 s.2) ([], 0))
set_option maxHeartbeats 40000000 in
set_option maxRecDepth 100000 in
theorem ref32_Leaves_walk {F : Fz} {fr : List Ow} {h0 : Heap} (t_Root : Int) (t_Links : List T_api_Branch) (vt_Links : Value) (hS : St F (fr) h0) (hL_t_Links : SliceF F h0 2 e_api_Branch vt_Links t_Links) {Q : (List Int) → Prop} (hM : ref32_Leaves_W t_Root t_Links Q) :
  HC Try.prog 55 #[.agg #[.int .i64 t_Root, vt_Links]] h0 fun u h' => ∃ (F' : Fz) (r_1 : List Int) (vr_1 : Value), u = vr_1 ∧ Kp F h0 F' h' ∧ St F' (Ow.own 3 1 encI vr_1 r_1 :: fr) h' ∧ (SliceF F' h' 2 e_api_Branch vt_Links t_Links) ∧ Q r_1 := by
 unfold ref32_Leaves_W at hM
 have hK := Kp.refl F h0
 refine HC.of_HW (n := 40) Try.func55 rfl rfl (Nat.le_of_ble_eq_true rfl) ?_
 refine HW.seq ?_
 refine HW.region ?_
 refine HO.eff (want_none) rfl (st_box (c := #[.int .i64 t_Root, vt_Links]) (k' := 2) hS rfl rfl) ?_
 rintro _ h_1 ⟨b_1, rfl, hS, hk⟩
 replace hK := hK.trans hk
 replace hL_t_Links := hL_t_Links.kp hk
 refine oA (.slice none 0 0) rfl rfl ?_
 refine HO.nil (thenQ_normal (?_))
 refine HW.seq ?_
 refine HW.region ?_
 refine oV (.agg #[.int .i64 t_Root, vt_Links]) (q_loadAgg (cs := [.int .i64 t_Root, vt_Links]) ta_46 rfl rfl (Blk.cells (k := 2) (hS.box 0 rfl) rfl)) rfl ?_
 refine HO.call (want_none) rfl (ec en_56 rfl rfl) (ref32_Nodes_walk (fr := (Ow.box b_1 46 #[.int .i64 t_Root, vt_Links] :: fr)) t_Root t_Links vt_Links hS hL_t_Links hM) ?_
 rintro vr_2 h_2 ⟨F_1, r_2, _, rfl, hk, hS, _, hM⟩
 replace hK := hK.trans hk
 replace hL_t_Links := hL_t_Links.kp hk
 refine HO.eff (want_none) rfl (st_litEmpty (α := Int) encI hS tl_31) ?_
 rintro _ h_3 ⟨b_2, rfl, hS, hk⟩
 replace hK := hK.trans hk
 replace hL_t_Links := hL_t_Links.kp hk
 refine oA (vr_2) rfl rfl ?_
 refine oA (.slice (some ⟨b_2, 0, none⟩) 0 0) rfl rfl ?_
 refine HO.nil (thenQ_normal (?_))
 refine HW.seq ?_
 refine HW.seq ?_
 refine HW.region ?_
 refine oA (.int .i64 0) rfl rfl ?_
 refine HO.nil (thenQ_normal (?_))
 refine HW.block ?_
 obtain ⟨I_1, m_1, hI_1, hR_1⟩ := hM
 replace hS : St F_1 (Ow.box b_1 46 #[.int .i64 t_Root, vt_Links] :: Ow.own 3 1 encI vr_2 r_2 :: Ow.own 3 1 encI (.slice (some ⟨b_2, 0, none⟩) 0 0) ([] : List Int) :: fr) h_3 := hS.perm2 [2, 1, 0] 3 rfl rfl
 refine HW.loop (S := List Int × Int) (fun s f h => match s with | (out_1, i_1) => ∃ (F' : Fz) (vout_1 : Value), f 1 = .pointer (some ⟨b_1, 0, none⟩) ∧ f 2 = .slice none 0 0 ∧ f 3 = vr_2 ∧ f 4 = vout_1 ∧ f 5 = .int .i64 i_1 ∧ Kp F h0 F' h ∧ St F' (Ow.box b_1 46 #[.int .i64 t_Root, vt_Links] :: Ow.own 3 1 encI vr_2 r_2 :: Ow.own 3 1 encI vout_1 out_1 :: fr) h ∧ (SliceF F' h 2 e_api_Branch vt_Links t_Links) ∧ I_1 (out_1, i_1)) m_1 ([], 0) ⟨F_1, .slice (some ⟨b_2, 0, none⟩) 0 0, rfl, rfl, rfl, rfl, rfl, hK, hS, hL_t_Links, hI_1⟩ ?_
 rintro ⟨out_1, i_1⟩ f_1 h_4 ⟨F_2, vout_1, e1, e2, e3, e4, e5, hK, hS, hL_t_Links, hI0⟩
 obtain ⟨K_1, hKe_1⟩ : ∃ K : (List Int) → Int → Prop, K = fun out_1' i_1' => I_1 (out_1', i_1') ∧ m_1 (out_1', i_1') < m_1 (out_1, i_1) := ⟨_, rfl⟩
 have hM : ref32_Leaves_l1 t_Root t_Links Q r_2 K_1 out_1 i_1 := by rw [hKe_1]; exact hR_1 (out_1, i_1) hI0
 unfold ref32_Leaves_l1 at hM
 refine HW.fr [(1, .pointer (some ⟨b_1, 0, none⟩)), (2, .slice none 0 0), (3, vr_2), (4, vout_1), (5, .int .i64 i_1)] ⟨e1, e2, e3, e4, e5, trivial⟩ ?_
 refine HW.seq ?_
 refine HW.seq ?_
 refine HW.region ?_
 refine oM (.int .i64 i_1) rfl rfl ?_
 refine oM (vr_2) rfl rfl ?_
 refine oV (.int .i64 (r_2.length : Int)) (q_len ts_31 (shp (hS.own 1 rfl).slice) rfl rfl) rfl ?_
 refine oV (.bool (decide (i_1 < (r_2.length : Int)))) (q_lss rfl rfl) rfl ?_
 refine HO.nil (thenQ_normal (?_))
 refine HW.cond (decide (i_1 < (r_2.length : Int))) rfl (fun c_1 => ?_) (fun c_1 => ?_)
 ·
  replace hM := hM.1 (of_decide_eq_true c_1)
  refine HW.skip (thenQ_normal (?_))
  refine HW.seq ?_
  refine HW.block ?_
  refine HW.seq_mid (fun f h => ∃ (F' : Fz) (b_3 : Bool), f 1 = .pointer (some ⟨b_1, 0, none⟩) ∧ f 2 = .slice none 0 0 ∧ f 3 = vr_2 ∧ f 4 = vout_1 ∧ f 5 = .int .i64 i_1 ∧ f 31 = .bool b_3 ∧ Kp F h0 F' h ∧ St F' (Ow.box b_1 46 #[.int .i64 t_Root, vt_Links] :: Ow.own 3 1 encI vr_2 r_2 :: Ow.own 3 1 encI vout_1 out_1 :: fr) h ∧ (SliceF F' h 2 e_api_Branch vt_Links t_Links) ∧ ref32_Leaves_j1 r_2 out_1 i_1 K_1 b_3) ?_ ?_
  ·
   refine HW.regionA 17 mixed (fun h => (Blk h b_1 (.cells #[.int .i64 t_Root, vt_Links] 46 (0, 0))) ∧ (OwnIs h 0 3 1 encI vr_2 r_2)) [] (by kernel_rfl) ?_
   refine HA.val (k := 0) (v := vr_2) rfl rfl (by kernel_rfl) (by kernel_rfl) (want_none) rfl (fun _ ⟨c305, c306⟩ => q_move rfl) ?_
   refine HA.val (k := 1) (v := .int .i64 i_1) rfl rfl (by kernel_rfl) (by kernel_rfl) (want_none) rfl (fun _ ⟨c305, c306⟩ => q_move rfl) ?_
   obtain ⟨ho_1, hM⟩ := hM
   refine HA.val (k := 2) (v := elemPtr 1 vr_2 (i_1).toNat) rfl rfl (by kernel_rfl) (by kernel_rfl) (want_none) rfl (fun _ ⟨c305, c306⟩ => q_idx ts_31 c306.slice rfl rfl ho_1) ?_
   refine HA.val (k := 3) (v := .int .i64 (gi r_2 i_1)) rfl rfl (by kernel_rfl) (by kernel_rfl) (want_none) rfl (fun _ ⟨c305, c306⟩ => q_ldElem to_3 c306.slice rfl ho_1 rfl) ?_
   refine HA.val (k := 4) (v := .pointer (some ⟨b_1, 0, none⟩)) rfl rfl (by kernel_rfl) (by kernel_rfl) (want_none) rfl (fun _ ⟨c305, c306⟩ => q_fieldAddr fa_46_0 rfl rfl) ?_
   refine HA.val (k := 5) (v := .int .i64 t_Root) rfl rfl (by kernel_rfl) (by kernel_rfl) (want_none) rfl (fun _ ⟨c305, c306⟩ => q_load to_3 rfl (Blk.cell c305 rfl)) ?_
   refine HA.val (k := 6) (v := .bool (!decide ((gi r_2 i_1) = t_Root))) rfl rfl (by kernel_rfl) (by kernel_rfl) (want_none) rfl (fun _ ⟨c305, c306⟩ => q_neq rfl rfl) ?_
   refine HA.val (k := 7) (v := .bool (!decide ((gi r_2 i_1) = t_Root))) rfl rfl (by kernel_rfl) (by kernel_rfl) (want_none) rfl (fun _ ⟨c305, c306⟩ => q_move rfl) ?_
   rcases Bool.eq_false_or_eq_true (!decide ((gi r_2 i_1) = t_Root)) with c_2 | c_2
   ·
    replace hM := hM.1 (nd_true c_2)
    refine HA.val (k := 8) (v := .agg #[.int .i64 t_Root, vt_Links]) rfl rfl (by kernel_rfl) (by kernel_rfl) (want_by rfl rfl c_2) rfl (fun _ ⟨c305, c306⟩ => q_loadAgg (cs := [.int .i64 t_Root, vt_Links]) ta_46 rfl rfl (Blk.cells (k := 2) c305 rfl)) ?_
    refine HA.val (k := 9) (v := vr_2) rfl rfl (by kernel_rfl) (by kernel_rfl) (want_by rfl rfl c_2) rfl (fun _ ⟨c305, c306⟩ => q_move rfl) ?_
    refine HA.val (k := 10) (v := .int .i64 i_1) rfl rfl (by kernel_rfl) (by kernel_rfl) (want_by rfl rfl c_2) rfl (fun _ ⟨c305, c306⟩ => q_move rfl) ?_
    refine HA.val (k := 11) (v := elemPtr 1 vr_2 (i_1).toNat) rfl rfl (by kernel_rfl) (by kernel_rfl) (want_by rfl rfl c_2) rfl (fun _ ⟨c305, c306⟩ => q_idx ts_31 c306.slice rfl rfl ho_1) ?_
    refine HA.val (k := 12) (v := .int .i64 (gi r_2 i_1)) rfl rfl (by kernel_rfl) (by kernel_rfl) (want_by rfl rfl c_2) rfl (fun _ ⟨c305, c306⟩ => q_ldElem to_3 c306.slice rfl ho_1 rfl) ?_
    refine HA.one (k := 13) ⟨⟨(hS.box 0 rfl), (hS.own 1 rfl)⟩, (Go.Wk.at_nil _ _)⟩ (by kernel_rfl) ?_
    refine HS.call rfl (want_by rfl rfl c_2) rfl (ec en_57 rfl rfl) (ref32_Next_walk (fr := (Ow.box b_1 46 #[.int .i64 t_Root, vt_Links] :: Ow.own 3 1 encI vr_2 r_2 :: Ow.own 3 1 encI vout_1 out_1 :: fr)) t_Root t_Links (gi r_2 i_1) vt_Links hS hL_t_Links hM) ?_
    rintro vr_3 h_5 ⟨F_3, r_3, _, rfl, hk, hS, _, hM⟩
    replace hK := hK.trans hk
    replace hL_t_Links := hL_t_Links.kp hk
    refine Go.Wk.HA.re (fun h => (OwnIs h 0 3 1 encI vr_3 r_3) ∧ (Blk h b_1 (.cells #[.int .i64 t_Root, vt_Links] 46 (0, 0))) ∧ (OwnIs h 0 3 1 encI vr_2 r_2)) [] (fun L_ h_ hL_ ⟨c389, c305, c306⟩ hs_ => ⟨⟨c305, c306⟩, (Go.Wk.at_nil _ _)⟩) ?_
    refine HA.val (k := 14) (v := .int .i64 (r_3.length : Int)) rfl rfl (by kernel_rfl) (by kernel_rfl) (want_by rfl rfl c_2) rfl (fun _ ⟨c389, c305, c306⟩ => q_len ts_31 (shp c389.slice) rfl rfl) ?_
    refine HA.val (k := 15) (v := .bool (decide ((r_3.length : Int) = 0))) rfl rfl (by kernel_rfl) (by kernel_rfl) (want_by rfl rfl c_2) rfl (fun _ ⟨c389, c305, c306⟩ => q_eql rfl rfl) ?_
    refine HA.val (k := 16) (v := .bool (decide ((r_3.length : Int) = 0))) rfl rfl (by kernel_rfl) (by kernel_rfl) (want_none) rfl (fun _ ⟨c389, c305, c306⟩ => q_pickK true rfl c_2 rfl) ?_
    refine HA.nil ⟨⟨(hS.own 0 rfl), (hS.box 1 rfl), (hS.own 2 rfl)⟩, (Go.Wk.at_nil _ _)⟩ (by kernel_rfl) (thenQ_normal (?_))
    replace hS : St F_3 (Ow.box b_1 46 #[.int .i64 t_Root, vt_Links] :: Ow.own 3 1 encI vr_2 r_2 :: Ow.own 3 1 encI vout_1 out_1 :: fr) h_5 := hS.perm2 [1, 2, 3] 4 rfl rfl
    exact ⟨F_3, decide ((r_3.length : Int) = 0), rfl, rfl, rfl, rfl, rfl, rfl, hK, hS, hL_t_Links, hM⟩
   ·
    replace hM := hM.2 (nd_false c_2)
    refine HA.past (k := 8) rfl rfl (by kernel_rfl) (by kernel_rfl) (past_by rfl rfl c_2) rfl ?_
    refine HA.past (k := 9) rfl rfl (by kernel_rfl) (by kernel_rfl) (past_by rfl rfl c_2) rfl ?_
    refine HA.past (k := 10) rfl rfl (by kernel_rfl) (by kernel_rfl) (past_by rfl rfl c_2) rfl ?_
    refine HA.past (k := 11) rfl rfl (by kernel_rfl) (by kernel_rfl) (past_by rfl rfl c_2) rfl ?_
    refine HA.past (k := 12) rfl rfl (by kernel_rfl) (by kernel_rfl) (past_by rfl rfl c_2) rfl ?_
    refine HA.one (k := 13) ⟨⟨(hS.box 0 rfl), (hS.own 1 rfl)⟩, (Go.Wk.at_nil _ _)⟩ (by kernel_rfl) ?_
    refine HS.past rfl (past_by rfl rfl c_2) rfl ?_
    refine HA.past (k := 14) rfl rfl (by kernel_rfl) (by kernel_rfl) (past_by rfl rfl c_2) rfl ?_
    refine HA.past (k := 15) rfl rfl (by kernel_rfl) (by kernel_rfl) (past_by rfl rfl c_2) rfl ?_
    refine HA.val (k := 16) (v := .bool false) rfl rfl (by kernel_rfl) (by kernel_rfl) (want_none) rfl (fun _ ⟨c305, c306⟩ => q_pickK false rfl c_2 rfl) ?_
    refine HA.nil ⟨⟨(hS.box 0 rfl), (hS.own 1 rfl)⟩, (Go.Wk.at_nil _ _)⟩ (by kernel_rfl) (thenQ_normal (?_))
    exact ⟨F_2, false, rfl, rfl, rfl, rfl, rfl, rfl, hK, hS, hL_t_Links, hM⟩
  ·
   rintro f_2 h_6 ⟨F_4, b_3, e1, e2, e3, e4, e5, e31, hK, hS, hL_t_Links, hM⟩
   unfold ref32_Leaves_j1 at hM
   refine HW.fr [(1, .pointer (some ⟨b_1, 0, none⟩)), (2, .slice none 0 0), (3, vr_2), (4, vout_1), (5, .int .i64 i_1), (31, .bool b_3)] ⟨e1, e2, e3, e4, e5, e31, trivial⟩ ?_
   refine HW.cond b_3 rfl (fun c_3 => ?_) (fun c_3 => ?_)
   ·
    replace hM := hM.1 c_3
    refine HW.region ?_
    refine oM (vout_1) rfl rfl ?_
    refine oM (vr_2) rfl rfl ?_
    refine oM (.int .i64 i_1) rfl rfl ?_
    obtain ⟨ho_2, hM⟩ := hM
    refine oV (elemPtr 1 vr_2 (i_1).toNat) (q_idx ts_31 (hS.own 1 rfl).slice rfl rfl ho_2) rfl ?_
    refine oV (.int .i64 (gi r_2 i_1)) (q_ldElem to_3 (hS.own 1 rfl).slice rfl ho_2 rfl) rfl ?_
    refine HO.eff (want_none) rfl (st_lit (enc := encI) (cells := #[.int .i64 (gi r_2 i_1)]) #[.int .i64 0] ([(gi r_2 i_1)] : List Int) hS tl_31 (by decide) (by decide) (by kernel_rfl) (by kernel_rfl) rfl (by intro x hx; rfl) rfl) ?_
    rintro _ h_7 ⟨b_4, rfl, hS, hk⟩
    replace hK := hK.trans hk
    replace hL_t_Links := hL_t_Links.kp hk
    obtain ⟨ho_3, hM⟩ := hM
    refine HO.eff (want_none) rfl (st_append te_31 hS (i := 3) rfl (hS.own 0 rfl).slice rfl rfl rfl (by intro a _ u hu; simp [encI, encI, encN, encB, encT] at hu; subst hu; rfl) ho_3 (by omega)) ?_
    rintro v_1 h_8 ⟨hS, hk⟩
    replace hS : St F_4 (Ow.own 3 1 encI (.slice (some ⟨b_4, 0, none⟩) 1 1) ([(gi r_2 i_1)] : List Int) :: Ow.box b_1 46 #[.int .i64 t_Root, vt_Links] :: Ow.own 3 1 encI vr_2 r_2 :: Ow.own 3 1 encI v_1 (out_1 ++ ([(gi r_2 i_1)] : List Int)) :: fr) h_8 := hS
    replace hK := hK.trans hk
    replace hL_t_Links := hL_t_Links.kp hk
    refine oA (v_1) rfl rfl ?_
    refine HO.nil (blockQ_normal (thenQ_normal (?_)))
    refine HW.region ?_
    refine oM (.int .i64 i_1) rfl rfl ?_
    obtain ⟨ho_4, hM⟩ := hM
    refine oV (.int .i64 (i_1 + 1)) (q_addN _ rfl rfl rfl ho_4.1 ho_4.2) rfl ?_
    refine oA (.int .i64 (i_1 + 1)) rfl rfl ?_
    refine HO.nil (thenQ_normal (?_))
    replace hS : St F_4 (Ow.box b_1 46 #[.int .i64 t_Root, vt_Links] :: Ow.own 3 1 encI vr_2 r_2 :: Ow.own 3 1 encI v_1 (out_1 ++ ([(gi r_2 i_1)] : List Int)) :: fr) h_8 := hS.perm2 [1, 2, 3] 4 rfl rfl
    rw [hKe_1] at hM
    exact ⟨(out_1 ++ ([(gi r_2 i_1)] : List Int), i_1 + 1), ⟨F_4, v_1, rfl, rfl, rfl, rfl, rfl, hK, hS, hL_t_Links, hM.1⟩, hM.2⟩
   ·
    replace hM := hM.2 c_3
    refine HW.skip (blockQ_normal (thenQ_normal (?_)))
    refine HW.region ?_
    refine oM (.int .i64 i_1) rfl rfl ?_
    obtain ⟨ho_5, hM⟩ := hM
    refine oV (.int .i64 (i_1 + 1)) (q_addN _ rfl rfl rfl ho_5.1 ho_5.2) rfl ?_
    refine oA (.int .i64 (i_1 + 1)) rfl rfl ?_
    refine HO.nil (thenQ_normal (?_))
    rw [hKe_1] at hM
    exact ⟨(out_1, i_1 + 1), ⟨F_4, vout_1, rfl, rfl, rfl, rfl, rfl, hK, hS, hL_t_Links, hM.1⟩, hM.2⟩
 ·
  replace hM := hM.2 (of_decide_eq_false c_1)
  refine HW.exit (thenQ_exit (thenQ_exit (blockQ_exit (thenQ_normal (?_)))))
  refine HW.seq ?_
  refine HW.region ?_
  refine oM (vout_1) rfl rfl ?_
  refine oA (vout_1) rfl rfl ?_
  refine HO.nil (thenQ_normal (?_))
  refine HW.ret (?_)
  refine ⟨.inr rfl, vout_1, res1 rfl (rt rfl), ?_⟩
  replace hS : St F_2 (Ow.own 3 1 encI vout_1 out_1 :: fr) h_4 := hS.perm2 [2] 3 rfl rfl
  exact ⟨F_2, out_1, vout_1, rfl, hK, hS, hL_t_Links, hM⟩

def ref32_SameInts_l1 (a : List Int) (b : List Int) (Q : Bool → Prop) (K_1 : Int → Prop) (i_1 : Int) : Prop :=
 (i_1 < (a.length : Int) → ((0 : Int) ≤ i_1 ∧ i_1 < (a.length : Int)) ∧ (((0 : Int) ≤ i_1 ∧ i_1 < (b.length : Int)) ∧ ((¬ ((gi a i_1) = (gi b i_1)) → Q false) ∧ ((gi a i_1) = (gi b i_1) → (I64 (i_1 + 1)) ∧ (K_1 (i_1 + 1)))))) ∧ (¬ (i_1 < (a.length : Int)) → Q true)
def ref32_SameInts_W (a : List Int) (b : List Int) (Q : Bool → Prop) : Prop :=
 (¬ ((a.length : Int) = (b.length : Int)) → Q false) ∧ ((a.length : Int) = (b.length : Int) → loopW (fun (K_1 : Int → Prop) (s : Int) => ref32_SameInts_l1 a b Q K_1 s) 0)
set_option maxHeartbeats 40000000 in
set_option maxRecDepth 100000 in
theorem ref32_SameInts_walk {F : Fz} {fr : List Ow} {h0 : Heap} (a : List Int) (b : List Int) (va : Value) (vb : Value) (hS : St F (fr) h0) (hL_a : SliceF F h0 1 encI va a) (hL_b : SliceF F h0 1 encI vb b) {Q : Bool → Prop} (hM : ref32_SameInts_W a b Q) :
  HC Try.prog 54 #[va, vb] h0 fun u h' => ∃ (F' : Fz) (r_1 : Bool), u = .bool r_1 ∧ Kp F h0 F' h' ∧ St F' (fr) h' ∧ (SliceF F' h' 1 encI va a) ∧ (SliceF F' h' 1 encI vb b) ∧ Q r_1 := by
 unfold ref32_SameInts_W at hM
 have hK := Kp.refl F h0
 refine HC.of_HW (n := 26) Try.func54 rfl rfl (Nat.le_of_ble_eq_true rfl) ?_
 refine HW.seq ?_
 refine HW.region ?_
 refine oA (.bool false) rfl rfl ?_
 refine HO.nil (thenQ_normal (?_))
 refine HW.seq ?_
 refine HW.seq ?_
 refine HW.region ?_
 refine oM (va) rfl rfl ?_
 refine oV (.int .i64 (a.length : Int)) (q_len ts_31 (shp hL_a.is) rfl rfl) rfl ?_
 refine oM (vb) rfl rfl ?_
 refine oV (.int .i64 (b.length : Int)) (q_len ts_31 (shp hL_b.is) rfl rfl) rfl ?_
 refine oV (.bool (!decide ((a.length : Int) = (b.length : Int)))) (q_neq rfl rfl) rfl ?_
 refine HO.nil (thenQ_normal (?_))
 refine HW.cond (!decide ((a.length : Int) = (b.length : Int))) rfl (fun c_1 => ?_) (fun c_1 => ?_)
 ·
  replace hM := hM.1 (nd_true c_1)
  refine HW.seq ?_
  refine HW.region ?_
  refine oA (.bool false) rfl rfl ?_
  refine HO.nil (thenQ_normal (?_))
  refine HW.ret (thenQ_ret (?_))
  refine ⟨.inr rfl, .bool false, res1 rfl (rt rfl), ?_⟩
  exact ⟨F, false, rfl, hK, hS, hL_a, hL_b, hM⟩
 ·
  replace hM := hM.2 (nd_false c_1)
  refine HW.skip (thenQ_normal (?_))
  refine HW.seq ?_
  refine HW.seq ?_
  refine HW.region ?_
  refine oA (.int .i64 0) rfl rfl ?_
  refine HO.nil (thenQ_normal (?_))
  refine HW.block ?_
  obtain ⟨I_1, m_1, hI_1, hR_1⟩ := hM
  refine HW.loop (S := Int) (fun i_1 f h => ∃ (F' : Fz), f 0 = va ∧ f 1 = vb ∧ f 4 = .bool false ∧ f 5 = .int .i64 i_1 ∧ Kp F h0 F' h ∧ St F' (fr) h ∧ (SliceF F' h 1 encI va a) ∧ (SliceF F' h 1 encI vb b) ∧ I_1 i_1) m_1 0 ⟨F, rfl, rfl, rfl, rfl, hK, hS, hL_a, hL_b, hI_1⟩ ?_
  rintro i_1 f_1 h_1 ⟨F_1, e0, e1, e4, e5, hK, hS, hL_a, hL_b, hI0⟩
  obtain ⟨K_1, hKe_1⟩ : ∃ K : Int → Prop, K = fun i_1' => I_1 i_1' ∧ m_1 i_1' < m_1 i_1 := ⟨_, rfl⟩
  have hM : ref32_SameInts_l1 a b Q K_1 i_1 := by rw [hKe_1]; exact hR_1 i_1 hI0
  unfold ref32_SameInts_l1 at hM
  refine HW.fr [(0, va), (1, vb), (4, .bool false), (5, .int .i64 i_1)] ⟨e0, e1, e4, e5, trivial⟩ ?_
  refine HW.seq ?_
  refine HW.seq ?_
  refine HW.region ?_
  refine oM (.int .i64 i_1) rfl rfl ?_
  refine oM (va) rfl rfl ?_
  refine oV (.int .i64 (a.length : Int)) (q_len ts_31 (shp hL_a.is) rfl rfl) rfl ?_
  refine oV (.bool (decide (i_1 < (a.length : Int)))) (q_lss rfl rfl) rfl ?_
  refine HO.nil (thenQ_normal (?_))
  refine HW.cond (decide (i_1 < (a.length : Int))) rfl (fun c_2 => ?_) (fun c_2 => ?_)
  ·
   replace hM := hM.1 (of_decide_eq_true c_2)
   refine HW.skip (thenQ_normal (?_))
   refine HW.seq ?_
   refine HW.block ?_
   refine HW.seq ?_
   refine HW.regionA 9 mixed (fun h => (SliceIs h 1 encI va a) ∧ (SliceIs h 1 encI vb b)) [] (by kernel_rfl) ?_
   refine HA.val (k := 0) (v := va) rfl rfl (by kernel_rfl) (by kernel_rfl) (want_none) rfl (fun _ ⟨hL_a, hL_b⟩ => q_move rfl) ?_
   refine HA.val (k := 1) (v := .int .i64 i_1) rfl rfl (by kernel_rfl) (by kernel_rfl) (want_none) rfl (fun _ ⟨hL_a, hL_b⟩ => q_move rfl) ?_
   obtain ⟨ho_1, hM⟩ := hM
   refine HA.val (k := 2) (v := elemPtr 1 va (i_1).toNat) rfl rfl (by kernel_rfl) (by kernel_rfl) (want_none) rfl (fun _ ⟨hL_a, hL_b⟩ => q_idx ts_31 hL_a rfl rfl ho_1) ?_
   refine HA.val (k := 3) (v := .int .i64 (gi a i_1)) rfl rfl (by kernel_rfl) (by kernel_rfl) (want_none) rfl (fun _ ⟨hL_a, hL_b⟩ => q_ldElem to_3 hL_a rfl ho_1 rfl) ?_
   refine HA.val (k := 4) (v := vb) rfl rfl (by kernel_rfl) (by kernel_rfl) (want_none) rfl (fun _ ⟨hL_a, hL_b⟩ => q_move rfl) ?_
   refine HA.val (k := 5) (v := .int .i64 i_1) rfl rfl (by kernel_rfl) (by kernel_rfl) (want_none) rfl (fun _ ⟨hL_a, hL_b⟩ => q_move rfl) ?_
   obtain ⟨ho_2, hM⟩ := hM
   refine HA.val (k := 6) (v := elemPtr 1 vb (i_1).toNat) rfl rfl (by kernel_rfl) (by kernel_rfl) (want_none) rfl (fun _ ⟨hL_a, hL_b⟩ => q_idx ts_31 hL_b rfl rfl ho_2) ?_
   refine HA.val (k := 7) (v := .int .i64 (gi b i_1)) rfl rfl (by kernel_rfl) (by kernel_rfl) (want_none) rfl (fun _ ⟨hL_a, hL_b⟩ => q_ldElem to_3 hL_b rfl ho_2 rfl) ?_
   refine HA.val (k := 8) (v := .bool (!decide ((gi a i_1) = (gi b i_1)))) rfl rfl (by kernel_rfl) (by kernel_rfl) (want_none) rfl (fun _ ⟨hL_a, hL_b⟩ => q_neq rfl rfl) ?_
   refine HA.nil ⟨⟨hL_a.is, hL_b.is⟩, (Go.Wk.at_nil _ _)⟩ (by kernel_rfl) (thenQ_normal (?_))
   refine HW.cond (!decide ((gi a i_1) = (gi b i_1))) rfl (fun c_3 => ?_) (fun c_3 => ?_)
   ·
    replace hM := hM.1 (nd_true c_3)
    refine HW.seq ?_
    refine HW.region ?_
    refine oA (.bool false) rfl rfl ?_
    refine HO.nil (thenQ_normal (?_))
    refine HW.ret (blockQ_ret (thenQ_ret (thenQ_ret (blockQ_ret (thenQ_ret (?_))))))
    refine ⟨.inr rfl, .bool false, res1 rfl (rt rfl), ?_⟩
    exact ⟨F_1, false, rfl, hK, hS, hL_a, hL_b, hM⟩
   ·
    replace hM := hM.2 (nd_false c_3)
    refine HW.skip (blockQ_normal (thenQ_normal (?_)))
    refine HW.region ?_
    refine oM (.int .i64 i_1) rfl rfl ?_
    obtain ⟨ho_3, hM⟩ := hM
    refine oV (.int .i64 (i_1 + 1)) (q_addN _ rfl rfl rfl ho_3.1 ho_3.2) rfl ?_
    refine oA (.int .i64 (i_1 + 1)) rfl rfl ?_
    refine HO.nil (thenQ_normal (?_))
    rw [hKe_1] at hM
    exact ⟨i_1 + 1, ⟨F_1, rfl, rfl, rfl, rfl, hK, hS, hL_a, hL_b, hM.1⟩, hM.2⟩
  ·
   replace hM := hM.2 (of_decide_eq_false c_2)
   refine HW.exit (thenQ_exit (thenQ_exit (blockQ_exit (thenQ_normal (?_)))))
   refine HW.seq ?_
   refine HW.region ?_
   refine oA (.bool true) rfl rfl ?_
   refine HO.nil (thenQ_normal (?_))
   refine HW.ret (?_)
   refine ⟨.inr rfl, .bool true, res1 rfl (rt rfl), ?_⟩
   exact ⟨F_1, true, rfl, hK, hS, hL_a, hL_b, hM⟩

def ref32_Fan_l1 (t_Root : Int) (t_Links : List T_api_Branch) (Q : Int → Prop) (r_2 : List Int) (K_1 : Int → Int → Prop) (most_1 : Int) (i_1 : Int) : Prop :=
 (i_1 < (r_2.length : Int) → ((0 : Int) ≤ i_1 ∧ i_1 < (r_2.length : Int)) ∧ (ref32_Next_W t_Root t_Links (gi r_2 i_1) (fun r_3 => (most_1 < (r_3.length : Int) → (I64 (i_1 + 1)) ∧ (K_1 (r_3.length : Int) (i_1 + 1))) ∧ (¬ (most_1 < (r_3.length : Int)) → (I64 (i_1 + 1)) ∧ (K_1 most_1 (i_1 + 1)))))) ∧ (¬ (i_1 < (r_2.length : Int)) → Q most_1)
def ref32_Fan_W (t_Root : Int) (t_Links : List T_api_Branch) (Q : Int → Prop) : Prop :=
 ref32_Nodes_W t_Root t_Links (fun r_2 => loopW (fun (K_1 : (Int × Int) → Prop) (s : Int × Int) => ref32_Fan_l1 t_Root t_Links Q r_2 (fun most_1 i_1 => K_1 (most_1, i_1)) s.1 s.2) (0, 0))
set_option maxHeartbeats 40000000 in
set_option maxRecDepth 100000 in
theorem ref32_Fan_walk {F : Fz} {fr : List Ow} {h0 : Heap} (t_Root : Int) (t_Links : List T_api_Branch) (vt_Links : Value) (hS : St F (fr) h0) (hL_t_Links : SliceF F h0 2 e_api_Branch vt_Links t_Links) {Q : Int → Prop} (hM : ref32_Fan_W t_Root t_Links Q) :
  HC Try.prog 28 #[.agg #[.int .i64 t_Root, vt_Links]] h0 fun u h' => ∃ (F' : Fz) (r_1 : Int), u = .int .i64 r_1 ∧ Kp F h0 F' h' ∧ St F' (fr) h' ∧ (SliceF F' h' 2 e_api_Branch vt_Links t_Links) ∧ Q r_1 := by
 unfold ref32_Fan_W at hM
 have hK := Kp.refl F h0
 refine HC.of_HW (n := 27) Try.func28 rfl rfl (Nat.le_of_ble_eq_true rfl) ?_
 refine HW.seq ?_
 refine HW.region ?_
 refine HO.eff (want_none) rfl (st_box (c := #[.int .i64 t_Root, vt_Links]) (k' := 2) hS rfl rfl) ?_
 rintro _ h_1 ⟨b_1, rfl, hS, hk⟩
 replace hK := hK.trans hk
 replace hL_t_Links := hL_t_Links.kp hk
 refine oA (.int .i64 0) rfl rfl ?_
 refine HO.nil (thenQ_normal (?_))
 refine HW.seq ?_
 refine HW.region ?_
 refine oV (.agg #[.int .i64 t_Root, vt_Links]) (q_loadAgg (cs := [.int .i64 t_Root, vt_Links]) ta_46 rfl rfl (Blk.cells (k := 2) (hS.box 0 rfl) rfl)) rfl ?_
 refine HO.call (want_none) rfl (ec en_56 rfl rfl) (ref32_Nodes_walk (fr := (Ow.box b_1 46 #[.int .i64 t_Root, vt_Links] :: fr)) t_Root t_Links vt_Links hS hL_t_Links hM) ?_
 rintro vr_1 h_2 ⟨F_1, r_2, _, rfl, hk, hS, _, hM⟩
 replace hK := hK.trans hk
 replace hL_t_Links := hL_t_Links.kp hk
 refine oA (vr_1) rfl rfl ?_
 refine oA (.int .i64 0) rfl rfl ?_
 refine HO.nil (thenQ_normal (?_))
 refine HW.seq ?_
 refine HW.seq ?_
 refine HW.region ?_
 refine oA (.int .i64 0) rfl rfl ?_
 refine HO.nil (thenQ_normal (?_))
 refine HW.block ?_
 obtain ⟨I_1, m_1, hI_1, hR_1⟩ := hM
 replace hS : St F_1 (Ow.box b_1 46 #[.int .i64 t_Root, vt_Links] :: Ow.own 3 1 encI vr_1 r_2 :: fr) h_2 := hS.perm2 [1, 0] 2 rfl rfl
 refine HW.loop (S := Int × Int) (fun s f h => match s with | (most_1, i_1) => ∃ (F' : Fz), f 1 = .pointer (some ⟨b_1, 0, none⟩) ∧ f 2 = .int .i64 0 ∧ f 3 = vr_1 ∧ f 4 = .int .i64 most_1 ∧ f 5 = .int .i64 i_1 ∧ Kp F h0 F' h ∧ St F' (Ow.box b_1 46 #[.int .i64 t_Root, vt_Links] :: Ow.own 3 1 encI vr_1 r_2 :: fr) h ∧ (SliceF F' h 2 e_api_Branch vt_Links t_Links) ∧ I_1 (most_1, i_1)) m_1 (0, 0) ⟨F_1, rfl, rfl, rfl, rfl, rfl, hK, hS, hL_t_Links, hI_1⟩ ?_
 rintro ⟨most_1, i_1⟩ f_1 h_3 ⟨F_2, e1, e2, e3, e4, e5, hK, hS, hL_t_Links, hI0⟩
 obtain ⟨K_1, hKe_1⟩ : ∃ K : Int → Int → Prop, K = fun most_1' i_1' => I_1 (most_1', i_1') ∧ m_1 (most_1', i_1') < m_1 (most_1, i_1) := ⟨_, rfl⟩
 have hM : ref32_Fan_l1 t_Root t_Links Q r_2 K_1 most_1 i_1 := by rw [hKe_1]; exact hR_1 (most_1, i_1) hI0
 unfold ref32_Fan_l1 at hM
 refine HW.fr [(1, .pointer (some ⟨b_1, 0, none⟩)), (2, .int .i64 0), (3, vr_1), (4, .int .i64 most_1), (5, .int .i64 i_1)] ⟨e1, e2, e3, e4, e5, trivial⟩ ?_
 refine HW.seq ?_
 refine HW.seq ?_
 refine HW.region ?_
 refine oM (.int .i64 i_1) rfl rfl ?_
 refine oM (vr_1) rfl rfl ?_
 refine oV (.int .i64 (r_2.length : Int)) (q_len ts_31 (shp (hS.own 1 rfl).slice) rfl rfl) rfl ?_
 refine oV (.bool (decide (i_1 < (r_2.length : Int)))) (q_lss rfl rfl) rfl ?_
 refine HO.nil (thenQ_normal (?_))
 refine HW.cond (decide (i_1 < (r_2.length : Int))) rfl (fun c_1 => ?_) (fun c_1 => ?_)
 ·
  replace hM := hM.1 (of_decide_eq_true c_1)
  refine HW.skip (thenQ_normal (?_))
  refine HW.seq ?_
  refine HW.block ?_
  refine HW.seq ?_
  refine HW.regionA 8 mixed (fun h => (Blk h b_1 (.cells #[.int .i64 t_Root, vt_Links] 46 (0, 0))) ∧ (OwnIs h 0 3 1 encI vr_1 r_2)) [] (by kernel_rfl) ?_
  refine HA.val (k := 0) (v := .agg #[.int .i64 t_Root, vt_Links]) rfl rfl (by kernel_rfl) (by kernel_rfl) (want_none) rfl (fun _ ⟨c303, c304⟩ => q_loadAgg (cs := [.int .i64 t_Root, vt_Links]) ta_46 rfl rfl (Blk.cells (k := 2) c303 rfl)) ?_
  refine HA.val (k := 1) (v := vr_1) rfl rfl (by kernel_rfl) (by kernel_rfl) (want_none) rfl (fun _ ⟨c303, c304⟩ => q_move rfl) ?_
  refine HA.val (k := 2) (v := .int .i64 i_1) rfl rfl (by kernel_rfl) (by kernel_rfl) (want_none) rfl (fun _ ⟨c303, c304⟩ => q_move rfl) ?_
  obtain ⟨ho_1, hM⟩ := hM
  refine HA.val (k := 3) (v := elemPtr 1 vr_1 (i_1).toNat) rfl rfl (by kernel_rfl) (by kernel_rfl) (want_none) rfl (fun _ ⟨c303, c304⟩ => q_idx ts_31 c304.slice rfl rfl ho_1) ?_
  refine HA.val (k := 4) (v := .int .i64 (gi r_2 i_1)) rfl rfl (by kernel_rfl) (by kernel_rfl) (want_none) rfl (fun _ ⟨c303, c304⟩ => q_ldElem to_3 c304.slice rfl ho_1 rfl) ?_
  refine HA.one (k := 5) ⟨⟨(hS.box 0 rfl), (hS.own 1 rfl)⟩, (Go.Wk.at_nil _ _)⟩ (by kernel_rfl) ?_
  refine HS.call rfl (want_none) rfl (ec en_57 rfl rfl) (ref32_Next_walk (fr := (Ow.box b_1 46 #[.int .i64 t_Root, vt_Links] :: Ow.own 3 1 encI vr_1 r_2 :: fr)) t_Root t_Links (gi r_2 i_1) vt_Links hS hL_t_Links hM) ?_
  rintro vr_2 h_4 ⟨F_3, r_3, _, rfl, hk, hS, _, hM⟩
  replace hK := hK.trans hk
  replace hL_t_Links := hL_t_Links.kp hk
  refine Go.Wk.HA.re (fun h => (OwnIs h 0 3 1 encI vr_2 r_3) ∧ (Blk h b_1 (.cells #[.int .i64 t_Root, vt_Links] 46 (0, 0))) ∧ (OwnIs h 0 3 1 encI vr_1 r_2)) [] (fun L_ h_ hL_ ⟨c335, c303, c304⟩ hs_ => ⟨⟨c303, c304⟩, (Go.Wk.at_nil _ _)⟩) ?_
  refine HA.val (k := 6) (v := .int .i64 (r_3.length : Int)) rfl rfl (by kernel_rfl) (by kernel_rfl) (want_none) rfl (fun _ ⟨c335, c303, c304⟩ => q_len ts_31 (shp c335.slice) rfl rfl) ?_
  refine HA.val (k := 7) (v := .int .i64 (r_3.length : Int)) rfl rfl (by kernel_rfl) (by kernel_rfl) (want_none) rfl (fun _ ⟨c335, c303, c304⟩ => q_assign rfl) ?_
  refine HA.nil ⟨⟨(hS.own 0 rfl), (hS.box 1 rfl), (hS.own 2 rfl)⟩, (Go.Wk.at_nil _ _)⟩ (by kernel_rfl) (thenQ_normal (?_))
  refine HW.seq ?_
  refine HW.region ?_
  refine oM (.int .i64 (r_3.length : Int)) rfl rfl ?_
  refine oM (.int .i64 most_1) rfl rfl ?_
  refine oV (.bool (decide (most_1 < (r_3.length : Int)))) (q_gtr rfl rfl) rfl ?_
  refine HO.nil (thenQ_normal (?_))
  refine HW.cond (decide (most_1 < (r_3.length : Int))) rfl (fun c_2 => ?_) (fun c_2 => ?_)
  ·
   replace hM := hM.1 (of_decide_eq_true c_2)
   refine HW.region ?_
   refine oM (.int .i64 (r_3.length : Int)) rfl rfl ?_
   refine oA (.int .i64 (r_3.length : Int)) rfl rfl ?_
   refine HO.nil (blockQ_normal (thenQ_normal (?_)))
   refine HW.region ?_
   refine oM (.int .i64 i_1) rfl rfl ?_
   obtain ⟨ho_2, hM⟩ := hM
   refine oV (.int .i64 (i_1 + 1)) (q_addN _ rfl rfl rfl ho_2.1 ho_2.2) rfl ?_
   refine oA (.int .i64 (i_1 + 1)) rfl rfl ?_
   refine HO.nil (thenQ_normal (?_))
   replace hS : St F_3 (Ow.box b_1 46 #[.int .i64 t_Root, vt_Links] :: Ow.own 3 1 encI vr_1 r_2 :: fr) h_4 := hS.perm2 [1, 2] 3 rfl rfl
   rw [hKe_1] at hM
   exact ⟨((r_3.length : Int), i_1 + 1), ⟨F_3, rfl, rfl, rfl, rfl, rfl, hK, hS, hL_t_Links, hM.1⟩, hM.2⟩
  ·
   replace hM := hM.2 (of_decide_eq_false c_2)
   refine HW.skip (blockQ_normal (thenQ_normal (?_)))
   refine HW.region ?_
   refine oM (.int .i64 i_1) rfl rfl ?_
   obtain ⟨ho_3, hM⟩ := hM
   refine oV (.int .i64 (i_1 + 1)) (q_addN _ rfl rfl rfl ho_3.1 ho_3.2) rfl ?_
   refine oA (.int .i64 (i_1 + 1)) rfl rfl ?_
   refine HO.nil (thenQ_normal (?_))
   replace hS : St F_3 (Ow.box b_1 46 #[.int .i64 t_Root, vt_Links] :: Ow.own 3 1 encI vr_1 r_2 :: fr) h_4 := hS.perm2 [1, 2] 3 rfl rfl
   rw [hKe_1] at hM
   exact ⟨(most_1, i_1 + 1), ⟨F_3, rfl, rfl, rfl, rfl, rfl, hK, hS, hL_t_Links, hM.1⟩, hM.2⟩
 ·
  replace hM := hM.2 (of_decide_eq_false c_1)
  refine HW.exit (thenQ_exit (thenQ_exit (blockQ_exit (thenQ_normal (?_)))))
  refine HW.seq ?_
  refine HW.region ?_
  refine oM (.int .i64 most_1) rfl rfl ?_
  refine oA (.int .i64 most_1) rfl rfl ?_
  refine HO.nil (thenQ_normal (?_))
  refine HW.ret (?_)
  refine ⟨.inr rfl, .int .i64 most_1, res1 rfl (rt rfl), ?_⟩
  replace hS : St F_2 (fr) h_3 := hS.perm2 [] 2 rfl rfl
  exact ⟨F_2, most_1, rfl, hK, hS, hL_t_Links, hM⟩

def ref33_Fits_W (members : Int) (services : Int) (fan : Int) (Q : Bool → Prop) : Prop :=
 ref33_Need_W members fan (fun r_2 => (0 ≤ r_2 → Q (decide (r_2 ≤ services))) ∧ (¬ (0 ≤ r_2) → Q false))
set_option maxHeartbeats 40000000 in
set_option maxRecDepth 100000 in
theorem ref33_Fits_walk {F : Fz} {fr : List Ow} {h0 : Heap} (members : Int) (services : Int) (fan : Int) (hS : St F (fr) h0)  {Q : Bool → Prop} (hM : ref33_Fits_W members services fan Q) :
  HC Try.prog 27 #[.int .i64 members, .int .i64 services, .int .i64 fan] h0 fun u h' => ∃ (F' : Fz) (r_1 : Bool), u = .bool r_1 ∧ Kp F h0 F' h' ∧ St F' (fr) h' ∧ Q r_1 := by
 unfold ref33_Fits_W at hM
 have hK := Kp.refl F h0
 refine HC.of_HW (n := 18) Try.func27 rfl rfl (Nat.le_of_ble_eq_true rfl) ?_
 refine HW.seq ?_
 refine HW.region ?_
 refine oA (.bool false) rfl rfl ?_
 refine HO.nil (thenQ_normal (?_))
 refine HW.seq ?_
 refine HW.region ?_
 refine oM (.int .i64 members) rfl rfl ?_
 refine oM (.int .i64 fan) rfl rfl ?_
 refine HO.call (want_none) rfl (ec en_9 rfl rfl) (ref33_Need_walk (fr := (fr)) members fan hS hM) ?_
 rintro _ h_1 ⟨F_1, r_2, rfl, hk, hS, hM⟩
 replace hK := hK.trans hk
 refine oA (.int .i64 r_2) rfl rfl ?_
 refine HO.nil (thenQ_normal (?_))
 refine HW.seq ?_
 refine HW.region ?_
 refine oM (.int .i64 r_2) rfl rfl ?_
 refine oV (.bool (decide (0 ≤ r_2))) (q_geq rfl rfl) rfl ?_
 refine oM (.bool (decide (0 ≤ r_2))) rfl rfl ?_
 rcases Bool.eq_false_or_eq_true (decide (0 ≤ r_2)) with c_1 | c_1
 ·
  replace hM := hM.1 (of_decide_eq_true c_1)
  refine HO.val (v := .int .i64 r_2) (want_by rfl rfl c_1) rfl (q_move rfl) ?_
  refine HO.val (v := .int .i64 services) (want_by rfl rfl c_1) rfl (q_move rfl) ?_
  refine HO.val (v := .bool (decide (r_2 ≤ services))) (want_by rfl rfl c_1) rfl (q_leq rfl rfl) ?_
  refine oV (.bool (decide (r_2 ≤ services))) (q_pickK true rfl c_1 rfl) rfl ?_
  refine oA (.bool (decide (r_2 ≤ services))) rfl rfl ?_
  refine HO.nil (thenQ_normal (?_))
  refine HW.ret (?_)
  refine ⟨.inr rfl, .bool (decide (r_2 ≤ services)), res1 rfl (rt rfl), ?_⟩
  exact ⟨F_1, decide (r_2 ≤ services), rfl, hK, hS, hM⟩
 ·
  replace hM := hM.2 (of_decide_eq_false c_1)
  refine HO.past (past_by rfl rfl c_1) rfl ?_
  refine HO.past (past_by rfl rfl c_1) rfl ?_
  refine HO.past (past_by rfl rfl c_1) rfl ?_
  refine oV (.bool false) (q_pickK false rfl c_1 rfl) rfl ?_
  refine oA (.bool false) rfl rfl ?_
  refine HO.nil (thenQ_normal (?_))
  refine HW.ret (?_)
  refine ⟨.inr rfl, .bool false, res1 rfl (rt rfl), ?_⟩
  exact ⟨F_1, false, rfl, hK, hS, hM⟩

def ref32_Same_l1 (a_Links : List T_api_Branch) (b_Links : List T_api_Branch) (Q : Bool → Prop) (K_1 : Int → Prop) (i_1 : Int) : Prop :=
 (i_1 < (a_Links.length : Int) → ((0 : Int) ≤ i_1 ∧ i_1 < (a_Links.length : Int)) ∧ (((0 : Int) ≤ i_1 ∧ i_1 < (b_Links.length : Int)) ∧ ((¬ (((gi a_Links i_1) : T_api_Branch) = (gi b_Links i_1)) → Q false) ∧ (((gi a_Links i_1) : T_api_Branch) = (gi b_Links i_1) → (I64 (i_1 + 1)) ∧ (K_1 (i_1 + 1)))))) ∧ (¬ (i_1 < (a_Links.length : Int)) → Q true)
def ref32_Same_j1 (a_Links : List T_api_Branch) (b_Links : List T_api_Branch) (Q : Bool → Prop) (b_3 : Bool) : Prop :=
 (b_3 = true → Q false) ∧ (b_3 = false → loopW (fun (K_1 : Int → Prop) (s : Int) => ref32_Same_l1 a_Links b_Links Q K_1 s) 0)
def ref32_Same_W (a_Root : Int) (a_Links : List T_api_Branch) (b_Root : Int) (b_Links : List T_api_Branch) (Q : Bool → Prop) : Prop :=
 (¬ (a_Root = b_Root) → ref32_Same_j1 a_Links b_Links Q true) ∧ (a_Root = b_Root → ref32_Same_j1 a_Links b_Links Q (!decide ((a_Links.length : Int) = (b_Links.length : Int))))
set_option maxHeartbeats 40000000 in
set_option maxRecDepth 100000 in
theorem ref32_Same_walk {F : Fz} {fr : List Ow} {h0 : Heap} (a_Root : Int) (a_Links : List T_api_Branch) (b_Root : Int) (b_Links : List T_api_Branch) (va_Links : Value) (vb_Links : Value) (hS : St F (fr) h0) (hL_a_Links : SliceF F h0 2 e_api_Branch va_Links a_Links) (hL_b_Links : SliceF F h0 2 e_api_Branch vb_Links b_Links) {Q : Bool → Prop} (hM : ref32_Same_W a_Root a_Links b_Root b_Links Q) :
  HC Try.prog 20 #[.agg #[.int .i64 a_Root, va_Links], .agg #[.int .i64 b_Root, vb_Links]] h0 fun u h' => ∃ (F' : Fz) (r_1 : Bool), u = .bool r_1 ∧ Kp F h0 F' h' ∧ St F' (fr) h' ∧ (SliceF F' h' 2 e_api_Branch va_Links a_Links) ∧ (SliceF F' h' 2 e_api_Branch vb_Links b_Links) ∧ Q r_1 := by
 unfold ref32_Same_W at hM
 have hK := Kp.refl F h0
 refine HC.of_HW (n := 38) Try.func20 rfl rfl (Nat.le_of_ble_eq_true rfl) ?_
 refine HW.seq ?_
 refine HW.region ?_
 refine HO.eff (want_none) rfl (st_box (c := #[.int .i64 a_Root, va_Links]) (k' := 2) hS rfl rfl) ?_
 rintro _ h_1 ⟨b_1, rfl, hS, hk⟩
 replace hK := hK.trans hk
 replace hL_a_Links := hL_a_Links.kp hk
 replace hL_b_Links := hL_b_Links.kp hk
 refine HO.eff (want_none) rfl (st_box (c := #[.int .i64 b_Root, vb_Links]) (k' := 2) hS rfl rfl) ?_
 rintro _ h_2 ⟨b_2, rfl, hS, hk⟩
 replace hK := hK.trans hk
 replace hL_a_Links := hL_a_Links.kp hk
 replace hL_b_Links := hL_b_Links.kp hk
 refine oA (.bool false) rfl rfl ?_
 refine HO.nil (thenQ_normal (?_))
 refine HW.seq ?_
 refine HW.seq_mid (fun f h => ∃ (F' : Fz) (b_3 : Bool), f 2 = .pointer (some ⟨b_1, 0, none⟩) ∧ f 3 = .pointer (some ⟨b_2, 0, none⟩) ∧ f 4 = .bool false ∧ f 19 = .bool b_3 ∧ Kp F h0 F' h ∧ St F' (Ow.box b_1 46 #[.int .i64 a_Root, va_Links] :: Ow.box b_2 46 #[.int .i64 b_Root, vb_Links] :: fr) h ∧ (SliceF F' h 2 e_api_Branch va_Links a_Links) ∧ (SliceF F' h 2 e_api_Branch vb_Links b_Links) ∧ ref32_Same_j1 a_Links b_Links Q b_3) ?_ ?_
 ·
  refine HW.region ?_
  refine oV (.pointer (some ⟨b_1, 0, none⟩)) (q_fieldAddr fa_46_0 rfl rfl) rfl ?_
  refine oV (.int .i64 a_Root) (q_load to_3 rfl (Blk.cell (hS.box 1 rfl) rfl)) rfl ?_
  refine oV (.pointer (some ⟨b_2, 0, none⟩)) (q_fieldAddr fa_46_0 rfl rfl) rfl ?_
  refine oV (.int .i64 b_Root) (q_load to_3 rfl (Blk.cell (hS.box 0 rfl) rfl)) rfl ?_
  refine oV (.bool (!decide (a_Root = b_Root))) (q_neq rfl rfl) rfl ?_
  refine oM (.bool (!decide (a_Root = b_Root))) rfl rfl ?_
  rcases Bool.eq_false_or_eq_true (!decide (a_Root = b_Root)) with c_1 | c_1
  ·
   replace hM := hM.1 (nd_true c_1)
   refine HO.past (past_by rfl rfl c_1) rfl ?_
   refine HO.past (past_by rfl rfl c_1) rfl ?_
   refine HO.past (past_by rfl rfl c_1) rfl ?_
   refine HO.past (past_by rfl rfl c_1) rfl ?_
   refine HO.past (past_by rfl rfl c_1) rfl ?_
   refine HO.past (past_by rfl rfl c_1) rfl ?_
   refine HO.past (past_by rfl rfl c_1) rfl ?_
   refine oV (.bool true) (q_pickK true rfl c_1 rfl) rfl ?_
   refine HO.nil (thenQ_normal (?_))
   replace hS : St F (Ow.box b_1 46 #[.int .i64 a_Root, va_Links] :: Ow.box b_2 46 #[.int .i64 b_Root, vb_Links] :: fr) h_2 := hS.perm2 [1, 0] 2 rfl rfl
   exact ⟨F, true, rfl, rfl, rfl, rfl, hK, hS, hL_a_Links, hL_b_Links, hM⟩
  ·
   replace hM := hM.2 (nd_false c_1)
   refine HO.val (v := .pointer (some ⟨b_1, 1, none⟩)) (want_by rfl rfl c_1) rfl (q_fieldAddr fa_46_1 rfl rfl) ?_
   refine HO.val (v := va_Links) (want_by rfl rfl c_1) rfl (q_load to_44 rfl (Blk.cell (hS.box 1 rfl) rfl)) ?_
   refine HO.val (v := .int .i64 (a_Links.length : Int)) (want_by rfl rfl c_1) rfl (q_len ts_44 (shp hL_a_Links.is) rfl rfl) ?_
   refine HO.val (v := .pointer (some ⟨b_2, 1, none⟩)) (want_by rfl rfl c_1) rfl (q_fieldAddr fa_46_1 rfl rfl) ?_
   refine HO.val (v := vb_Links) (want_by rfl rfl c_1) rfl (q_load to_44 rfl (Blk.cell (hS.box 0 rfl) rfl)) ?_
   refine HO.val (v := .int .i64 (b_Links.length : Int)) (want_by rfl rfl c_1) rfl (q_len ts_44 (shp hL_b_Links.is) rfl rfl) ?_
   refine HO.val (v := .bool (!decide ((a_Links.length : Int) = (b_Links.length : Int)))) (want_by rfl rfl c_1) rfl (q_neq rfl rfl) ?_
   refine oV (.bool (!decide ((a_Links.length : Int) = (b_Links.length : Int)))) (q_pickK false rfl c_1 rfl) rfl ?_
   refine HO.nil (thenQ_normal (?_))
   replace hS : St F (Ow.box b_1 46 #[.int .i64 a_Root, va_Links] :: Ow.box b_2 46 #[.int .i64 b_Root, vb_Links] :: fr) h_2 := hS.perm2 [1, 0] 2 rfl rfl
   exact ⟨F, !decide ((a_Links.length : Int) = (b_Links.length : Int)), rfl, rfl, rfl, rfl, hK, hS, hL_a_Links, hL_b_Links, hM⟩
 ·
  rintro f_1 h_3 ⟨F_1, b_3, e2, e3, e4, e19, hK, hS, hL_a_Links, hL_b_Links, hM⟩
  unfold ref32_Same_j1 at hM
  refine HW.fr [(2, .pointer (some ⟨b_1, 0, none⟩)), (3, .pointer (some ⟨b_2, 0, none⟩)), (4, .bool false), (19, .bool b_3)] ⟨e2, e3, e4, e19, trivial⟩ ?_
  refine HW.cond b_3 rfl (fun c_2 => ?_) (fun c_2 => ?_)
  ·
   replace hM := hM.1 c_2
   refine HW.seq ?_
   refine HW.region ?_
   refine oA (.bool false) rfl rfl ?_
   refine HO.nil (thenQ_normal (?_))
   refine HW.ret (thenQ_ret (?_))
   refine ⟨.inr rfl, .bool false, res1 rfl (rt rfl), ?_⟩
   replace hS : St F_1 (fr) h_3 := hS.perm2 [] 2 rfl rfl
   exact ⟨F_1, false, rfl, hK, hS, hL_a_Links, hL_b_Links, hM⟩
  ·
   replace hM := hM.2 c_2
   refine HW.skip (thenQ_normal (?_))
   refine HW.seq ?_
   refine HW.seq ?_
   refine HW.region ?_
   refine oA (.int .i64 0) rfl rfl ?_
   refine HO.nil (thenQ_normal (?_))
   refine HW.block ?_
   obtain ⟨I_1, m_1, hI_1, hR_1⟩ := hM
   refine HW.loop (S := Int) (fun i_1 f h => ∃ (F' : Fz), f 2 = .pointer (some ⟨b_1, 0, none⟩) ∧ f 3 = .pointer (some ⟨b_2, 0, none⟩) ∧ f 4 = .bool false ∧ f 5 = .int .i64 i_1 ∧ Kp F h0 F' h ∧ St F' (Ow.box b_1 46 #[.int .i64 a_Root, va_Links] :: Ow.box b_2 46 #[.int .i64 b_Root, vb_Links] :: fr) h ∧ (SliceF F' h 2 e_api_Branch va_Links a_Links) ∧ (SliceF F' h 2 e_api_Branch vb_Links b_Links) ∧ I_1 i_1) m_1 0 ⟨F_1, rfl, rfl, rfl, rfl, hK, hS, hL_a_Links, hL_b_Links, hI_1⟩ ?_
   rintro i_1 f_2 h_4 ⟨F_2, e2, e3, e4, e5, hK, hS, hL_a_Links, hL_b_Links, hI0⟩
   obtain ⟨K_1, hKe_1⟩ : ∃ K : Int → Prop, K = fun i_1' => I_1 i_1' ∧ m_1 i_1' < m_1 i_1 := ⟨_, rfl⟩
   have hM : ref32_Same_l1 a_Links b_Links Q K_1 i_1 := by rw [hKe_1]; exact hR_1 i_1 hI0
   unfold ref32_Same_l1 at hM
   refine HW.fr [(2, .pointer (some ⟨b_1, 0, none⟩)), (3, .pointer (some ⟨b_2, 0, none⟩)), (4, .bool false), (5, .int .i64 i_1)] ⟨e2, e3, e4, e5, trivial⟩ ?_
   refine HW.seq ?_
   refine HW.seq ?_
   refine HW.region ?_
   refine oM (.int .i64 i_1) rfl rfl ?_
   refine oV (.pointer (some ⟨b_1, 1, none⟩)) (q_fieldAddr fa_46_1 rfl rfl) rfl ?_
   refine oV (va_Links) (q_load to_44 rfl (Blk.cell (hS.box 0 rfl) rfl)) rfl ?_
   refine oV (.int .i64 (a_Links.length : Int)) (q_len ts_44 (shp hL_a_Links.is) rfl rfl) rfl ?_
   refine oV (.bool (decide (i_1 < (a_Links.length : Int)))) (q_lss rfl rfl) rfl ?_
   refine HO.nil (thenQ_normal (?_))
   refine HW.cond (decide (i_1 < (a_Links.length : Int))) rfl (fun c_3 => ?_) (fun c_3 => ?_)
   ·
    replace hM := hM.1 (of_decide_eq_true c_3)
    refine HW.skip (thenQ_normal (?_))
    refine HW.seq ?_
    refine HW.block ?_
    refine HW.seq ?_
    refine HW.regionA 11 mixed (fun h => (SliceIs h 2 e_api_Branch va_Links a_Links) ∧ (SliceIs h 2 e_api_Branch vb_Links b_Links) ∧ (Blk h b_1 (.cells #[.int .i64 a_Root, va_Links] 46 (0, 0))) ∧ (Blk h b_2 (.cells #[.int .i64 b_Root, vb_Links] 46 (0, 0)))) [] (by kernel_rfl) ?_
    refine HA.val (k := 0) (v := .pointer (some ⟨b_1, 1, none⟩)) rfl rfl (by kernel_rfl) (by kernel_rfl) (want_none) rfl (fun _ ⟨hL_a_Links, hL_b_Links, c305, c306⟩ => q_fieldAddr fa_46_1 rfl rfl) ?_
    refine HA.val (k := 1) (v := va_Links) rfl rfl (by kernel_rfl) (by kernel_rfl) (want_none) rfl (fun _ ⟨hL_a_Links, hL_b_Links, c305, c306⟩ => q_load to_44 rfl (Blk.cell c305 rfl)) ?_
    refine HA.val (k := 2) (v := .int .i64 i_1) rfl rfl (by kernel_rfl) (by kernel_rfl) (want_none) rfl (fun _ ⟨hL_a_Links, hL_b_Links, c305, c306⟩ => q_move rfl) ?_
    obtain ⟨ho_1, hM⟩ := hM
    refine HA.val (k := 3) (v := elemPtr 2 va_Links (i_1).toNat) rfl rfl (by kernel_rfl) (by kernel_rfl) (want_none) rfl (fun _ ⟨hL_a_Links, hL_b_Links, c305, c306⟩ => q_idx ts_44 hL_a_Links rfl rfl ho_1) ?_
    refine HA.val (k := 4) (v := .agg #[.int .i64 ((gi a_Links i_1).1), .int .i64 ((gi a_Links i_1).2)]) rfl rfl (by kernel_rfl) (by kernel_rfl) (want_none) rfl (fun _ ⟨hL_a_Links, hL_b_Links, c305, c306⟩ => q_ldElemAgg (cs := [.int .i64 ((gi a_Links i_1).1), .int .i64 ((gi a_Links i_1).2)]) ta_67 hL_a_Links rfl ho_1 rfl) ?_
    refine HA.val (k := 5) (v := .pointer (some ⟨b_2, 1, none⟩)) rfl rfl (by kernel_rfl) (by kernel_rfl) (want_none) rfl (fun _ ⟨hL_a_Links, hL_b_Links, c305, c306⟩ => q_fieldAddr fa_46_1 rfl rfl) ?_
    refine HA.val (k := 6) (v := vb_Links) rfl rfl (by kernel_rfl) (by kernel_rfl) (want_none) rfl (fun _ ⟨hL_a_Links, hL_b_Links, c305, c306⟩ => q_load to_44 rfl (Blk.cell c306 rfl)) ?_
    refine HA.val (k := 7) (v := .int .i64 i_1) rfl rfl (by kernel_rfl) (by kernel_rfl) (want_none) rfl (fun _ ⟨hL_a_Links, hL_b_Links, c305, c306⟩ => q_move rfl) ?_
    obtain ⟨ho_2, hM⟩ := hM
    refine HA.val (k := 8) (v := elemPtr 2 vb_Links (i_1).toNat) rfl rfl (by kernel_rfl) (by kernel_rfl) (want_none) rfl (fun _ ⟨hL_a_Links, hL_b_Links, c305, c306⟩ => q_idx ts_44 hL_b_Links rfl rfl ho_2) ?_
    refine HA.val (k := 9) (v := .agg #[.int .i64 ((gi b_Links i_1).1), .int .i64 ((gi b_Links i_1).2)]) rfl rfl (by kernel_rfl) (by kernel_rfl) (want_none) rfl (fun _ ⟨hL_a_Links, hL_b_Links, c305, c306⟩ => q_ldElemAgg (cs := [.int .i64 ((gi b_Links i_1).1), .int .i64 ((gi b_Links i_1).2)]) ta_67 hL_b_Links rfl ho_2 rfl) ?_
    refine HA.val (k := 10) (v := .bool (!decide (((gi a_Links i_1) : T_api_Branch) = (gi b_Links i_1)))) rfl rfl (by kernel_rfl) (by kernel_rfl) (want_none) rfl (fun _ ⟨hL_a_Links, hL_b_Links, c305, c306⟩ => q_neqAgg (a := (gi a_Links i_1)) (b := (gi b_Links i_1)) (fun a b w => teq_67 9998 a b w) (by kernel_rfl) rfl rfl rfl rfl) ?_
    refine HA.nil ⟨⟨hL_a_Links.is, hL_b_Links.is, (hS.box 0 rfl), (hS.box 1 rfl)⟩, (Go.Wk.at_nil _ _)⟩ (by kernel_rfl) (thenQ_normal (?_))
    refine HW.cond (!decide (((gi a_Links i_1) : T_api_Branch) = (gi b_Links i_1))) rfl (fun c_4 => ?_) (fun c_4 => ?_)
    ·
     replace hM := hM.1 (nd_true c_4)
     refine HW.seq ?_
     refine HW.region ?_
     refine oA (.bool false) rfl rfl ?_
     refine HO.nil (thenQ_normal (?_))
     refine HW.ret (blockQ_ret (thenQ_ret (thenQ_ret (blockQ_ret (thenQ_ret (?_))))))
     refine ⟨.inr rfl, .bool false, res1 rfl (rt rfl), ?_⟩
     replace hS : St F_2 (fr) h_4 := hS.perm2 [] 2 rfl rfl
     exact ⟨F_2, false, rfl, hK, hS, hL_a_Links, hL_b_Links, hM⟩
    ·
     replace hM := hM.2 (nd_false c_4)
     refine HW.skip (blockQ_normal (thenQ_normal (?_)))
     refine HW.region ?_
     refine oM (.int .i64 i_1) rfl rfl ?_
     obtain ⟨ho_3, hM⟩ := hM
     refine oV (.int .i64 (i_1 + 1)) (q_addN _ rfl rfl rfl ho_3.1 ho_3.2) rfl ?_
     refine oA (.int .i64 (i_1 + 1)) rfl rfl ?_
     refine HO.nil (thenQ_normal (?_))
     rw [hKe_1] at hM
     exact ⟨i_1 + 1, ⟨F_2, rfl, rfl, rfl, rfl, hK, hS, hL_a_Links, hL_b_Links, hM.1⟩, hM.2⟩
   ·
    replace hM := hM.2 (of_decide_eq_false c_3)
    refine HW.exit (thenQ_exit (thenQ_exit (blockQ_exit (thenQ_normal (?_)))))
    refine HW.seq ?_
    refine HW.region ?_
    refine oA (.bool true) rfl rfl ?_
    refine HO.nil (thenQ_normal (?_))
    refine HW.ret (?_)
    refine ⟨.inr rfl, .bool true, res1 rfl (rt rfl), ?_⟩
    replace hS : St F_2 (fr) h_4 := hS.perm2 [] 2 rfl rfl
    exact ⟨F_2, true, rfl, hK, hS, hL_a_Links, hL_b_Links, hM⟩

def ref33_Valid_j2 (t_Root : Int) (t_Links : List T_api_Branch) (root : Int) (services : List Int) (Q : Bool → Prop) (r_7 : List Int) (i_1 : Int) (K_1 : Int → Prop) : Prop :=
 ((0 : Int) ≤ i_1 ∧ i_1 < (r_7.length : Int)) ∧ ((¬ ((gi r_7 i_1) = root) → ref32_Next_W t_Root t_Links (gi r_7 i_1) (fun r_10 => (0 < (r_10.length : Int) → ref32_Has_W services (gi r_7 i_1) (fun r_11 => ((!r_11) = true → Q false) ∧ ((!r_11) = false → (I64 (i_1 + 1)) ∧ (K_1 (i_1 + 1))))) ∧ (¬ (0 < (r_10.length : Int)) → (I64 (i_1 + 1)) ∧ (K_1 (i_1 + 1))))) ∧ ((gi r_7 i_1) = root → (I64 (i_1 + 1)) ∧ (K_1 (i_1 + 1))))
def ref33_Valid_l1 (t_Root : Int) (t_Links : List T_api_Branch) (root : Int) (members : List Int) (services : List Int) (fan : Int) (Q : Bool → Prop) (r_7 : List Int) (K_1 : Int → Prop) (i_1 : Int) : Prop :=
 (i_1 < (r_7.length : Int) → ((0 : Int) ≤ i_1 ∧ i_1 < (r_7.length : Int)) ∧ ((¬ ((gi r_7 i_1) = root) → ref32_Has_W members (gi r_7 i_1) (fun r_8 => ((!r_8) = true → ref32_Has_W services (gi r_7 i_1) (fun r_9 => ((!r_9) = true → Q false) ∧ ((!r_9) = false → ref33_Valid_j2 t_Root t_Links root services Q r_7 i_1 K_1))) ∧ ((!r_8) = false → ref33_Valid_j2 t_Root t_Links root services Q r_7 i_1 K_1))) ∧ ((gi r_7 i_1) = root → ref33_Valid_j2 t_Root t_Links root services Q r_7 i_1 K_1))) ∧ (¬ (i_1 < (r_7.length : Int)) → ref32_Fan_W t_Root t_Links (fun r_12 => (r_12 ≤ fan → Q true) ∧ (¬ (r_12 ≤ fan) → ref33_Fits_W (members.length : Int) (services.length : Int) fan (fun r_13 => ((!r_13) = true → ref33_Star_W root members (fun r_0_1 r_1_1 => ref32_Same_W t_Root t_Links r_0_1 r_1_1 (fun r_14 => Q r_14))) ∧ ((!r_13) = false → Q false)))))
def ref33_Valid_j1 (t_Root : Int) (t_Links : List T_api_Branch) (root : Int) (members : List Int) (services : List Int) (fan : Int) (Q : Bool → Prop) (b_2 : Bool) : Prop :=
 (b_2 = true → Q false) ∧ (b_2 = false → ref32_Nodes_W t_Root t_Links (fun r_7 => loopW (fun (K_1 : Int → Prop) (s : Int) => ref33_Valid_l1 t_Root t_Links root members services fan Q r_7 K_1 s) 0))
def ref33_Valid_W (t_Root : Int) (t_Links : List T_api_Branch) (root : Int) (members : List Int) (services : List Int) (fan : Int) (Q : Bool → Prop) : Prop :=
 ref32_Good_W t_Root t_Links (fun r_2 => ((!r_2) = true → ref33_Valid_j1 t_Root t_Links root members services fan Q true) ∧ ((!r_2) = false → (¬ (t_Root = root) → ref33_Valid_j1 t_Root t_Links root members services fan Q true) ∧ (t_Root = root → ref33_Rises_W members (fun r_3 => ((!r_3) = true → ref33_Valid_j1 t_Root t_Links root members services fan Q true) ∧ ((!r_3) = false → ref33_Rises_W services (fun r_4 => ((!r_4) = true → ref33_Valid_j1 t_Root t_Links root members services fan Q true) ∧ ((!r_4) = false → ref32_Leaves_W t_Root t_Links (fun r_5 => ref32_SameInts_W r_5 members (fun r_6 => ref33_Valid_j1 t_Root t_Links root members services fan Q (!r_6))))))))))
set_option maxHeartbeats 40000000 in
set_option maxRecDepth 100000 in
theorem ref33_Valid_walk {F : Fz} {fr : List Ow} {h0 : Heap} (t_Root : Int) (t_Links : List T_api_Branch) (root : Int) (members : List Int) (services : List Int) (fan : Int) (vt_Links : Value) (vmembers : Value) (vservices : Value) (hS : St F (fr) h0) (hL_t_Links : SliceF F h0 2 e_api_Branch vt_Links t_Links) (hL_members : SliceF F h0 1 encI vmembers members) (hL_services : SliceF F h0 1 encI vservices services) {Q : Bool → Prop} (hM : ref33_Valid_W t_Root t_Links root members services fan Q) :
  HC Try.prog 24 #[.agg #[.int .i64 t_Root, vt_Links], .int .i64 root, vmembers, vservices, .int .i64 fan] h0 fun u h' => ∃ (F' : Fz) (r_1 : Bool), u = .bool r_1 ∧ Kp F h0 F' h' ∧ St F' (fr) h' ∧ (SliceF F' h' 2 e_api_Branch vt_Links t_Links) ∧ (SliceF F' h' 1 encI vmembers members) ∧ (SliceF F' h' 1 encI vservices services) ∧ Q r_1 := by
 unfold ref33_Valid_W at hM
 have hK := Kp.refl F h0
 refine HC.of_HW (n := 116) Try.func24 rfl rfl (Nat.le_of_ble_eq_true rfl) ?_
 refine HW.seq ?_
 refine HW.region ?_
 refine HO.eff (want_none) rfl (st_box (c := #[.int .i64 t_Root, vt_Links]) (k' := 2) hS rfl rfl) ?_
 rintro _ h_1 ⟨b_1, rfl, hS, hk⟩
 replace hK := hK.trans hk
 replace hL_t_Links := hL_t_Links.kp hk
 replace hL_members := hL_members.kp hk
 replace hL_services := hL_services.kp hk
 refine oA (.bool false) rfl rfl ?_
 refine HO.nil (thenQ_normal (?_))
 refine HW.seq ?_
 refine HW.seq_mid (fun f h => ∃ (F' : Fz) (b_2 : Bool), f 1 = .int .i64 root ∧ f 2 = vmembers ∧ f 3 = vservices ∧ f 4 = .int .i64 fan ∧ f 5 = .pointer (some ⟨b_1, 0, none⟩) ∧ f 10 = .bool false ∧ f 38 = .bool b_2 ∧ Kp F h0 F' h ∧ St F' (Ow.box b_1 46 #[.int .i64 t_Root, vt_Links] :: fr) h ∧ (SliceF F' h 2 e_api_Branch vt_Links t_Links) ∧ (SliceF F' h 1 encI vmembers members) ∧ (SliceF F' h 1 encI vservices services) ∧ ref33_Valid_j1 t_Root t_Links root members services fan Q b_2) ?_ ?_
 ·
  refine HW.region ?_
  refine oV (.agg #[.int .i64 t_Root, vt_Links]) (q_loadAgg (cs := [.int .i64 t_Root, vt_Links]) ta_46 rfl rfl (Blk.cells (k := 2) (hS.box 0 rfl) rfl)) rfl ?_
  refine HO.call (want_none) rfl (ec en_52 rfl rfl) (ref32_Good_walk (fr := (Ow.box b_1 46 #[.int .i64 t_Root, vt_Links] :: fr)) t_Root t_Links vt_Links hS hL_t_Links hM) ?_
  rintro _ h_2 ⟨F_1, r_2, rfl, hk, hS, _, hM⟩
  replace hK := hK.trans hk
  replace hL_t_Links := hL_t_Links.kp hk
  replace hL_members := hL_members.kp hk
  replace hL_services := hL_services.kp hk
  refine oV (.bool (!r_2)) (q_not rfl) rfl ?_
  refine oM (.bool (!r_2)) rfl rfl ?_
  rcases Bool.eq_false_or_eq_true (!r_2) with c_1 | c_1
  ·
   replace hM := hM.1 c_1
   refine HO.past (past_by rfl rfl c_1) rfl ?_
   refine HO.past (past_by rfl rfl c_1) rfl ?_
   refine HO.past (past_by rfl rfl c_1) rfl ?_
   refine HO.past (past_by rfl rfl c_1) rfl ?_
   refine oV (.bool true) (q_pickK true rfl c_1 rfl) rfl ?_
   refine oM (.bool true) rfl rfl ?_
   refine HO.past (past_some rfl rfl) rfl ?_
   refine HO.past (past_some rfl rfl) rfl ?_
   refine HO.past (past_some rfl rfl) rfl ?_
   refine oV (.bool true) (q_pick rfl rfl) rfl ?_
   refine oM (.bool true) rfl rfl ?_
   refine HO.past (past_some rfl rfl) rfl ?_
   refine HO.past (past_some rfl rfl) rfl ?_
   refine HO.past (past_some rfl rfl) rfl ?_
   refine oV (.bool true) (q_pick rfl rfl) rfl ?_
   refine oM (.bool true) rfl rfl ?_
   refine HO.past (past_some rfl rfl) rfl ?_
   refine HO.past (past_some rfl rfl) rfl ?_
   refine HO.past (past_some rfl rfl) rfl ?_
   refine HO.past (past_some rfl rfl) rfl ?_
   refine HO.past (past_some rfl rfl) rfl ?_
   refine oV (.bool true) (q_pick rfl rfl) rfl ?_
   refine HO.nil (thenQ_normal (?_))
   exact ⟨F_1, true, rfl, rfl, rfl, rfl, rfl, rfl, rfl, hK, hS, hL_t_Links, hL_members, hL_services, hM⟩
  ·
   replace hM := hM.2 c_1
   refine HO.val (v := .pointer (some ⟨b_1, 0, none⟩)) (want_by rfl rfl c_1) rfl (q_fieldAddr fa_46_0 rfl rfl) ?_
   refine HO.val (v := .int .i64 t_Root) (want_by rfl rfl c_1) rfl (q_load to_3 rfl (Blk.cell (hS.box 0 rfl) rfl)) ?_
   refine HO.val (v := .int .i64 root) (want_by rfl rfl c_1) rfl (q_move rfl) ?_
   refine HO.val (v := .bool (!decide (t_Root = root))) (want_by rfl rfl c_1) rfl (q_neq rfl rfl) ?_
   refine oV (.bool (!decide (t_Root = root))) (q_pickK false rfl c_1 rfl) rfl ?_
   refine oM (.bool (!decide (t_Root = root))) rfl rfl ?_
   rcases Bool.eq_false_or_eq_true (!decide (t_Root = root)) with c_2 | c_2
   ·
    replace hM := hM.1 (nd_true c_2)
    refine HO.past (past_by rfl rfl c_2) rfl ?_
    refine HO.past (past_by rfl rfl c_2) rfl ?_
    refine HO.past (past_by rfl rfl c_2) rfl ?_
    refine oV (.bool true) (q_pickK true rfl c_2 rfl) rfl ?_
    refine oM (.bool true) rfl rfl ?_
    refine HO.past (past_some rfl rfl) rfl ?_
    refine HO.past (past_some rfl rfl) rfl ?_
    refine HO.past (past_some rfl rfl) rfl ?_
    refine oV (.bool true) (q_pick rfl rfl) rfl ?_
    refine oM (.bool true) rfl rfl ?_
    refine HO.past (past_some rfl rfl) rfl ?_
    refine HO.past (past_some rfl rfl) rfl ?_
    refine HO.past (past_some rfl rfl) rfl ?_
    refine HO.past (past_some rfl rfl) rfl ?_
    refine HO.past (past_some rfl rfl) rfl ?_
    refine oV (.bool true) (q_pick rfl rfl) rfl ?_
    refine HO.nil (thenQ_normal (?_))
    exact ⟨F_1, true, rfl, rfl, rfl, rfl, rfl, rfl, rfl, hK, hS, hL_t_Links, hL_members, hL_services, hM⟩
   ·
    replace hM := hM.2 (nd_false c_2)
    refine HO.val (v := vmembers) (want_by rfl rfl c_2) rfl (q_move rfl) ?_
    refine HO.call (want_by rfl rfl c_2) rfl (ec en_53 rfl rfl) (ref33_Rises_walk (fr := (Ow.box b_1 46 #[.int .i64 t_Root, vt_Links] :: fr)) members vmembers hS hL_members hM) ?_
    rintro _ h_3 ⟨F_2, r_3, rfl, hk, hS, _, hM⟩
    replace hK := hK.trans hk
    replace hL_t_Links := hL_t_Links.kp hk
    replace hL_members := hL_members.kp hk
    replace hL_services := hL_services.kp hk
    refine HO.val (v := .bool (!r_3)) (want_by rfl rfl c_2) rfl (q_not rfl) ?_
    refine oV (.bool (!r_3)) (q_pickK false rfl c_2 rfl) rfl ?_
    refine oM (.bool (!r_3)) rfl rfl ?_
    rcases Bool.eq_false_or_eq_true (!r_3) with c_3 | c_3
    ·
     replace hM := hM.1 c_3
     refine HO.past (past_by rfl rfl c_3) rfl ?_
     refine HO.past (past_by rfl rfl c_3) rfl ?_
     refine HO.past (past_by rfl rfl c_3) rfl ?_
     refine oV (.bool true) (q_pickK true rfl c_3 rfl) rfl ?_
     refine oM (.bool true) rfl rfl ?_
     refine HO.past (past_some rfl rfl) rfl ?_
     refine HO.past (past_some rfl rfl) rfl ?_
     refine HO.past (past_some rfl rfl) rfl ?_
     refine HO.past (past_some rfl rfl) rfl ?_
     refine HO.past (past_some rfl rfl) rfl ?_
     refine oV (.bool true) (q_pick rfl rfl) rfl ?_
     refine HO.nil (thenQ_normal (?_))
     exact ⟨F_2, true, rfl, rfl, rfl, rfl, rfl, rfl, rfl, hK, hS, hL_t_Links, hL_members, hL_services, hM⟩
    ·
     replace hM := hM.2 c_3
     refine HO.val (v := vservices) (want_by rfl rfl c_3) rfl (q_move rfl) ?_
     refine HO.call (want_by rfl rfl c_3) rfl (ec en_53 rfl rfl) (ref33_Rises_walk (fr := (Ow.box b_1 46 #[.int .i64 t_Root, vt_Links] :: fr)) services vservices hS hL_services hM) ?_
     rintro _ h_4 ⟨F_3, r_4, rfl, hk, hS, _, hM⟩
     replace hK := hK.trans hk
     replace hL_t_Links := hL_t_Links.kp hk
     replace hL_members := hL_members.kp hk
     replace hL_services := hL_services.kp hk
     refine HO.val (v := .bool (!r_4)) (want_by rfl rfl c_3) rfl (q_not rfl) ?_
     refine oV (.bool (!r_4)) (q_pickK false rfl c_3 rfl) rfl ?_
     refine oM (.bool (!r_4)) rfl rfl ?_
     rcases Bool.eq_false_or_eq_true (!r_4) with c_4 | c_4
     ·
      replace hM := hM.1 c_4
      refine HO.past (past_by rfl rfl c_4) rfl ?_
      refine HO.past (past_by rfl rfl c_4) rfl ?_
      refine HO.past (past_by rfl rfl c_4) rfl ?_
      refine HO.past (past_by rfl rfl c_4) rfl ?_
      refine HO.past (past_by rfl rfl c_4) rfl ?_
      refine oV (.bool true) (q_pickK true rfl c_4 rfl) rfl ?_
      refine HO.nil (thenQ_normal (?_))
      exact ⟨F_3, true, rfl, rfl, rfl, rfl, rfl, rfl, rfl, hK, hS, hL_t_Links, hL_members, hL_services, hM⟩
     ·
      replace hM := hM.2 c_4
      refine HO.val (v := .agg #[.int .i64 t_Root, vt_Links]) (want_by rfl rfl c_4) rfl (q_loadAgg (cs := [.int .i64 t_Root, vt_Links]) ta_46 rfl rfl (Blk.cells (k := 2) (hS.box 0 rfl) rfl)) ?_
      refine HO.call (want_by rfl rfl c_4) rfl (ec en_55 rfl rfl) (ref32_Leaves_walk (fr := (Ow.box b_1 46 #[.int .i64 t_Root, vt_Links] :: fr)) t_Root t_Links vt_Links hS hL_t_Links hM) ?_
      rintro vr_1 h_5 ⟨F_4, r_5, _, rfl, hk, hS, _, hM⟩
      replace hK := hK.trans hk
      replace hL_t_Links := hL_t_Links.kp hk
      replace hL_members := hL_members.kp hk
      replace hL_services := hL_services.kp hk
      refine HO.val (v := vmembers) (want_by rfl rfl c_4) rfl (q_move rfl) ?_
      have hZ_1 := hS
      have hkz_1 := (hS.freeze).2
      replace hS := hS.freeze.1
      have hL_1 : SliceF (fun bz_ => F_4 bz_ ∨ (Ow.own 3 1 encI vr_1 r_5).foot bz_) h_5 1 encI vr_1 r_5 := ⟨(hZ_1.own 0 rfl).slice, fun _ b hb => .inr hb⟩
      refine HO.call (want_by rfl rfl c_4) rfl (ec en_54 rfl rfl) (ref32_SameInts_walk (fr := (Ow.box b_1 46 #[.int .i64 t_Root, vt_Links] :: fr)) r_5 members vr_1 vmembers hS hL_1 (hL_members.kp hkz_1) hM) ?_
      rintro _ h_6 ⟨F_5, r_6, rfl, hk, hS, _, _, hM⟩
      obtain ⟨hS, hk⟩ := hZ_1.back hk hS
      generalize (fun bz_ => F_5 bz_ ∧ ¬ (Ow.own 3 1 encI vr_1 r_5).foot bz_) = F_6 at hS hk
      replace hK := hK.trans hk
      replace hL_t_Links := hL_t_Links.kp hk
      replace hL_members := hL_members.kp hk
      replace hL_services := hL_services.kp hk
      refine HO.val (v := .bool (!r_6)) (want_by rfl rfl c_4) rfl (q_not rfl) ?_
      refine oV (.bool (!r_6)) (q_pickK false rfl c_4 rfl) rfl ?_
      refine HO.nil (thenQ_normal (?_))
      replace hS : St F_6 (Ow.box b_1 46 #[.int .i64 t_Root, vt_Links] :: fr) h_6 := hS.perm2 [1] 2 rfl rfl
      exact ⟨F_6, !r_6, rfl, rfl, rfl, rfl, rfl, rfl, rfl, hK, hS, hL_t_Links, hL_members, hL_services, hM⟩
 ·
  rintro f_1 h_7 ⟨F_7, b_2, e1, e2, e3, e4, e5, e10, e38, hK, hS, hL_t_Links, hL_members, hL_services, hM⟩
  unfold ref33_Valid_j1 at hM
  refine HW.fr [(1, .int .i64 root), (2, vmembers), (3, vservices), (4, .int .i64 fan), (5, .pointer (some ⟨b_1, 0, none⟩)), (10, .bool false), (38, .bool b_2)] ⟨e1, e2, e3, e4, e5, e10, e38, trivial⟩ ?_
  refine HW.cond b_2 rfl (fun c_5 => ?_) (fun c_5 => ?_)
  ·
   replace hM := hM.1 c_5
   refine HW.seq ?_
   refine HW.region ?_
   refine oA (.bool false) rfl rfl ?_
   refine HO.nil (thenQ_normal (?_))
   refine HW.ret (thenQ_ret (?_))
   refine ⟨.inr rfl, .bool false, res1 rfl (rt rfl), ?_⟩
   replace hS : St F_7 (fr) h_7 := hS.perm2 [] 1 rfl rfl
   exact ⟨F_7, false, rfl, hK, hS, hL_t_Links, hL_members, hL_services, hM⟩
  ·
   replace hM := hM.2 c_5
   refine HW.skip (thenQ_normal (?_))
   refine HW.seq ?_
   refine HW.region ?_
   refine oV (.agg #[.int .i64 t_Root, vt_Links]) (q_loadAgg (cs := [.int .i64 t_Root, vt_Links]) ta_46 rfl rfl (Blk.cells (k := 2) (hS.box 0 rfl) rfl)) rfl ?_
   refine HO.call (want_none) rfl (ec en_56 rfl rfl) (ref32_Nodes_walk (fr := (Ow.box b_1 46 #[.int .i64 t_Root, vt_Links] :: fr)) t_Root t_Links vt_Links hS hL_t_Links hM) ?_
   rintro vr_2 h_8 ⟨F_8, r_7, _, rfl, hk, hS, _, hM⟩
   replace hK := hK.trans hk
   replace hL_t_Links := hL_t_Links.kp hk
   replace hL_members := hL_members.kp hk
   replace hL_services := hL_services.kp hk
   refine oA (vr_2) rfl rfl ?_
   refine HO.nil (thenQ_normal (?_))
   refine HW.seq ?_
   refine HW.seq ?_
   refine HW.region ?_
   refine oA (.int .i64 0) rfl rfl ?_
   refine HO.nil (thenQ_normal (?_))
   refine HW.block ?_
   obtain ⟨I_1, m_1, hI_1, hR_1⟩ := hM
   replace hS : St F_8 (Ow.box b_1 46 #[.int .i64 t_Root, vt_Links] :: Ow.own 3 1 encI vr_2 r_7 :: fr) h_8 := hS.perm2 [1, 0] 2 rfl rfl
   refine HW.loop (S := Int) (fun i_1 f h => ∃ (F' : Fz), f 1 = .int .i64 root ∧ f 2 = vmembers ∧ f 3 = vservices ∧ f 4 = .int .i64 fan ∧ f 5 = .pointer (some ⟨b_1, 0, none⟩) ∧ f 10 = .bool false ∧ f 11 = vr_2 ∧ f 12 = .int .i64 i_1 ∧ Kp F h0 F' h ∧ St F' (Ow.box b_1 46 #[.int .i64 t_Root, vt_Links] :: Ow.own 3 1 encI vr_2 r_7 :: fr) h ∧ (SliceF F' h 2 e_api_Branch vt_Links t_Links) ∧ (SliceF F' h 1 encI vmembers members) ∧ (SliceF F' h 1 encI vservices services) ∧ I_1 i_1) m_1 0 ⟨F_8, rfl, rfl, rfl, rfl, rfl, rfl, rfl, rfl, hK, hS, hL_t_Links, hL_members, hL_services, hI_1⟩ ?_
   rintro i_1 f_2 h_9 ⟨F_9, e1, e2, e3, e4, e5, e10, e11, e12, hK, hS, hL_t_Links, hL_members, hL_services, hI0⟩
   obtain ⟨K_1, hKe_1⟩ : ∃ K : Int → Prop, K = fun i_1' => I_1 i_1' ∧ m_1 i_1' < m_1 i_1 := ⟨_, rfl⟩
   have hM : ref33_Valid_l1 t_Root t_Links root members services fan Q r_7 K_1 i_1 := by rw [hKe_1]; exact hR_1 i_1 hI0
   unfold ref33_Valid_l1 at hM
   refine HW.fr [(1, .int .i64 root), (2, vmembers), (3, vservices), (4, .int .i64 fan), (5, .pointer (some ⟨b_1, 0, none⟩)), (10, .bool false), (11, vr_2), (12, .int .i64 i_1)] ⟨e1, e2, e3, e4, e5, e10, e11, e12, trivial⟩ ?_
   refine HW.seq ?_
   refine HW.seq ?_
   refine HW.region ?_
   refine oM (.int .i64 i_1) rfl rfl ?_
   refine oM (vr_2) rfl rfl ?_
   refine oV (.int .i64 (r_7.length : Int)) (q_len ts_31 (shp (hS.own 1 rfl).slice) rfl rfl) rfl ?_
   refine oV (.bool (decide (i_1 < (r_7.length : Int)))) (q_lss rfl rfl) rfl ?_
   refine HO.nil (thenQ_normal (?_))
   refine HW.cond (decide (i_1 < (r_7.length : Int))) rfl (fun c_6 => ?_) (fun c_6 => ?_)
   ·
    replace hM := hM.1 (of_decide_eq_true c_6)
    refine HW.skip (thenQ_normal (?_))
    refine HW.seq ?_
    refine HW.block ?_
    refine HW.seq_mid (fun f h => ∃ (F' : Fz), f 1 = .int .i64 root ∧ f 2 = vmembers ∧ f 3 = vservices ∧ f 4 = .int .i64 fan ∧ f 5 = .pointer (some ⟨b_1, 0, none⟩) ∧ f 10 = .bool false ∧ f 11 = vr_2 ∧ f 12 = .int .i64 i_1 ∧ Kp F h0 F' h ∧ St F' (Ow.box b_1 46 #[.int .i64 t_Root, vt_Links] :: Ow.own 3 1 encI vr_2 r_7 :: fr) h ∧ (SliceF F' h 2 e_api_Branch vt_Links t_Links) ∧ (SliceF F' h 1 encI vmembers members) ∧ (SliceF F' h 1 encI vservices services) ∧ ref33_Valid_j2 t_Root t_Links root services Q r_7 i_1 K_1) ?_ ?_
    ·
     refine HW.seq ?_
     refine HW.region ?_
     refine oM (vr_2) rfl rfl ?_
     refine oM (.int .i64 i_1) rfl rfl ?_
     obtain ⟨ho_1, hM⟩ := hM
     refine oV (elemPtr 1 vr_2 (i_1).toNat) (q_idx ts_31 (hS.own 1 rfl).slice rfl rfl ho_1) rfl ?_
     refine oV (.int .i64 (gi r_7 i_1)) (q_ldElem to_3 (hS.own 1 rfl).slice rfl ho_1 rfl) rfl ?_
     refine oM (.int .i64 root) rfl rfl ?_
     refine oV (.bool (!decide ((gi r_7 i_1) = root))) (q_neq rfl rfl) rfl ?_
     refine oM (.bool (!decide ((gi r_7 i_1) = root))) rfl rfl ?_
     rcases Bool.eq_false_or_eq_true (!decide ((gi r_7 i_1) = root)) with c_7 | c_7
     ·
      replace hM := hM.1 (nd_true c_7)
      refine HO.val (v := vmembers) (want_by rfl rfl c_7) rfl (q_move rfl) ?_
      refine HO.val (v := vr_2) (want_by rfl rfl c_7) rfl (q_move rfl) ?_
      refine HO.val (v := .int .i64 i_1) (want_by rfl rfl c_7) rfl (q_move rfl) ?_
      refine HO.val (v := elemPtr 1 vr_2 (i_1).toNat) (want_by rfl rfl c_7) rfl (q_idx ts_31 (hS.own 1 rfl).slice rfl rfl ho_1) ?_
      refine HO.val (v := .int .i64 (gi r_7 i_1)) (want_by rfl rfl c_7) rfl (q_ldElem to_3 (hS.own 1 rfl).slice rfl ho_1 rfl) ?_
      refine HO.call (want_by rfl rfl c_7) rfl (ec en_12 rfl rfl) (ref32_Has_walk (fr := (Ow.box b_1 46 #[.int .i64 t_Root, vt_Links] :: Ow.own 3 1 encI vr_2 r_7 :: fr)) members (gi r_7 i_1) vmembers hS hL_members hM) ?_
      rintro _ h_10 ⟨F_10, r_8, rfl, hk, hS, _, hM⟩
      replace hK := hK.trans hk
      replace hL_t_Links := hL_t_Links.kp hk
      replace hL_members := hL_members.kp hk
      replace hL_services := hL_services.kp hk
      refine HO.val (v := .bool (!r_8)) (want_by rfl rfl c_7) rfl (q_not rfl) ?_
      refine oV (.bool (!r_8)) (q_pickK true rfl c_7 rfl) rfl ?_
      refine oM (.bool (!r_8)) rfl rfl ?_
      rcases Bool.eq_false_or_eq_true (!r_8) with c_8 | c_8
      ·
       replace hM := hM.1 c_8
       refine HO.val (v := vservices) (want_by rfl rfl c_8) rfl (q_move rfl) ?_
       refine HO.val (v := vr_2) (want_by rfl rfl c_8) rfl (q_move rfl) ?_
       refine HO.val (v := .int .i64 i_1) (want_by rfl rfl c_8) rfl (q_move rfl) ?_
       refine HO.val (v := elemPtr 1 vr_2 (i_1).toNat) (want_by rfl rfl c_8) rfl (q_idx ts_31 (hS.own 1 rfl).slice rfl rfl ho_1) ?_
       refine HO.val (v := .int .i64 (gi r_7 i_1)) (want_by rfl rfl c_8) rfl (q_ldElem to_3 (hS.own 1 rfl).slice rfl ho_1 rfl) ?_
       refine HO.call (want_by rfl rfl c_8) rfl (ec en_12 rfl rfl) (ref32_Has_walk (fr := (Ow.box b_1 46 #[.int .i64 t_Root, vt_Links] :: Ow.own 3 1 encI vr_2 r_7 :: fr)) services (gi r_7 i_1) vservices hS hL_services hM) ?_
       rintro _ h_11 ⟨F_11, r_9, rfl, hk, hS, _, hM⟩
       replace hK := hK.trans hk
       replace hL_t_Links := hL_t_Links.kp hk
       replace hL_members := hL_members.kp hk
       replace hL_services := hL_services.kp hk
       refine HO.val (v := .bool (!r_9)) (want_by rfl rfl c_8) rfl (q_not rfl) ?_
       refine oV (.bool (!r_9)) (q_pickK true rfl c_8 rfl) rfl ?_
       refine HO.nil (thenQ_normal (?_))
       refine HW.cond (!r_9) rfl (fun c_9 => ?_) (fun c_9 => ?_)
       ·
        replace hM := hM.1 c_9
        refine HW.seq ?_
        refine HW.region ?_
        refine oA (.bool false) rfl rfl ?_
        refine HO.nil (thenQ_normal (?_))
        refine HW.ret (thenQ_ret (blockQ_ret (thenQ_ret (thenQ_ret (blockQ_ret (thenQ_ret (?_)))))))
        refine ⟨.inr rfl, .bool false, res1 rfl (rt rfl), ?_⟩
        replace hS : St F_11 (fr) h_11 := hS.perm2 [] 2 rfl rfl
        exact ⟨F_11, false, rfl, hK, hS, hL_t_Links, hL_members, hL_services, hM⟩
       ·
        replace hM := hM.2 c_9
        refine HW.skip (thenQ_normal (?_))
        exact ⟨F_11, rfl, rfl, rfl, rfl, rfl, rfl, rfl, rfl, hK, hS, hL_t_Links, hL_members, hL_services, hM⟩
      ·
       replace hM := hM.2 c_8
       refine HO.past (past_by rfl rfl c_8) rfl ?_
       refine HO.past (past_by rfl rfl c_8) rfl ?_
       refine HO.past (past_by rfl rfl c_8) rfl ?_
       refine HO.past (past_by rfl rfl c_8) rfl ?_
       refine HO.past (past_by rfl rfl c_8) rfl ?_
       refine HO.past (past_by rfl rfl c_8) rfl ?_
       refine HO.past (past_by rfl rfl c_8) rfl ?_
       refine oV (.bool false) (q_pickK false rfl c_8 rfl) rfl ?_
       refine HO.nil (thenQ_normal (?_))
       refine HW.condF rfl ?_
       refine HW.skip (thenQ_normal (?_))
       exact ⟨F_10, rfl, rfl, rfl, rfl, rfl, rfl, rfl, rfl, hK, hS, hL_t_Links, hL_members, hL_services, hM⟩
     ·
      replace hM := hM.2 (nd_false c_7)
      refine HO.past (past_by rfl rfl c_7) rfl ?_
      refine HO.past (past_by rfl rfl c_7) rfl ?_
      refine HO.past (past_by rfl rfl c_7) rfl ?_
      refine HO.past (past_by rfl rfl c_7) rfl ?_
      refine HO.past (past_by rfl rfl c_7) rfl ?_
      refine HO.past (past_by rfl rfl c_7) rfl ?_
      refine HO.past (past_by rfl rfl c_7) rfl ?_
      refine oV (.bool false) (q_pickK false rfl c_7 rfl) rfl ?_
      refine oM (.bool false) rfl rfl ?_
      refine HO.past (past_some rfl rfl) rfl ?_
      refine HO.past (past_some rfl rfl) rfl ?_
      refine HO.past (past_some rfl rfl) rfl ?_
      refine HO.past (past_some rfl rfl) rfl ?_
      refine HO.past (past_some rfl rfl) rfl ?_
      refine HO.past (past_some rfl rfl) rfl ?_
      refine HO.past (past_some rfl rfl) rfl ?_
      refine oV (.bool false) (q_pick rfl rfl) rfl ?_
      refine HO.nil (thenQ_normal (?_))
      refine HW.condF rfl ?_
      refine HW.skip (thenQ_normal (?_))
      exact ⟨F_9, rfl, rfl, rfl, rfl, rfl, rfl, rfl, rfl, hK, hS, hL_t_Links, hL_members, hL_services, hM⟩
    ·
     rintro f_3 h_12 ⟨F_12, e1, e2, e3, e4, e5, e10, e11, e12, hK, hS, hL_t_Links, hL_members, hL_services, hM⟩
     unfold ref33_Valid_j2 at hM
     refine HW.fr [(1, .int .i64 root), (2, vmembers), (3, vservices), (4, .int .i64 fan), (5, .pointer (some ⟨b_1, 0, none⟩)), (10, .bool false), (11, vr_2), (12, .int .i64 i_1)] ⟨e1, e2, e3, e4, e5, e10, e11, e12, trivial⟩ ?_
     refine HW.seq ?_
     refine HW.regionA 25 mixed (fun h => (Blk h b_1 (.cells #[.int .i64 t_Root, vt_Links] 46 (0, 0))) ∧ (OwnIs h 0 3 1 encI vr_2 r_7)) [] (by kernel_rfl) ?_
     refine HA.val (k := 0) (v := vr_2) rfl rfl (by kernel_rfl) (by kernel_rfl) (want_none) rfl (fun _ ⟨c306, c307⟩ => q_move rfl) ?_
     refine HA.val (k := 1) (v := .int .i64 i_1) rfl rfl (by kernel_rfl) (by kernel_rfl) (want_none) rfl (fun _ ⟨c306, c307⟩ => q_move rfl) ?_
     obtain ⟨ho_2, hM⟩ := hM
     refine HA.val (k := 2) (v := elemPtr 1 vr_2 (i_1).toNat) rfl rfl (by kernel_rfl) (by kernel_rfl) (want_none) rfl (fun _ ⟨c306, c307⟩ => q_idx ts_31 c307.slice rfl rfl ho_2) ?_
     refine HA.val (k := 3) (v := .int .i64 (gi r_7 i_1)) rfl rfl (by kernel_rfl) (by kernel_rfl) (want_none) rfl (fun _ ⟨c306, c307⟩ => q_ldElem to_3 c307.slice rfl ho_2 rfl) ?_
     refine HA.val (k := 4) (v := .int .i64 root) rfl rfl (by kernel_rfl) (by kernel_rfl) (want_none) rfl (fun _ ⟨c306, c307⟩ => q_move rfl) ?_
     refine HA.val (k := 5) (v := .bool (!decide ((gi r_7 i_1) = root))) rfl rfl (by kernel_rfl) (by kernel_rfl) (want_none) rfl (fun _ ⟨c306, c307⟩ => q_neq rfl rfl) ?_
     refine HA.val (k := 6) (v := .bool (!decide ((gi r_7 i_1) = root))) rfl rfl (by kernel_rfl) (by kernel_rfl) (want_none) rfl (fun _ ⟨c306, c307⟩ => q_move rfl) ?_
     rcases Bool.eq_false_or_eq_true (!decide ((gi r_7 i_1) = root)) with c_10 | c_10
     ·
      replace hM := hM.1 (nd_true c_10)
      refine HA.val (k := 7) (v := .agg #[.int .i64 t_Root, vt_Links]) rfl rfl (by kernel_rfl) (by kernel_rfl) (want_by rfl rfl c_10) rfl (fun _ ⟨c306, c307⟩ => q_loadAgg (cs := [.int .i64 t_Root, vt_Links]) ta_46 rfl rfl (Blk.cells (k := 2) c306 rfl)) ?_
      refine HA.val (k := 8) (v := vr_2) rfl rfl (by kernel_rfl) (by kernel_rfl) (want_by rfl rfl c_10) rfl (fun _ ⟨c306, c307⟩ => q_move rfl) ?_
      refine HA.val (k := 9) (v := .int .i64 i_1) rfl rfl (by kernel_rfl) (by kernel_rfl) (want_by rfl rfl c_10) rfl (fun _ ⟨c306, c307⟩ => q_move rfl) ?_
      refine HA.val (k := 10) (v := elemPtr 1 vr_2 (i_1).toNat) rfl rfl (by kernel_rfl) (by kernel_rfl) (want_by rfl rfl c_10) rfl (fun _ ⟨c306, c307⟩ => q_idx ts_31 c307.slice rfl rfl ho_2) ?_
      refine HA.val (k := 11) (v := .int .i64 (gi r_7 i_1)) rfl rfl (by kernel_rfl) (by kernel_rfl) (want_by rfl rfl c_10) rfl (fun _ ⟨c306, c307⟩ => q_ldElem to_3 c307.slice rfl ho_2 rfl) ?_
      refine HA.one (k := 12) ⟨⟨(hS.box 0 rfl), (hS.own 1 rfl)⟩, (Go.Wk.at_nil _ _)⟩ (by kernel_rfl) ?_
      refine HS.call rfl (want_by rfl rfl c_10) rfl (ec en_57 rfl rfl) (ref32_Next_walk (fr := (Ow.box b_1 46 #[.int .i64 t_Root, vt_Links] :: Ow.own 3 1 encI vr_2 r_7 :: fr)) t_Root t_Links (gi r_7 i_1) vt_Links hS hL_t_Links hM) ?_
      rintro vr_3 h_13 ⟨F_13, r_10, _, rfl, hk, hS, _, hM⟩
      replace hK := hK.trans hk
      replace hL_t_Links := hL_t_Links.kp hk
      replace hL_members := hL_members.kp hk
      replace hL_services := hL_services.kp hk
      refine Go.Wk.HA.re (fun h => (OwnIs h 0 3 1 encI vr_3 r_10) ∧ (Blk h b_1 (.cells #[.int .i64 t_Root, vt_Links] 46 (0, 0))) ∧ (OwnIs h 0 3 1 encI vr_2 r_7)) [] (fun L_ h_ hL_ ⟨c380, c306, c307⟩ hs_ => ⟨⟨c306, c307⟩, (Go.Wk.at_nil _ _)⟩) ?_
      refine HA.val (k := 13) (v := .int .i64 (r_10.length : Int)) rfl rfl (by kernel_rfl) (by kernel_rfl) (want_by rfl rfl c_10) rfl (fun _ ⟨c380, c306, c307⟩ => q_len ts_31 (shp c380.slice) rfl rfl) ?_
      refine HA.val (k := 14) (v := .bool (decide (0 < (r_10.length : Int)))) rfl rfl (by kernel_rfl) (by kernel_rfl) (want_by rfl rfl c_10) rfl (fun _ ⟨c380, c306, c307⟩ => q_gtr rfl rfl) ?_
      refine HA.val (k := 15) (v := .bool (decide (0 < (r_10.length : Int)))) rfl rfl (by kernel_rfl) (by kernel_rfl) (want_none) rfl (fun _ ⟨c380, c306, c307⟩ => q_pickK true rfl c_10 rfl) ?_
      refine HA.val (k := 16) (v := .bool (decide (0 < (r_10.length : Int)))) rfl rfl (by kernel_rfl) (by kernel_rfl) (want_none) rfl (fun _ ⟨c380, c306, c307⟩ => q_move rfl) ?_
      rcases Bool.eq_false_or_eq_true (decide (0 < (r_10.length : Int))) with c_11 | c_11
      ·
       replace hM := hM.1 (of_decide_eq_true c_11)
       refine HA.val (k := 17) (v := vservices) rfl rfl (by kernel_rfl) (by kernel_rfl) (want_by rfl rfl c_11) rfl (fun _ ⟨c380, c306, c307⟩ => q_move rfl) ?_
       refine HA.val (k := 18) (v := vr_2) rfl rfl (by kernel_rfl) (by kernel_rfl) (want_by rfl rfl c_11) rfl (fun _ ⟨c380, c306, c307⟩ => q_move rfl) ?_
       refine HA.val (k := 19) (v := .int .i64 i_1) rfl rfl (by kernel_rfl) (by kernel_rfl) (want_by rfl rfl c_11) rfl (fun _ ⟨c380, c306, c307⟩ => q_move rfl) ?_
       refine HA.val (k := 20) (v := elemPtr 1 vr_2 (i_1).toNat) rfl rfl (by kernel_rfl) (by kernel_rfl) (want_by rfl rfl c_11) rfl (fun _ ⟨c380, c306, c307⟩ => q_idx ts_31 c307.slice rfl rfl ho_2) ?_
       refine HA.val (k := 21) (v := .int .i64 (gi r_7 i_1)) rfl rfl (by kernel_rfl) (by kernel_rfl) (want_by rfl rfl c_11) rfl (fun _ ⟨c380, c306, c307⟩ => q_ldElem to_3 c307.slice rfl ho_2 rfl) ?_
       refine HA.one (k := 22) ⟨⟨(hS.own 0 rfl), (hS.box 1 rfl), (hS.own 2 rfl)⟩, (Go.Wk.at_nil _ _)⟩ (by kernel_rfl) ?_
       refine HS.call rfl (want_by rfl rfl c_11) rfl (ec en_12 rfl rfl) (ref32_Has_walk (fr := (Ow.own 3 1 encI vr_3 r_10 :: Ow.box b_1 46 #[.int .i64 t_Root, vt_Links] :: Ow.own 3 1 encI vr_2 r_7 :: fr)) services (gi r_7 i_1) vservices hS hL_services hM) ?_
       rintro _ h_14 ⟨F_14, r_11, rfl, hk, hS, _, hM⟩
       replace hK := hK.trans hk
       replace hL_t_Links := hL_t_Links.kp hk
       replace hL_members := hL_members.kp hk
       replace hL_services := hL_services.kp hk
       refine HA.val (k := 23) (v := .bool (!r_11)) rfl rfl (by kernel_rfl) (by kernel_rfl) (want_by rfl rfl c_11) rfl (fun _ ⟨c380, c306, c307⟩ => q_not rfl) ?_
       refine HA.val (k := 24) (v := .bool (!r_11)) rfl rfl (by kernel_rfl) (by kernel_rfl) (want_none) rfl (fun _ ⟨c380, c306, c307⟩ => q_pickK true rfl c_11 rfl) ?_
       refine HA.nil ⟨⟨(hS.own 0 rfl), (hS.box 1 rfl), (hS.own 2 rfl)⟩, (Go.Wk.at_nil _ _)⟩ (by kernel_rfl) (thenQ_normal (?_))
       refine HW.cond (!r_11) rfl (fun c_12 => ?_) (fun c_12 => ?_)
       ·
        replace hM := hM.1 c_12
        refine HW.seq ?_
        refine HW.region ?_
        refine oA (.bool false) rfl rfl ?_
        refine HO.nil (thenQ_normal (?_))
        refine HW.ret (blockQ_ret (thenQ_ret (thenQ_ret (blockQ_ret (thenQ_ret (?_))))))
        refine ⟨.inr rfl, .bool false, res1 rfl (rt rfl), ?_⟩
        replace hS : St F_14 (fr) h_14 := hS.perm2 [] 3 rfl rfl
        exact ⟨F_14, false, rfl, hK, hS, hL_t_Links, hL_members, hL_services, hM⟩
       ·
        replace hM := hM.2 c_12
        refine HW.skip (blockQ_normal (thenQ_normal (?_)))
        refine HW.region ?_
        refine oM (.int .i64 i_1) rfl rfl ?_
        obtain ⟨ho_3, hM⟩ := hM
        refine oV (.int .i64 (i_1 + 1)) (q_addN _ rfl rfl rfl ho_3.1 ho_3.2) rfl ?_
        refine oA (.int .i64 (i_1 + 1)) rfl rfl ?_
        refine HO.nil (thenQ_normal (?_))
        replace hS : St F_14 (Ow.box b_1 46 #[.int .i64 t_Root, vt_Links] :: Ow.own 3 1 encI vr_2 r_7 :: fr) h_14 := hS.perm2 [1, 2] 3 rfl rfl
        rw [hKe_1] at hM
        exact ⟨i_1 + 1, ⟨F_14, rfl, rfl, rfl, rfl, rfl, rfl, rfl, rfl, hK, hS, hL_t_Links, hL_members, hL_services, hM.1⟩, hM.2⟩
      ·
       replace hM := hM.2 (of_decide_eq_false c_11)
       refine HA.past (k := 17) rfl rfl (by kernel_rfl) (by kernel_rfl) (past_by rfl rfl c_11) rfl ?_
       refine HA.past (k := 18) rfl rfl (by kernel_rfl) (by kernel_rfl) (past_by rfl rfl c_11) rfl ?_
       refine HA.past (k := 19) rfl rfl (by kernel_rfl) (by kernel_rfl) (past_by rfl rfl c_11) rfl ?_
       refine HA.past (k := 20) rfl rfl (by kernel_rfl) (by kernel_rfl) (past_by rfl rfl c_11) rfl ?_
       refine HA.past (k := 21) rfl rfl (by kernel_rfl) (by kernel_rfl) (past_by rfl rfl c_11) rfl ?_
       refine HA.one (k := 22) ⟨⟨(hS.own 0 rfl), (hS.box 1 rfl), (hS.own 2 rfl)⟩, (Go.Wk.at_nil _ _)⟩ (by kernel_rfl) ?_
       refine HS.past rfl (past_by rfl rfl c_11) rfl ?_
       refine HA.past (k := 23) rfl rfl (by kernel_rfl) (by kernel_rfl) (past_by rfl rfl c_11) rfl ?_
       refine HA.val (k := 24) (v := .bool false) rfl rfl (by kernel_rfl) (by kernel_rfl) (want_none) rfl (fun _ ⟨c380, c306, c307⟩ => q_pickK false rfl c_11 rfl) ?_
       refine HA.nil ⟨⟨(hS.own 0 rfl), (hS.box 1 rfl), (hS.own 2 rfl)⟩, (Go.Wk.at_nil _ _)⟩ (by kernel_rfl) (thenQ_normal (?_))
       refine HW.condF rfl ?_
       refine HW.skip (blockQ_normal (thenQ_normal (?_)))
       refine HW.region ?_
       refine oM (.int .i64 i_1) rfl rfl ?_
       obtain ⟨ho_4, hM⟩ := hM
       refine oV (.int .i64 (i_1 + 1)) (q_addN _ rfl rfl rfl ho_4.1 ho_4.2) rfl ?_
       refine oA (.int .i64 (i_1 + 1)) rfl rfl ?_
       refine HO.nil (thenQ_normal (?_))
       replace hS : St F_13 (Ow.box b_1 46 #[.int .i64 t_Root, vt_Links] :: Ow.own 3 1 encI vr_2 r_7 :: fr) h_13 := hS.perm2 [1, 2] 3 rfl rfl
       rw [hKe_1] at hM
       exact ⟨i_1 + 1, ⟨F_13, rfl, rfl, rfl, rfl, rfl, rfl, rfl, rfl, hK, hS, hL_t_Links, hL_members, hL_services, hM.1⟩, hM.2⟩
     ·
      replace hM := hM.2 (nd_false c_10)
      refine HA.past (k := 7) rfl rfl (by kernel_rfl) (by kernel_rfl) (past_by rfl rfl c_10) rfl ?_
      refine HA.past (k := 8) rfl rfl (by kernel_rfl) (by kernel_rfl) (past_by rfl rfl c_10) rfl ?_
      refine HA.past (k := 9) rfl rfl (by kernel_rfl) (by kernel_rfl) (past_by rfl rfl c_10) rfl ?_
      refine HA.past (k := 10) rfl rfl (by kernel_rfl) (by kernel_rfl) (past_by rfl rfl c_10) rfl ?_
      refine HA.past (k := 11) rfl rfl (by kernel_rfl) (by kernel_rfl) (past_by rfl rfl c_10) rfl ?_
      refine HA.one (k := 12) ⟨⟨(hS.box 0 rfl), (hS.own 1 rfl)⟩, (Go.Wk.at_nil _ _)⟩ (by kernel_rfl) ?_
      refine HS.past rfl (past_by rfl rfl c_10) rfl ?_
      refine HA.past (k := 13) rfl rfl (by kernel_rfl) (by kernel_rfl) (past_by rfl rfl c_10) rfl ?_
      refine HA.past (k := 14) rfl rfl (by kernel_rfl) (by kernel_rfl) (past_by rfl rfl c_10) rfl ?_
      refine HA.val (k := 15) (v := .bool false) rfl rfl (by kernel_rfl) (by kernel_rfl) (want_none) rfl (fun _ ⟨c306, c307⟩ => q_pickK false rfl c_10 rfl) ?_
      refine HA.val (k := 16) (v := .bool false) rfl rfl (by kernel_rfl) (by kernel_rfl) (want_none) rfl (fun _ ⟨c306, c307⟩ => q_move rfl) ?_
      refine HA.past (k := 17) rfl rfl (by kernel_rfl) (by kernel_rfl) (past_some rfl rfl) rfl ?_
      refine HA.past (k := 18) rfl rfl (by kernel_rfl) (by kernel_rfl) (past_some rfl rfl) rfl ?_
      refine HA.past (k := 19) rfl rfl (by kernel_rfl) (by kernel_rfl) (past_some rfl rfl) rfl ?_
      refine HA.past (k := 20) rfl rfl (by kernel_rfl) (by kernel_rfl) (past_some rfl rfl) rfl ?_
      refine HA.past (k := 21) rfl rfl (by kernel_rfl) (by kernel_rfl) (past_some rfl rfl) rfl ?_
      refine HA.one (k := 22) ⟨⟨(hS.box 0 rfl), (hS.own 1 rfl)⟩, (Go.Wk.at_nil _ _)⟩ (by kernel_rfl) ?_
      refine HS.past rfl (past_some rfl rfl) rfl ?_
      refine HA.past (k := 23) rfl rfl (by kernel_rfl) (by kernel_rfl) (past_some rfl rfl) rfl ?_
      refine HA.val (k := 24) (v := .bool false) rfl rfl (by kernel_rfl) (by kernel_rfl) (want_none) rfl (fun _ ⟨c306, c307⟩ => q_pick rfl rfl) ?_
      refine HA.nil ⟨⟨(hS.box 0 rfl), (hS.own 1 rfl)⟩, (Go.Wk.at_nil _ _)⟩ (by kernel_rfl) (thenQ_normal (?_))
      refine HW.condF rfl ?_
      refine HW.skip (blockQ_normal (thenQ_normal (?_)))
      refine HW.region ?_
      refine oM (.int .i64 i_1) rfl rfl ?_
      obtain ⟨ho_5, hM⟩ := hM
      refine oV (.int .i64 (i_1 + 1)) (q_addN _ rfl rfl rfl ho_5.1 ho_5.2) rfl ?_
      refine oA (.int .i64 (i_1 + 1)) rfl rfl ?_
      refine HO.nil (thenQ_normal (?_))
      rw [hKe_1] at hM
      exact ⟨i_1 + 1, ⟨F_12, rfl, rfl, rfl, rfl, rfl, rfl, rfl, rfl, hK, hS, hL_t_Links, hL_members, hL_services, hM.1⟩, hM.2⟩
   ·
    replace hM := hM.2 (of_decide_eq_false c_6)
    refine HW.exit (thenQ_exit (thenQ_exit (blockQ_exit (thenQ_normal (?_)))))
    refine HW.seq ?_
    refine HW.regionA 21 mixed (fun h => (SliceIs h 1 encI vmembers members) ∧ (SliceIs h 1 encI vservices services) ∧ (Blk h b_1 (.cells #[.int .i64 t_Root, vt_Links] 46 (0, 0)))) [] (by kernel_rfl) ?_
    refine HA.val (k := 0) (v := .agg #[.int .i64 t_Root, vt_Links]) rfl rfl (by kernel_rfl) (by kernel_rfl) (want_none) rfl (fun _ ⟨hL_members, hL_services, c304⟩ => q_loadAgg (cs := [.int .i64 t_Root, vt_Links]) ta_46 rfl rfl (Blk.cells (k := 2) c304 rfl)) ?_
    refine HA.val (k := 2) (v := .int .i64 fan) rfl rfl (by kernel_rfl) (by kernel_rfl) (want_none) rfl (fun _ ⟨hL_members, hL_services, c304⟩ => q_move rfl) ?_
    refine HA.one (k := 1) ⟨⟨hL_members.is, hL_services.is, (hS.box 0 rfl)⟩, (Go.Wk.at_nil _ _)⟩ (by kernel_rfl) ?_
    refine HS.call rfl (want_none) rfl (ec en_28 rfl rfl) (ref32_Fan_walk (fr := (Ow.box b_1 46 #[.int .i64 t_Root, vt_Links] :: Ow.own 3 1 encI vr_2 r_7 :: fr)) t_Root t_Links vt_Links hS hL_t_Links hM) ?_
    rintro _ h_15 ⟨F_15, r_12, rfl, hk, hS, _, hM⟩
    replace hK := hK.trans hk
    replace hL_t_Links := hL_t_Links.kp hk
    replace hL_members := hL_members.kp hk
    replace hL_services := hL_services.kp hk
    refine HA.val (k := 3) (v := .bool (decide (r_12 ≤ fan))) rfl rfl (by kernel_rfl) (by kernel_rfl) (want_none) rfl (fun _ ⟨hL_members, hL_services, c304⟩ => q_leq rfl rfl) ?_
    refine HA.val (k := 4) (v := .bool (decide (r_12 ≤ fan))) rfl rfl (by kernel_rfl) (by kernel_rfl) (want_none) rfl (fun _ ⟨hL_members, hL_services, c304⟩ => q_move rfl) ?_
    rcases Bool.eq_false_or_eq_true (decide (r_12 ≤ fan)) with c_13 | c_13
    ·
     replace hM := hM.1 (of_decide_eq_true c_13)
     refine HA.past (k := 5) rfl rfl (by kernel_rfl) (by kernel_rfl) (past_by rfl rfl c_13) rfl ?_
     refine HA.past (k := 6) rfl rfl (by kernel_rfl) (by kernel_rfl) (past_by rfl rfl c_13) rfl ?_
     refine HA.past (k := 7) rfl rfl (by kernel_rfl) (by kernel_rfl) (past_by rfl rfl c_13) rfl ?_
     refine HA.past (k := 8) rfl rfl (by kernel_rfl) (by kernel_rfl) (past_by rfl rfl c_13) rfl ?_
     refine HA.past (k := 9) rfl rfl (by kernel_rfl) (by kernel_rfl) (past_by rfl rfl c_13) rfl ?_
     refine HA.one (k := 10) ⟨⟨hL_members.is, hL_services.is, (hS.box 0 rfl)⟩, (Go.Wk.at_nil _ _)⟩ (by kernel_rfl) ?_
     refine HS.past rfl (past_by rfl rfl c_13) rfl ?_
     refine HA.past (k := 11) rfl rfl (by kernel_rfl) (by kernel_rfl) (past_by rfl rfl c_13) rfl ?_
     refine HA.past (k := 12) rfl rfl (by kernel_rfl) (by kernel_rfl) (past_by rfl rfl c_13) rfl ?_
     refine HA.past (k := 13) rfl rfl (by kernel_rfl) (by kernel_rfl) (past_undef rfl rfl) rfl ?_
     refine HA.past (k := 14) rfl rfl (by kernel_rfl) (by kernel_rfl) (past_undef rfl rfl) rfl ?_
     refine HA.past (k := 15) rfl rfl (by kernel_rfl) (by kernel_rfl) (past_undef rfl rfl) rfl ?_
     refine HA.one (k := 16) ⟨⟨hL_members.is, hL_services.is, (hS.box 0 rfl)⟩, (Go.Wk.at_nil _ _)⟩ (by kernel_rfl) ?_
     refine HS.past rfl (past_undef rfl rfl) rfl ?_
     refine HA.one (k := 17) ⟨⟨hL_members.is, hL_services.is, (hS.box 0 rfl)⟩, (Go.Wk.at_nil _ _)⟩ (by kernel_rfl) ?_
     refine HS.past rfl (past_undef rfl rfl) rfl ?_
     refine HA.past (k := 18) rfl rfl (by kernel_rfl) (by kernel_rfl) (past_by rfl rfl c_13) rfl ?_
     refine HA.val (k := 19) (v := .bool true) rfl rfl (by kernel_rfl) (by kernel_rfl) (want_none) rfl (fun _ ⟨hL_members, hL_services, c304⟩ => q_pickK true rfl c_13 rfl) ?_
     refine HA.val (k := 20) (v := .bool true) rfl rfl (by kernel_rfl) (by kernel_rfl) (want_none) rfl (fun _ ⟨hL_members, hL_services, c304⟩ => q_assign rfl) ?_
     refine HA.nil ⟨⟨hL_members.is, hL_services.is, (hS.box 0 rfl)⟩, (Go.Wk.at_nil _ _)⟩ (by kernel_rfl) (thenQ_normal (?_))
     refine HW.ret (?_)
     refine ⟨.inr rfl, .bool true, res1 rfl (rt rfl), ?_⟩
     replace hS : St F_15 (fr) h_15 := hS.perm2 [] 2 rfl rfl
     exact ⟨F_15, true, rfl, hK, hS, hL_t_Links, hL_members, hL_services, hM⟩
    ·
     replace hM := hM.2 (of_decide_eq_false c_13)
     refine HA.val (k := 5) (v := vmembers) rfl rfl (by kernel_rfl) (by kernel_rfl) (want_by rfl rfl c_13) rfl (fun _ ⟨hL_members, hL_services, c304⟩ => q_move rfl) ?_
     refine HA.val (k := 6) (v := .int .i64 (members.length : Int)) rfl rfl (by kernel_rfl) (by kernel_rfl) (want_by rfl rfl c_13) rfl (fun _ ⟨hL_members, hL_services, c304⟩ => q_len ts_31 (shp hL_members) rfl rfl) ?_
     refine HA.val (k := 7) (v := vservices) rfl rfl (by kernel_rfl) (by kernel_rfl) (want_by rfl rfl c_13) rfl (fun _ ⟨hL_members, hL_services, c304⟩ => q_move rfl) ?_
     refine HA.val (k := 8) (v := .int .i64 (services.length : Int)) rfl rfl (by kernel_rfl) (by kernel_rfl) (want_by rfl rfl c_13) rfl (fun _ ⟨hL_members, hL_services, c304⟩ => q_len ts_31 (shp hL_services) rfl rfl) ?_
     refine HA.val (k := 9) (v := .int .i64 fan) rfl rfl (by kernel_rfl) (by kernel_rfl) (want_by rfl rfl c_13) rfl (fun _ ⟨hL_members, hL_services, c304⟩ => q_move rfl) ?_
     refine HA.one (k := 10) ⟨⟨hL_members.is, hL_services.is, (hS.box 0 rfl)⟩, (Go.Wk.at_nil _ _)⟩ (by kernel_rfl) ?_
     refine HS.call rfl (want_by rfl rfl c_13) rfl (ec en_27 rfl rfl) (ref33_Fits_walk (fr := (Ow.box b_1 46 #[.int .i64 t_Root, vt_Links] :: Ow.own 3 1 encI vr_2 r_7 :: fr)) (members.length : Int) (services.length : Int) fan hS hM) ?_
     rintro _ h_16 ⟨F_16, r_13, rfl, hk, hS, hM⟩
     replace hK := hK.trans hk
     replace hL_t_Links := hL_t_Links.kp hk
     replace hL_members := hL_members.kp hk
     replace hL_services := hL_services.kp hk
     refine HA.val (k := 11) (v := .bool (!r_13)) rfl rfl (by kernel_rfl) (by kernel_rfl) (want_by rfl rfl c_13) rfl (fun _ ⟨hL_members, hL_services, c304⟩ => q_not rfl) ?_
     refine HA.val (k := 12) (v := .bool (!r_13)) rfl rfl (by kernel_rfl) (by kernel_rfl) (want_by rfl rfl c_13) rfl (fun _ ⟨hL_members, hL_services, c304⟩ => q_move rfl) ?_
     rcases Bool.eq_false_or_eq_true (!r_13) with c_14 | c_14
     ·
      replace hM := hM.1 c_14
      refine HA.val (k := 13) (v := .agg #[.int .i64 t_Root, vt_Links]) rfl rfl (by kernel_rfl) (by kernel_rfl) (want_by rfl rfl c_14) rfl (fun _ ⟨hL_members, hL_services, c304⟩ => q_loadAgg (cs := [.int .i64 t_Root, vt_Links]) ta_46 rfl rfl (Blk.cells (k := 2) c304 rfl)) ?_
      refine HA.val (k := 14) (v := .int .i64 root) rfl rfl (by kernel_rfl) (by kernel_rfl) (want_by rfl rfl c_14) rfl (fun _ ⟨hL_members, hL_services, c304⟩ => q_move rfl) ?_
      refine HA.val (k := 15) (v := vmembers) rfl rfl (by kernel_rfl) (by kernel_rfl) (want_by rfl rfl c_14) rfl (fun _ ⟨hL_members, hL_services, c304⟩ => q_move rfl) ?_
      refine HA.one (k := 16) ⟨⟨hL_members.is, hL_services.is, (hS.box 0 rfl)⟩, (Go.Wk.at_nil _ _)⟩ (by kernel_rfl) ?_
      refine HS.call rfl (want_by rfl rfl c_14) rfl (ec en_26 rfl rfl) (ref33_Star_walk (fr := (Ow.box b_1 46 #[.int .i64 t_Root, vt_Links] :: Ow.own 3 1 encI vr_2 r_7 :: fr)) root members vmembers hS hL_members hM) ?_
      rintro _ h_17 ⟨F_17, r_0_1, r_1_1, vr_1_1, rfl, hk, hS, _, hM⟩
      replace hK := hK.trans hk
      replace hL_t_Links := hL_t_Links.kp hk
      replace hL_members := hL_members.kp hk
      replace hL_services := hL_services.kp hk
      refine HA.one (k := 17) ⟨⟨hL_members.is, hL_services.is, (hS.box 1 rfl)⟩, (Go.Wk.at_nil _ _)⟩ (by kernel_rfl) ?_
      have hZ_2 := hS
      have hkz_2 := (hS.freeze).2
      replace hS := hS.freeze.1
      have hL_2 : SliceF (fun bz_ => F_17 bz_ ∨ (Ow.own 67 2 e_api_Branch vr_1_1 r_1_1).foot bz_) h_17 2 e_api_Branch vr_1_1 r_1_1 := ⟨(hZ_2.own 0 rfl).slice, fun _ b hb => .inr hb⟩
      refine HS.call rfl (want_by rfl rfl c_14) rfl (ec en_20 rfl rfl) (ref32_Same_walk (fr := (Ow.box b_1 46 #[.int .i64 t_Root, vt_Links] :: Ow.own 3 1 encI vr_2 r_7 :: fr)) t_Root t_Links r_0_1 r_1_1 vt_Links vr_1_1 hS (hL_t_Links.kp hkz_2) hL_2 hM) ?_
      rintro _ h_18 ⟨F_18, r_14, rfl, hk, hS, _, _, hM⟩
      obtain ⟨hS, hk⟩ := hZ_2.back hk hS
      generalize (fun bz_ => F_18 bz_ ∧ ¬ (Ow.own 67 2 e_api_Branch vr_1_1 r_1_1).foot bz_) = F_19 at hS hk
      replace hK := hK.trans hk
      replace hL_t_Links := hL_t_Links.kp hk
      replace hL_members := hL_members.kp hk
      replace hL_services := hL_services.kp hk
      refine HA.val (k := 18) (v := .bool r_14) rfl rfl (by kernel_rfl) (by kernel_rfl) (want_by rfl rfl c_13) rfl (fun _ ⟨hL_members, hL_services, c304⟩ => q_pickK true rfl c_14 rfl) ?_
      refine HA.val (k := 19) (v := .bool r_14) rfl rfl (by kernel_rfl) (by kernel_rfl) (want_none) rfl (fun _ ⟨hL_members, hL_services, c304⟩ => q_pickK false rfl c_13 rfl) ?_
      refine HA.val (k := 20) (v := .bool r_14) rfl rfl (by kernel_rfl) (by kernel_rfl) (want_none) rfl (fun _ ⟨hL_members, hL_services, c304⟩ => q_assign rfl) ?_
      refine HA.nil ⟨⟨hL_members.is, hL_services.is, (hS.box 1 rfl)⟩, (Go.Wk.at_nil _ _)⟩ (by kernel_rfl) (thenQ_normal (?_))
      refine HW.ret (?_)
      refine ⟨.inr rfl, .bool r_14, res1 rfl (rt rfl), ?_⟩
      replace hS : St F_19 (fr) h_18 := hS.perm2 [] 3 rfl rfl
      exact ⟨F_19, r_14, rfl, hK, hS, hL_t_Links, hL_members, hL_services, hM⟩
     ·
      replace hM := hM.2 c_14
      refine HA.past (k := 13) rfl rfl (by kernel_rfl) (by kernel_rfl) (past_by rfl rfl c_14) rfl ?_
      refine HA.past (k := 14) rfl rfl (by kernel_rfl) (by kernel_rfl) (past_by rfl rfl c_14) rfl ?_
      refine HA.past (k := 15) rfl rfl (by kernel_rfl) (by kernel_rfl) (past_by rfl rfl c_14) rfl ?_
      refine HA.one (k := 16) ⟨⟨hL_members.is, hL_services.is, (hS.box 0 rfl)⟩, (Go.Wk.at_nil _ _)⟩ (by kernel_rfl) ?_
      refine HS.past rfl (past_by rfl rfl c_14) rfl ?_
      refine HA.one (k := 17) ⟨⟨hL_members.is, hL_services.is, (hS.box 0 rfl)⟩, (Go.Wk.at_nil _ _)⟩ (by kernel_rfl) ?_
      refine HS.past rfl (past_by rfl rfl c_14) rfl ?_
      refine HA.val (k := 18) (v := .bool false) rfl rfl (by kernel_rfl) (by kernel_rfl) (want_by rfl rfl c_13) rfl (fun _ ⟨hL_members, hL_services, c304⟩ => q_pickK false rfl c_14 rfl) ?_
      refine HA.val (k := 19) (v := .bool false) rfl rfl (by kernel_rfl) (by kernel_rfl) (want_none) rfl (fun _ ⟨hL_members, hL_services, c304⟩ => q_pickK false rfl c_13 rfl) ?_
      refine HA.val (k := 20) (v := .bool false) rfl rfl (by kernel_rfl) (by kernel_rfl) (want_none) rfl (fun _ ⟨hL_members, hL_services, c304⟩ => q_assign rfl) ?_
      refine HA.nil ⟨⟨hL_members.is, hL_services.is, (hS.box 0 rfl)⟩, (Go.Wk.at_nil _ _)⟩ (by kernel_rfl) (thenQ_normal (?_))
      refine HW.ret (?_)
      refine ⟨.inr rfl, .bool false, res1 rfl (rt rfl), ?_⟩
      replace hS : St F_16 (fr) h_16 := hS.perm2 [] 2 rfl rfl
      exact ⟨F_16, false, rfl, hK, hS, hL_t_Links, hL_members, hL_services, hM⟩

def law33_Ask_Own_j3 (a_Services : List Int) (l_3 : List Int) (i_2 : Int) (K_2 : (List Int) → Int → Prop) (b_6 : Bool) : Prop :=
 (b_6 = true → ((0 : Int) ≤ i_2 ∧ i_2 < (a_Services.length : Int)) ∧ (ref32_Add_W l_3 (gi a_Services i_2) (fun r_3 => (I64 (i_2 + 1)) ∧ (K_2 r_3 (i_2 + 1))))) ∧ (b_6 = false → (I64 (i_2 + 1)) ∧ (K_2 l_3 (i_2 + 1)))
def law33_Ask_Own_j2 (a_Root : Int) (a_Services : List Int) (a_Fan : Int) (Q : Int → (List Int) → (List Int) → Int → Prop) (l_1 : List Int) (l_3 : List Int) (i_2 : Int) (K_2 : (List Int) → Int → Prop) (b_5 : Bool) : Prop :=
 (b_5 = true → ((0 : Int) ≤ i_2 ∧ i_2 < (a_Services.length : Int)) ∧ ((¬ ((gi a_Services i_2) = a_Root) → ref32_Has_W l_1 (gi a_Services i_2) (fun r_2 => law33_Ask_Own_j3 a_Services l_3 i_2 K_2 (!r_2))) ∧ ((gi a_Services i_2) = a_Root → law33_Ask_Own_j3 a_Services l_3 i_2 K_2 false))) ∧ (b_5 = false → ((0 : Int) ≤ (a_Fan.tmod 64) ∧ (a_Fan.tmod 64) < 256) ∧ ((I64 ((u8w (a_Fan.tmod 64)).toNat : Int)) ∧ ((I64 (1 + ((u8w (a_Fan.tmod 64)).toNat : Int))) ∧ (Q a_Root l_1 l_3 (1 + ((u8w (a_Fan.tmod 64)).toNat : Int))))))
def law33_Ask_Own_l4 (a_Root : Int) (a_Services : List Int) (a_Fan : Int) (Q : Int → (List Int) → (List Int) → Int → Prop) (l_1 : List Int) (K_2 : (List Int) → Int → Prop) (l_3 : List Int) (i_2 : Int) : Prop :=
 (i_2 < (a_Services.length : Int) → law33_Ask_Own_j2 a_Root a_Services a_Fan Q l_1 l_3 i_2 K_2 (decide (i_2 < 12))) ∧ (¬ (i_2 < (a_Services.length : Int)) → law33_Ask_Own_j2 a_Root a_Services a_Fan Q l_1 l_3 i_2 K_2 false)
def law33_Ask_Own_j1 (a_Root : Int) (a_Members : List Int) (a_Services : List Int) (a_Fan : Int) (Q : Int → (List Int) → (List Int) → Int → Prop) (l_1 : List Int) (i_1 : Int) (K_1 : (List Int) → Int → Prop) (b_4 : Bool) : Prop :=
 (b_4 = true → ((0 : Int) ≤ i_1 ∧ i_1 < (a_Members.length : Int)) ∧ ((¬ ((gi a_Members i_1) = a_Root) → ref32_Add_W l_1 (gi a_Members i_1) (fun r_1 => (I64 (i_1 + 1)) ∧ (K_1 r_1 (i_1 + 1)))) ∧ ((gi a_Members i_1) = a_Root → (I64 (i_1 + 1)) ∧ (K_1 l_1 (i_1 + 1))))) ∧ (b_4 = false → loopW (fun (K_2 : (List Int × Int) → Prop) (s : List Int × Int) => law33_Ask_Own_l4 a_Root a_Services a_Fan Q l_1 (fun l_3 i_2 => K_2 (l_3, i_2)) s.1 s.2) ([], 0))
def law33_Ask_Own_l2 (a_Root : Int) (a_Members : List Int) (a_Services : List Int) (a_Fan : Int) (Q : Int → (List Int) → (List Int) → Int → Prop) (K_1 : (List Int) → Int → Prop) (l_1 : List Int) (i_1 : Int) : Prop :=
 (i_1 < (a_Members.length : Int) → law33_Ask_Own_j1 a_Root a_Members a_Services a_Fan Q l_1 i_1 K_1 (decide (i_1 < 20))) ∧ (¬ (i_1 < (a_Members.length : Int)) → law33_Ask_Own_j1 a_Root a_Members a_Services a_Fan Q l_1 i_1 K_1 false)
def law33_Ask_Own_W (a_Root : Int) (a_Members : List Int) (a_Services : List Int) (a_Fan : Int) (Q : Int → (List Int) → (List Int) → Int → Prop) : Prop :=
 loopW (fun (K_1 : (List Int × Int) → Prop) (s : List Int × Int) => law33_Ask_Own_l2 a_Root a_Members a_Services a_Fan Q (fun l_1 i_1 => K_1 (l_1, i_1)) s.1 s.2) ([], 0)
set_option maxHeartbeats 40000000 in
set_option maxRecDepth 100000 in
theorem law33_Ask_Own_walk {F : Fz} {fr : List Ow} {h0 : Heap} (a_Root : Int) (a_Members : List Int) (a_Services : List Int) (a_Fan : Int) (va_Members : Value) (va_Services : Value) (hS : St F (fr) h0) (hL_a_Members : SliceF F h0 1 encI va_Members a_Members) (hL_a_Services : SliceF F h0 1 encI va_Services a_Services) {Q : Int → (List Int) → (List Int) → Int → Prop} (hM : law33_Ask_Own_W a_Root a_Members a_Services a_Fan Q) :
  HC Try.prog 17 #[.agg #[.int .i64 a_Root, va_Members, va_Services, .int .u8 a_Fan]] h0 fun u h' => ∃ (F' : Fz) (r0_1 : Int) (r1_1 : List Int) (r2_1 : List Int) (r3_1 : Int) (vr1_1 : Value) (vr2_1 : Value), u = .tuple #[.int .i64 r0_1, vr1_1, vr2_1, .int .i64 r3_1] ∧ Kp F h0 F' h' ∧ St F' (Ow.own 3 1 encI vr1_1 r1_1 :: Ow.own 3 1 encI vr2_1 r2_1 :: fr) h' ∧ (SliceF F' h' 1 encI va_Members a_Members) ∧ (SliceF F' h' 1 encI va_Services a_Services) ∧ Q r0_1 r1_1 r2_1 r3_1 := by
 unfold law33_Ask_Own_W at hM
 have hK := Kp.refl F h0
 refine HC.of_HW (n := 83) Try.func17 rfl rfl (Nat.le_of_ble_eq_true rfl) ?_
 refine HW.seq ?_
 refine HW.region ?_
 refine HO.eff (want_none) rfl (st_box (c := #[.int .i64 a_Root, va_Members, va_Services, .int .u8 a_Fan]) (k' := 4) hS rfl rfl) ?_
 rintro _ h_1 ⟨b_1, rfl, hS, hk⟩
 replace hK := hK.trans hk
 replace hL_a_Members := hL_a_Members.kp hk
 replace hL_a_Services := hL_a_Services.kp hk
 refine oA (.int .i64 0) rfl rfl ?_
 refine oA (.slice none 0 0) rfl rfl ?_
 refine oA (.slice none 0 0) rfl rfl ?_
 refine oA (.int .i64 0) rfl rfl ?_
 refine HO.nil (thenQ_normal (?_))
 refine HW.seq ?_
 refine HW.region ?_
 refine HO.eff (want_none) rfl (st_litEmpty (α := Int) encI hS tl_31) ?_
 rintro _ h_2 ⟨b_2, rfl, hS, hk⟩
 replace hK := hK.trans hk
 replace hL_a_Members := hL_a_Members.kp hk
 replace hL_a_Services := hL_a_Services.kp hk
 refine HO.eff (want_none) rfl (st_litEmpty (α := Int) encI hS tl_31) ?_
 rintro _ h_3 ⟨b_3, rfl, hS, hk⟩
 replace hK := hK.trans hk
 replace hL_a_Members := hL_a_Members.kp hk
 replace hL_a_Services := hL_a_Services.kp hk
 refine oA (.slice (some ⟨b_2, 0, none⟩) 0 0) rfl rfl ?_
 refine oA (.slice (some ⟨b_3, 0, none⟩) 0 0) rfl rfl ?_
 refine HO.nil (thenQ_normal (?_))
 refine HW.seq ?_
 refine HW.seq ?_
 refine HW.region ?_
 refine oA (.int .i64 0) rfl rfl ?_
 refine HO.nil (thenQ_normal (?_))
 refine HW.block ?_
 obtain ⟨I_1, m_1, hI_1, hR_1⟩ := hM
 replace hS : St F (Ow.box b_1 39 #[.int .i64 a_Root, va_Members, va_Services, .int .u8 a_Fan] :: Ow.own 3 1 encI (.slice (some ⟨b_2, 0, none⟩) 0 0) ([] : List Int) :: Ow.own 3 1 encI (.slice (some ⟨b_3, 0, none⟩) 0 0) ([] : List Int) :: fr) h_3 := hS.perm2 [2, 1, 0] 3 rfl rfl
 refine HW.loop (S := List Int × Int) (fun s f h => match s with | (l_1, i_1) => ∃ (F' : Fz) (v_1 : Value), f 1 = .pointer (some ⟨b_1, 0, none⟩) ∧ f 2 = .int .i64 0 ∧ f 3 = .slice none 0 0 ∧ f 4 = .slice none 0 0 ∧ f 5 = .int .i64 0 ∧ f 6 = v_1 ∧ f 7 = .slice (some ⟨b_3, 0, none⟩) 0 0 ∧ f 8 = .int .i64 i_1 ∧ Kp F h0 F' h ∧ St F' (Ow.box b_1 39 #[.int .i64 a_Root, va_Members, va_Services, .int .u8 a_Fan] :: Ow.own 3 1 encI v_1 l_1 :: Ow.own 3 1 encI (.slice (some ⟨b_3, 0, none⟩) 0 0) ([] : List Int) :: fr) h ∧ (SliceF F' h 1 encI va_Members a_Members) ∧ (SliceF F' h 1 encI va_Services a_Services) ∧ I_1 (l_1, i_1)) m_1 ([], 0) ⟨F, .slice (some ⟨b_2, 0, none⟩) 0 0, rfl, rfl, rfl, rfl, rfl, rfl, rfl, rfl, hK, hS, hL_a_Members, hL_a_Services, hI_1⟩ ?_
 rintro ⟨l_1, i_1⟩ f_1 h_4 ⟨F_1, v_1, e1, e2, e3, e4, e5, e6, e7, e8, hK, hS, hL_a_Members, hL_a_Services, hI0⟩
 obtain ⟨K_1, hKe_1⟩ : ∃ K : (List Int) → Int → Prop, K = fun l_1' i_1' => I_1 (l_1', i_1') ∧ m_1 (l_1', i_1') < m_1 (l_1, i_1) := ⟨_, rfl⟩
 have hM : law33_Ask_Own_l2 a_Root a_Members a_Services a_Fan Q K_1 l_1 i_1 := by rw [hKe_1]; exact hR_1 (l_1, i_1) hI0
 unfold law33_Ask_Own_l2 at hM
 refine HW.fr [(1, .pointer (some ⟨b_1, 0, none⟩)), (2, .int .i64 0), (3, .slice none 0 0), (4, .slice none 0 0), (5, .int .i64 0), (6, v_1), (7, .slice (some ⟨b_3, 0, none⟩) 0 0), (8, .int .i64 i_1)] ⟨e1, e2, e3, e4, e5, e6, e7, e8, trivial⟩ ?_
 refine HW.seq ?_
 refine HW.seq_mid (fun f h => ∃ (F' : Fz) (b_4 : Bool), f 1 = .pointer (some ⟨b_1, 0, none⟩) ∧ f 2 = .int .i64 0 ∧ f 3 = .slice none 0 0 ∧ f 4 = .slice none 0 0 ∧ f 5 = .int .i64 0 ∧ f 6 = v_1 ∧ f 7 = .slice (some ⟨b_3, 0, none⟩) 0 0 ∧ f 8 = .int .i64 i_1 ∧ f 20 = .bool b_4 ∧ Kp F h0 F' h ∧ St F' (Ow.box b_1 39 #[.int .i64 a_Root, va_Members, va_Services, .int .u8 a_Fan] :: Ow.own 3 1 encI v_1 l_1 :: Ow.own 3 1 encI (.slice (some ⟨b_3, 0, none⟩) 0 0) ([] : List Int) :: fr) h ∧ (SliceF F' h 1 encI va_Members a_Members) ∧ (SliceF F' h 1 encI va_Services a_Services) ∧ law33_Ask_Own_j1 a_Root a_Members a_Services a_Fan Q l_1 i_1 K_1 b_4) ?_ ?_
 ·
  refine HW.region ?_
  refine oM (.int .i64 i_1) rfl rfl ?_
  refine oV (.pointer (some ⟨b_1, 1, none⟩)) (q_fieldAddr fa_39_1 rfl rfl) rfl ?_
  refine oV (va_Members) (q_load to_31 rfl (Blk.cell (hS.box 0 rfl) rfl)) rfl ?_
  refine oV (.int .i64 (a_Members.length : Int)) (q_len ts_31 (shp hL_a_Members.is) rfl rfl) rfl ?_
  refine oV (.bool (decide (i_1 < (a_Members.length : Int)))) (q_lss rfl rfl) rfl ?_
  refine oM (.bool (decide (i_1 < (a_Members.length : Int)))) rfl rfl ?_
  rcases Bool.eq_false_or_eq_true (decide (i_1 < (a_Members.length : Int))) with c_1 | c_1
  ·
   replace hM := hM.1 (of_decide_eq_true c_1)
   refine HO.val (v := .int .i64 i_1) (want_by rfl rfl c_1) rfl (q_move rfl) ?_
   refine HO.val (v := .bool (decide (i_1 < 20))) (want_by rfl rfl c_1) rfl (q_lss rfl rfl) ?_
   refine oV (.bool (decide (i_1 < 20))) (q_pickK true rfl c_1 rfl) rfl ?_
   refine HO.nil (thenQ_normal (?_))
   exact ⟨F_1, decide (i_1 < 20), rfl, rfl, rfl, rfl, rfl, rfl, rfl, rfl, rfl, hK, hS, hL_a_Members, hL_a_Services, hM⟩
  ·
   replace hM := hM.2 (of_decide_eq_false c_1)
   refine HO.past (past_by rfl rfl c_1) rfl ?_
   refine HO.past (past_by rfl rfl c_1) rfl ?_
   refine oV (.bool false) (q_pickK false rfl c_1 rfl) rfl ?_
   refine HO.nil (thenQ_normal (?_))
   exact ⟨F_1, false, rfl, rfl, rfl, rfl, rfl, rfl, rfl, rfl, rfl, hK, hS, hL_a_Members, hL_a_Services, hM⟩
 ·
  rintro f_2 h_5 ⟨F_2, b_4, e1, e2, e3, e4, e5, e6, e7, e8, e20, hK, hS, hL_a_Members, hL_a_Services, hM⟩
  unfold law33_Ask_Own_j1 at hM
  refine HW.fr [(1, .pointer (some ⟨b_1, 0, none⟩)), (2, .int .i64 0), (3, .slice none 0 0), (4, .slice none 0 0), (5, .int .i64 0), (6, v_1), (7, .slice (some ⟨b_3, 0, none⟩) 0 0), (8, .int .i64 i_1), (20, .bool b_4)] ⟨e1, e2, e3, e4, e5, e6, e7, e8, e20, trivial⟩ ?_
  refine HW.cond b_4 rfl (fun c_2 => ?_) (fun c_2 => ?_)
  ·
   replace hM := hM.1 c_2
   refine HW.skip (thenQ_normal (?_))
   refine HW.seq ?_
   refine HW.block ?_
   refine HW.seq ?_
   refine HW.regionA 8 mixed (fun h => (SliceIs h 1 encI va_Members a_Members) ∧ (SliceIs h 1 encI va_Services a_Services) ∧ (Blk h b_1 (.cells #[.int .i64 a_Root, va_Members, va_Services, .int .u8 a_Fan] 39 (0, 0))) ∧ (OwnIs h 0 3 1 encI v_1 l_1) ∧ (OwnIs h 0 3 1 encI (.slice (some ⟨b_3, 0, none⟩) 0 0) ([] : List Int))) [] (by kernel_rfl) ?_
   refine HA.val (k := 0) (v := .pointer (some ⟨b_1, 1, none⟩)) rfl rfl (by kernel_rfl) (by kernel_rfl) (want_none) rfl (fun _ ⟨hL_a_Members, hL_a_Services, c309, c310, c311⟩ => q_fieldAddr fa_39_1 rfl rfl) ?_
   refine HA.val (k := 1) (v := va_Members) rfl rfl (by kernel_rfl) (by kernel_rfl) (want_none) rfl (fun _ ⟨hL_a_Members, hL_a_Services, c309, c310, c311⟩ => q_load to_31 rfl (Blk.cell c309 rfl)) ?_
   refine HA.val (k := 2) (v := .int .i64 i_1) rfl rfl (by kernel_rfl) (by kernel_rfl) (want_none) rfl (fun _ ⟨hL_a_Members, hL_a_Services, c309, c310, c311⟩ => q_move rfl) ?_
   obtain ⟨ho_1, hM⟩ := hM
   refine HA.val (k := 3) (v := elemPtr 1 va_Members (i_1).toNat) rfl rfl (by kernel_rfl) (by kernel_rfl) (want_none) rfl (fun _ ⟨hL_a_Members, hL_a_Services, c309, c310, c311⟩ => q_idx ts_31 hL_a_Members rfl rfl ho_1) ?_
   refine HA.val (k := 4) (v := .int .i64 (gi a_Members i_1)) rfl rfl (by kernel_rfl) (by kernel_rfl) (want_none) rfl (fun _ ⟨hL_a_Members, hL_a_Services, c309, c310, c311⟩ => q_ldElem to_3 hL_a_Members rfl ho_1 rfl) ?_
   refine HA.val (k := 5) (v := .pointer (some ⟨b_1, 0, none⟩)) rfl rfl (by kernel_rfl) (by kernel_rfl) (want_none) rfl (fun _ ⟨hL_a_Members, hL_a_Services, c309, c310, c311⟩ => q_fieldAddr fa_39_0 rfl rfl) ?_
   refine HA.val (k := 6) (v := .int .i64 a_Root) rfl rfl (by kernel_rfl) (by kernel_rfl) (want_none) rfl (fun _ ⟨hL_a_Members, hL_a_Services, c309, c310, c311⟩ => q_load to_3 rfl (Blk.cell c309 rfl)) ?_
   refine HA.val (k := 7) (v := .bool (!decide ((gi a_Members i_1) = a_Root))) rfl rfl (by kernel_rfl) (by kernel_rfl) (want_none) rfl (fun _ ⟨hL_a_Members, hL_a_Services, c309, c310, c311⟩ => q_neq rfl rfl) ?_
   refine HA.nil ⟨⟨hL_a_Members.is, hL_a_Services.is, (hS.box 0 rfl), (hS.own 1 rfl), (hS.own 2 rfl)⟩, (Go.Wk.at_nil _ _)⟩ (by kernel_rfl) (thenQ_normal (?_))
   refine HW.cond (!decide ((gi a_Members i_1) = a_Root)) rfl (fun c_3 => ?_) (fun c_3 => ?_)
   ·
    replace hM := hM.1 (nd_true c_3)
    refine HW.region ?_
    refine oM (v_1) rfl rfl ?_
    refine oV (.pointer (some ⟨b_1, 1, none⟩)) (q_fieldAddr fa_39_1 rfl rfl) rfl ?_
    refine oV (va_Members) (q_load to_31 rfl (Blk.cell (hS.box 0 rfl) rfl)) rfl ?_
    refine oM (.int .i64 i_1) rfl rfl ?_
    refine oV (elemPtr 1 va_Members (i_1).toNat) (q_idx ts_31 hL_a_Members.is rfl rfl ho_1) rfl ?_
    refine oV (.int .i64 (gi a_Members i_1)) (q_ldElem to_3 hL_a_Members.is rfl ho_1 rfl) rfl ?_
    replace hS : St F_2 (Ow.own 3 1 encI v_1 l_1 :: Ow.box b_1 39 #[.int .i64 a_Root, va_Members, va_Services, .int .u8 a_Fan] :: Ow.own 3 1 encI (.slice (some ⟨b_3, 0, none⟩) 0 0) ([] : List Int) :: fr) h_5 := hS.perm2 [1, 0, 2] 3 rfl rfl
    refine HO.call (want_none) rfl (ec en_13 rfl rfl) (ref32_Add_walk (fr := (Ow.box b_1 39 #[.int .i64 a_Root, va_Members, va_Services, .int .u8 a_Fan] :: Ow.own 3 1 encI (.slice (some ⟨b_3, 0, none⟩) 0 0) ([] : List Int) :: fr)) l_1 (gi a_Members i_1) v_1 hS hM) ?_
    rintro vr_1 h_6 ⟨F_3, r_1, _, rfl, hk, hS, hM⟩
    replace hK := hK.trans hk
    replace hL_a_Members := hL_a_Members.kp hk
    replace hL_a_Services := hL_a_Services.kp hk
    refine oA (vr_1) rfl rfl ?_
    refine HO.nil (blockQ_normal (thenQ_normal (?_)))
    refine HW.region ?_
    refine oM (.int .i64 i_1) rfl rfl ?_
    obtain ⟨ho_2, hM⟩ := hM
    refine oV (.int .i64 (i_1 + 1)) (q_addN _ rfl rfl rfl ho_2.1 ho_2.2) rfl ?_
    refine oA (.int .i64 (i_1 + 1)) rfl rfl ?_
    refine HO.nil (thenQ_normal (?_))
    replace hS : St F_3 (Ow.box b_1 39 #[.int .i64 a_Root, va_Members, va_Services, .int .u8 a_Fan] :: Ow.own 3 1 encI vr_1 r_1 :: Ow.own 3 1 encI (.slice (some ⟨b_3, 0, none⟩) 0 0) ([] : List Int) :: fr) h_6 := hS.perm2 [1, 0, 2] 3 rfl rfl
    rw [hKe_1] at hM
    exact ⟨(r_1, i_1 + 1), ⟨F_3, vr_1, rfl, rfl, rfl, rfl, rfl, rfl, rfl, rfl, hK, hS, hL_a_Members, hL_a_Services, hM.1⟩, hM.2⟩
   ·
    replace hM := hM.2 (nd_false c_3)
    refine HW.skip (blockQ_normal (thenQ_normal (?_)))
    refine HW.region ?_
    refine oM (.int .i64 i_1) rfl rfl ?_
    obtain ⟨ho_3, hM⟩ := hM
    refine oV (.int .i64 (i_1 + 1)) (q_addN _ rfl rfl rfl ho_3.1 ho_3.2) rfl ?_
    refine oA (.int .i64 (i_1 + 1)) rfl rfl ?_
    refine HO.nil (thenQ_normal (?_))
    rw [hKe_1] at hM
    exact ⟨(l_1, i_1 + 1), ⟨F_2, v_1, rfl, rfl, rfl, rfl, rfl, rfl, rfl, rfl, hK, hS, hL_a_Members, hL_a_Services, hM.1⟩, hM.2⟩
  ·
   replace hM := hM.2 c_2
   refine HW.exit (thenQ_exit (thenQ_exit (blockQ_exit (thenQ_normal (?_)))))
   refine HW.seq ?_
   refine HW.seq ?_
   refine HW.region ?_
   refine oA (.int .i64 0) rfl rfl ?_
   refine HO.nil (thenQ_normal (?_))
   refine HW.block ?_
   obtain ⟨I_2, m_2, hI_2, hR_2⟩ := hM
   refine HW.loop (S := List Int × Int) (fun s f h => match s with | (l_3, i_2) => ∃ (F' : Fz) (v_2 : Value), f 1 = .pointer (some ⟨b_1, 0, none⟩) ∧ f 2 = .int .i64 0 ∧ f 3 = .slice none 0 0 ∧ f 4 = .slice none 0 0 ∧ f 5 = .int .i64 0 ∧ f 6 = v_1 ∧ f 7 = v_2 ∧ f 9 = .int .i64 i_2 ∧ Kp F h0 F' h ∧ St F' (Ow.box b_1 39 #[.int .i64 a_Root, va_Members, va_Services, .int .u8 a_Fan] :: Ow.own 3 1 encI v_1 l_1 :: Ow.own 3 1 encI v_2 l_3 :: fr) h ∧ (SliceF F' h 1 encI va_Members a_Members) ∧ (SliceF F' h 1 encI va_Services a_Services) ∧ I_2 (l_3, i_2)) m_2 ([], 0) ⟨F_2, .slice (some ⟨b_3, 0, none⟩) 0 0, rfl, rfl, rfl, rfl, rfl, rfl, rfl, rfl, hK, hS, hL_a_Members, hL_a_Services, hI_2⟩ ?_
   rintro ⟨l_3, i_2⟩ f_3 h_7 ⟨F_4, v_2, e1, e2, e3, e4, e5, e6, e7, e9, hK, hS, hL_a_Members, hL_a_Services, hI0⟩
   obtain ⟨K_2, hKe_2⟩ : ∃ K : (List Int) → Int → Prop, K = fun l_3' i_2' => I_2 (l_3', i_2') ∧ m_2 (l_3', i_2') < m_2 (l_3, i_2) := ⟨_, rfl⟩
   have hM : law33_Ask_Own_l4 a_Root a_Services a_Fan Q l_1 K_2 l_3 i_2 := by rw [hKe_2]; exact hR_2 (l_3, i_2) hI0
   unfold law33_Ask_Own_l4 at hM
   refine HW.fr [(1, .pointer (some ⟨b_1, 0, none⟩)), (2, .int .i64 0), (3, .slice none 0 0), (4, .slice none 0 0), (5, .int .i64 0), (6, v_1), (7, v_2), (9, .int .i64 i_2)] ⟨e1, e2, e3, e4, e5, e6, e7, e9, trivial⟩ ?_
   refine HW.seq ?_
   refine HW.seq_mid (fun f h => ∃ (F' : Fz) (b_5 : Bool), f 1 = .pointer (some ⟨b_1, 0, none⟩) ∧ f 2 = .int .i64 0 ∧ f 3 = .slice none 0 0 ∧ f 4 = .slice none 0 0 ∧ f 5 = .int .i64 0 ∧ f 6 = v_1 ∧ f 7 = v_2 ∧ f 9 = .int .i64 i_2 ∧ f 46 = .bool b_5 ∧ Kp F h0 F' h ∧ St F' (Ow.box b_1 39 #[.int .i64 a_Root, va_Members, va_Services, .int .u8 a_Fan] :: Ow.own 3 1 encI v_1 l_1 :: Ow.own 3 1 encI v_2 l_3 :: fr) h ∧ (SliceF F' h 1 encI va_Members a_Members) ∧ (SliceF F' h 1 encI va_Services a_Services) ∧ law33_Ask_Own_j2 a_Root a_Services a_Fan Q l_1 l_3 i_2 K_2 b_5) ?_ ?_
   ·
    refine HW.region ?_
    refine oM (.int .i64 i_2) rfl rfl ?_
    refine oV (.pointer (some ⟨b_1, 2, none⟩)) (q_fieldAddr fa_39_2 rfl rfl) rfl ?_
    refine oV (va_Services) (q_load to_31 rfl (Blk.cell (hS.box 0 rfl) rfl)) rfl ?_
    refine oV (.int .i64 (a_Services.length : Int)) (q_len ts_31 (shp hL_a_Services.is) rfl rfl) rfl ?_
    refine oV (.bool (decide (i_2 < (a_Services.length : Int)))) (q_lss rfl rfl) rfl ?_
    refine oM (.bool (decide (i_2 < (a_Services.length : Int)))) rfl rfl ?_
    rcases Bool.eq_false_or_eq_true (decide (i_2 < (a_Services.length : Int))) with c_4 | c_4
    ·
     replace hM := hM.1 (of_decide_eq_true c_4)
     refine HO.val (v := .int .i64 i_2) (want_by rfl rfl c_4) rfl (q_move rfl) ?_
     refine HO.val (v := .bool (decide (i_2 < 12))) (want_by rfl rfl c_4) rfl (q_lss rfl rfl) ?_
     refine oV (.bool (decide (i_2 < 12))) (q_pickK true rfl c_4 rfl) rfl ?_
     refine HO.nil (thenQ_normal (?_))
     exact ⟨F_4, decide (i_2 < 12), rfl, rfl, rfl, rfl, rfl, rfl, rfl, rfl, rfl, hK, hS, hL_a_Members, hL_a_Services, hM⟩
    ·
     replace hM := hM.2 (of_decide_eq_false c_4)
     refine HO.past (past_by rfl rfl c_4) rfl ?_
     refine HO.past (past_by rfl rfl c_4) rfl ?_
     refine oV (.bool false) (q_pickK false rfl c_4 rfl) rfl ?_
     refine HO.nil (thenQ_normal (?_))
     exact ⟨F_4, false, rfl, rfl, rfl, rfl, rfl, rfl, rfl, rfl, rfl, hK, hS, hL_a_Members, hL_a_Services, hM⟩
   ·
    rintro f_4 h_8 ⟨F_5, b_5, e1, e2, e3, e4, e5, e6, e7, e9, e46, hK, hS, hL_a_Members, hL_a_Services, hM⟩
    unfold law33_Ask_Own_j2 at hM
    refine HW.fr [(1, .pointer (some ⟨b_1, 0, none⟩)), (2, .int .i64 0), (3, .slice none 0 0), (4, .slice none 0 0), (5, .int .i64 0), (6, v_1), (7, v_2), (9, .int .i64 i_2), (46, .bool b_5)] ⟨e1, e2, e3, e4, e5, e6, e7, e9, e46, trivial⟩ ?_
    refine HW.cond b_5 rfl (fun c_5 => ?_) (fun c_5 => ?_)
    ·
     replace hM := hM.1 c_5
     refine HW.skip (thenQ_normal (?_))
     refine HW.seq ?_
     refine HW.block ?_
     refine HW.seq_mid (fun f h => ∃ (F' : Fz) (b_6 : Bool), f 1 = .pointer (some ⟨b_1, 0, none⟩) ∧ f 2 = .int .i64 0 ∧ f 3 = .slice none 0 0 ∧ f 4 = .slice none 0 0 ∧ f 5 = .int .i64 0 ∧ f 6 = v_1 ∧ f 7 = v_2 ∧ f 9 = .int .i64 i_2 ∧ f 66 = .bool b_6 ∧ Kp F h0 F' h ∧ St F' (Ow.box b_1 39 #[.int .i64 a_Root, va_Members, va_Services, .int .u8 a_Fan] :: Ow.own 3 1 encI v_1 l_1 :: Ow.own 3 1 encI v_2 l_3 :: fr) h ∧ (SliceF F' h 1 encI va_Members a_Members) ∧ (SliceF F' h 1 encI va_Services a_Services) ∧ law33_Ask_Own_j3 a_Services l_3 i_2 K_2 b_6) ?_ ?_
     ·
      refine HW.regionA 18 mixed (fun h => (SliceIs h 1 encI va_Services a_Services) ∧ (Blk h b_1 (.cells #[.int .i64 a_Root, va_Members, va_Services, .int .u8 a_Fan] 39 (0, 0)))) [] (by kernel_rfl) ?_
      refine HA.val (k := 0) (v := .pointer (some ⟨b_1, 2, none⟩)) rfl rfl (by kernel_rfl) (by kernel_rfl) (want_none) rfl (fun _ ⟨hL_a_Services, c415⟩ => q_fieldAddr fa_39_2 rfl rfl) ?_
      refine HA.val (k := 1) (v := va_Services) rfl rfl (by kernel_rfl) (by kernel_rfl) (want_none) rfl (fun _ ⟨hL_a_Services, c415⟩ => q_load to_31 rfl (Blk.cell c415 rfl)) ?_
      refine HA.val (k := 2) (v := .int .i64 i_2) rfl rfl (by kernel_rfl) (by kernel_rfl) (want_none) rfl (fun _ ⟨hL_a_Services, c415⟩ => q_move rfl) ?_
      obtain ⟨ho_4, hM⟩ := hM
      refine HA.val (k := 3) (v := elemPtr 1 va_Services (i_2).toNat) rfl rfl (by kernel_rfl) (by kernel_rfl) (want_none) rfl (fun _ ⟨hL_a_Services, c415⟩ => q_idx ts_31 hL_a_Services rfl rfl ho_4) ?_
      refine HA.val (k := 4) (v := .int .i64 (gi a_Services i_2)) rfl rfl (by kernel_rfl) (by kernel_rfl) (want_none) rfl (fun _ ⟨hL_a_Services, c415⟩ => q_ldElem to_3 hL_a_Services rfl ho_4 rfl) ?_
      refine HA.val (k := 5) (v := .pointer (some ⟨b_1, 0, none⟩)) rfl rfl (by kernel_rfl) (by kernel_rfl) (want_none) rfl (fun _ ⟨hL_a_Services, c415⟩ => q_fieldAddr fa_39_0 rfl rfl) ?_
      refine HA.val (k := 6) (v := .int .i64 a_Root) rfl rfl (by kernel_rfl) (by kernel_rfl) (want_none) rfl (fun _ ⟨hL_a_Services, c415⟩ => q_load to_3 rfl (Blk.cell c415 rfl)) ?_
      refine HA.val (k := 7) (v := .bool (!decide ((gi a_Services i_2) = a_Root))) rfl rfl (by kernel_rfl) (by kernel_rfl) (want_none) rfl (fun _ ⟨hL_a_Services, c415⟩ => q_neq rfl rfl) ?_
      refine HA.val (k := 8) (v := .bool (!decide ((gi a_Services i_2) = a_Root))) rfl rfl (by kernel_rfl) (by kernel_rfl) (want_none) rfl (fun _ ⟨hL_a_Services, c415⟩ => q_move rfl) ?_
      rcases Bool.eq_false_or_eq_true (!decide ((gi a_Services i_2) = a_Root)) with c_6 | c_6
      ·
       replace hM := hM.1 (nd_true c_6)
       refine HA.val (k := 9) (v := v_1) rfl rfl (by kernel_rfl) (by kernel_rfl) (want_by rfl rfl c_6) rfl (fun _ ⟨hL_a_Services, c415⟩ => q_move rfl) ?_
       refine HA.val (k := 10) (v := .pointer (some ⟨b_1, 2, none⟩)) rfl rfl (by kernel_rfl) (by kernel_rfl) (want_by rfl rfl c_6) rfl (fun _ ⟨hL_a_Services, c415⟩ => q_fieldAddr fa_39_2 rfl rfl) ?_
       refine HA.val (k := 11) (v := va_Services) rfl rfl (by kernel_rfl) (by kernel_rfl) (want_by rfl rfl c_6) rfl (fun _ ⟨hL_a_Services, c415⟩ => q_load to_31 rfl (Blk.cell c415 rfl)) ?_
       refine HA.val (k := 12) (v := .int .i64 i_2) rfl rfl (by kernel_rfl) (by kernel_rfl) (want_by rfl rfl c_6) rfl (fun _ ⟨hL_a_Services, c415⟩ => q_move rfl) ?_
       refine HA.val (k := 13) (v := elemPtr 1 va_Services (i_2).toNat) rfl rfl (by kernel_rfl) (by kernel_rfl) (want_by rfl rfl c_6) rfl (fun _ ⟨hL_a_Services, c415⟩ => q_idx ts_31 hL_a_Services rfl rfl ho_4) ?_
       refine HA.val (k := 14) (v := .int .i64 (gi a_Services i_2)) rfl rfl (by kernel_rfl) (by kernel_rfl) (want_by rfl rfl c_6) rfl (fun _ ⟨hL_a_Services, c415⟩ => q_ldElem to_3 hL_a_Services rfl ho_4 rfl) ?_
       refine HA.one (k := 15) ⟨⟨hL_a_Services.is, (hS.box 0 rfl)⟩, (Go.Wk.at_nil _ _)⟩ (by kernel_rfl) ?_
       replace hS : St F_5 (Ow.own 3 1 encI v_1 l_1 :: Ow.box b_1 39 #[.int .i64 a_Root, va_Members, va_Services, .int .u8 a_Fan] :: Ow.own 3 1 encI v_2 l_3 :: fr) h_8 := hS.perm2 [1, 0, 2] 3 rfl rfl
       have hZ_1 := hS
       have hkz_1 := (hS.freeze).2
       replace hS := hS.freeze.1
       have hL_1 : SliceF (fun bz_ => F_5 bz_ ∨ (Ow.own 3 1 encI v_1 l_1).foot bz_) h_8 1 encI v_1 l_1 := ⟨(hZ_1.own 0 rfl).slice, fun _ b hb => .inr hb⟩
       refine HS.call rfl (want_by rfl rfl c_6) rfl (ec en_12 rfl rfl) (ref32_Has_walk (fr := (Ow.box b_1 39 #[.int .i64 a_Root, va_Members, va_Services, .int .u8 a_Fan] :: Ow.own 3 1 encI v_2 l_3 :: fr)) l_1 (gi a_Services i_2) v_1 hS hL_1 hM) ?_
       rintro _ h_9 ⟨F_6, r_2, rfl, hk, hS, _, hM⟩
       obtain ⟨hS, hk⟩ := hZ_1.back hk hS
       generalize (fun bz_ => F_6 bz_ ∧ ¬ (Ow.own 3 1 encI v_1 l_1).foot bz_) = F_7 at hS hk
       replace hK := hK.trans hk
       replace hL_a_Members := hL_a_Members.kp hk
       replace hL_a_Services := hL_a_Services.kp hk
       refine HA.val (k := 16) (v := .bool (!r_2)) rfl rfl (by kernel_rfl) (by kernel_rfl) (want_by rfl rfl c_6) rfl (fun _ ⟨hL_a_Services, c415⟩ => q_not rfl) ?_
       refine HA.val (k := 17) (v := .bool (!r_2)) rfl rfl (by kernel_rfl) (by kernel_rfl) (want_none) rfl (fun _ ⟨hL_a_Services, c415⟩ => q_pickK true rfl c_6 rfl) ?_
       refine HA.nil ⟨⟨hL_a_Services.is, (hS.box 1 rfl)⟩, (Go.Wk.at_nil _ _)⟩ (by kernel_rfl) (thenQ_normal (?_))
       replace hS : St F_7 (Ow.box b_1 39 #[.int .i64 a_Root, va_Members, va_Services, .int .u8 a_Fan] :: Ow.own 3 1 encI v_1 l_1 :: Ow.own 3 1 encI v_2 l_3 :: fr) h_9 := hS.perm2 [1, 0, 2] 3 rfl rfl
       exact ⟨F_7, !r_2, rfl, rfl, rfl, rfl, rfl, rfl, rfl, rfl, rfl, hK, hS, hL_a_Members, hL_a_Services, hM⟩
      ·
       replace hM := hM.2 (nd_false c_6)
       refine HA.past (k := 9) rfl rfl (by kernel_rfl) (by kernel_rfl) (past_by rfl rfl c_6) rfl ?_
       refine HA.past (k := 10) rfl rfl (by kernel_rfl) (by kernel_rfl) (past_by rfl rfl c_6) rfl ?_
       refine HA.past (k := 11) rfl rfl (by kernel_rfl) (by kernel_rfl) (past_by rfl rfl c_6) rfl ?_
       refine HA.past (k := 12) rfl rfl (by kernel_rfl) (by kernel_rfl) (past_by rfl rfl c_6) rfl ?_
       refine HA.past (k := 13) rfl rfl (by kernel_rfl) (by kernel_rfl) (past_by rfl rfl c_6) rfl ?_
       refine HA.past (k := 14) rfl rfl (by kernel_rfl) (by kernel_rfl) (past_by rfl rfl c_6) rfl ?_
       refine HA.one (k := 15) ⟨⟨hL_a_Services.is, (hS.box 0 rfl)⟩, (Go.Wk.at_nil _ _)⟩ (by kernel_rfl) ?_
       refine HS.past rfl (past_by rfl rfl c_6) rfl ?_
       refine HA.past (k := 16) rfl rfl (by kernel_rfl) (by kernel_rfl) (past_by rfl rfl c_6) rfl ?_
       refine HA.val (k := 17) (v := .bool false) rfl rfl (by kernel_rfl) (by kernel_rfl) (want_none) rfl (fun _ ⟨hL_a_Services, c415⟩ => q_pickK false rfl c_6 rfl) ?_
       refine HA.nil ⟨⟨hL_a_Services.is, (hS.box 0 rfl)⟩, (Go.Wk.at_nil _ _)⟩ (by kernel_rfl) (thenQ_normal (?_))
       exact ⟨F_5, false, rfl, rfl, rfl, rfl, rfl, rfl, rfl, rfl, rfl, hK, hS, hL_a_Members, hL_a_Services, hM⟩
     ·
      rintro f_5 h_10 ⟨F_8, b_6, e1, e2, e3, e4, e5, e6, e7, e9, e66, hK, hS, hL_a_Members, hL_a_Services, hM⟩
      unfold law33_Ask_Own_j3 at hM
      refine HW.fr [(1, .pointer (some ⟨b_1, 0, none⟩)), (2, .int .i64 0), (3, .slice none 0 0), (4, .slice none 0 0), (5, .int .i64 0), (6, v_1), (7, v_2), (9, .int .i64 i_2), (66, .bool b_6)] ⟨e1, e2, e3, e4, e5, e6, e7, e9, e66, trivial⟩ ?_
      refine HW.cond b_6 rfl (fun c_7 => ?_) (fun c_7 => ?_)
      ·
       replace hM := hM.1 c_7
       refine HW.region ?_
       refine oM (v_2) rfl rfl ?_
       refine oV (.pointer (some ⟨b_1, 2, none⟩)) (q_fieldAddr fa_39_2 rfl rfl) rfl ?_
       refine oV (va_Services) (q_load to_31 rfl (Blk.cell (hS.box 0 rfl) rfl)) rfl ?_
       refine oM (.int .i64 i_2) rfl rfl ?_
       obtain ⟨ho_5, hM⟩ := hM
       refine oV (elemPtr 1 va_Services (i_2).toNat) (q_idx ts_31 hL_a_Services.is rfl rfl ho_5) rfl ?_
       refine oV (.int .i64 (gi a_Services i_2)) (q_ldElem to_3 hL_a_Services.is rfl ho_5 rfl) rfl ?_
       replace hS : St F_8 (Ow.own 3 1 encI v_2 l_3 :: Ow.box b_1 39 #[.int .i64 a_Root, va_Members, va_Services, .int .u8 a_Fan] :: Ow.own 3 1 encI v_1 l_1 :: fr) h_10 := hS.perm2 [2, 0, 1] 3 rfl rfl
       refine HO.call (want_none) rfl (ec en_13 rfl rfl) (ref32_Add_walk (fr := (Ow.box b_1 39 #[.int .i64 a_Root, va_Members, va_Services, .int .u8 a_Fan] :: Ow.own 3 1 encI v_1 l_1 :: fr)) l_3 (gi a_Services i_2) v_2 hS hM) ?_
       rintro vr_2 h_11 ⟨F_9, r_3, _, rfl, hk, hS, hM⟩
       replace hK := hK.trans hk
       replace hL_a_Members := hL_a_Members.kp hk
       replace hL_a_Services := hL_a_Services.kp hk
       refine oA (vr_2) rfl rfl ?_
       refine HO.nil (blockQ_normal (thenQ_normal (?_)))
       refine HW.region ?_
       refine oM (.int .i64 i_2) rfl rfl ?_
       obtain ⟨ho_6, hM⟩ := hM
       refine oV (.int .i64 (i_2 + 1)) (q_addN _ rfl rfl rfl ho_6.1 ho_6.2) rfl ?_
       refine oA (.int .i64 (i_2 + 1)) rfl rfl ?_
       refine HO.nil (thenQ_normal (?_))
       replace hS : St F_9 (Ow.box b_1 39 #[.int .i64 a_Root, va_Members, va_Services, .int .u8 a_Fan] :: Ow.own 3 1 encI v_1 l_1 :: Ow.own 3 1 encI vr_2 r_3 :: fr) h_11 := hS.perm2 [1, 2, 0] 3 rfl rfl
       rw [hKe_2] at hM
       exact ⟨(r_3, i_2 + 1), ⟨F_9, vr_2, rfl, rfl, rfl, rfl, rfl, rfl, rfl, rfl, hK, hS, hL_a_Members, hL_a_Services, hM.1⟩, hM.2⟩
      ·
       replace hM := hM.2 c_7
       refine HW.skip (blockQ_normal (thenQ_normal (?_)))
       refine HW.region ?_
       refine oM (.int .i64 i_2) rfl rfl ?_
       obtain ⟨ho_7, hM⟩ := hM
       refine oV (.int .i64 (i_2 + 1)) (q_addN _ rfl rfl rfl ho_7.1 ho_7.2) rfl ?_
       refine oA (.int .i64 (i_2 + 1)) rfl rfl ?_
       refine HO.nil (thenQ_normal (?_))
       rw [hKe_2] at hM
       exact ⟨(l_3, i_2 + 1), ⟨F_8, v_2, rfl, rfl, rfl, rfl, rfl, rfl, rfl, rfl, hK, hS, hL_a_Members, hL_a_Services, hM.1⟩, hM.2⟩
    ·
     replace hM := hM.2 c_5
     refine HW.exit (thenQ_exit (thenQ_exit (blockQ_exit (thenQ_normal (?_)))))
     refine HW.seq ?_
     refine HW.regionA 13 mixed (fun h => (SliceIs h 1 encI va_Members a_Members) ∧ (SliceIs h 1 encI va_Services a_Services) ∧ (Blk h b_1 (.cells #[.int .i64 a_Root, va_Members, va_Services, .int .u8 a_Fan] 39 (0, 0))) ∧ (OwnIs h 0 3 1 encI v_1 l_1) ∧ (OwnIs h 0 3 1 encI v_2 l_3)) [] (by kernel_rfl) ?_
     refine HA.val (k := 0) (v := .pointer (some ⟨b_1, 0, none⟩)) rfl rfl (by kernel_rfl) (by kernel_rfl) (want_none) rfl (fun _ ⟨hL_a_Members, hL_a_Services, c415, c416, c417⟩ => q_fieldAddr fa_39_0 rfl rfl) ?_
     refine HA.val (k := 1) (v := .int .i64 a_Root) rfl rfl (by kernel_rfl) (by kernel_rfl) (want_none) rfl (fun _ ⟨hL_a_Members, hL_a_Services, c415, c416, c417⟩ => q_load to_3 rfl (Blk.cell c415 rfl)) ?_
     refine HA.val (k := 2) (v := v_1) rfl rfl (by kernel_rfl) (by kernel_rfl) (want_none) rfl (fun _ ⟨hL_a_Members, hL_a_Services, c415, c416, c417⟩ => q_move rfl) ?_
     refine HA.val (k := 3) (v := v_2) rfl rfl (by kernel_rfl) (by kernel_rfl) (want_none) rfl (fun _ ⟨hL_a_Members, hL_a_Services, c415, c416, c417⟩ => q_move rfl) ?_
     refine HA.val (k := 4) (v := .pointer (some ⟨b_1, 3, none⟩)) rfl rfl (by kernel_rfl) (by kernel_rfl) (want_none) rfl (fun _ ⟨hL_a_Members, hL_a_Services, c415, c416, c417⟩ => q_fieldAddr fa_39_3 rfl rfl) ?_
     refine HA.val (k := 5) (v := .int .u8 a_Fan) rfl rfl (by kernel_rfl) (by kernel_rfl) (want_none) rfl (fun _ ⟨hL_a_Members, hL_a_Services, c415, c416, c417⟩ => q_load to_5 rfl (Blk.cell c415 rfl)) ?_
     obtain ⟨ho_8, hM⟩ := hM
     refine HA.val (k := 6) (v := .int .u8 ((u8w (a_Fan.tmod 64)).toNat : Int)) rfl rfl (by kernel_rfl) (by kernel_rfl) (want_none) rfl (fun _ ⟨hL_a_Members, hL_a_Services, c415, c416, c417⟩ => (q_rem rfl rfl (by decide)).of_eq (u8r_v ho_8)) ?_
     obtain ⟨ho_9, hM⟩ := hM
     refine HA.val (k := 7) (v := .int .i64 ((u8w (a_Fan.tmod 64)).toNat : Int)) rfl rfl (by kernel_rfl) (by kernel_rfl) (want_none) rfl (fun _ ⟨hL_a_Members, hL_a_Services, c415, c416, c417⟩ => q_convInt Try.underlying5 Try.underlying3 rfl (wrap_i64 ho_9.1 ho_9.2)) ?_
     obtain ⟨ho_10, hM⟩ := hM
     refine HA.val (k := 8) (v := .int .i64 (1 + ((u8w (a_Fan.tmod 64)).toNat : Int))) rfl rfl (by kernel_rfl) (by kernel_rfl) (want_none) rfl (fun _ ⟨hL_a_Members, hL_a_Services, c415, c416, c417⟩ => q_addN _ rfl rfl rfl ho_10.1 ho_10.2) ?_
     refine HA.val (k := 9) (v := .int .i64 a_Root) rfl rfl (by kernel_rfl) (by kernel_rfl) (want_none) rfl (fun _ ⟨hL_a_Members, hL_a_Services, c415, c416, c417⟩ => q_assign rfl) ?_
     refine HA.val (k := 10) (v := v_1) rfl rfl (by kernel_rfl) (by kernel_rfl) (want_none) rfl (fun _ ⟨hL_a_Members, hL_a_Services, c415, c416, c417⟩ => q_assign rfl) ?_
     refine HA.val (k := 11) (v := v_2) rfl rfl (by kernel_rfl) (by kernel_rfl) (want_none) rfl (fun _ ⟨hL_a_Members, hL_a_Services, c415, c416, c417⟩ => q_assign rfl) ?_
     refine HA.val (k := 12) (v := .int .i64 (1 + ((u8w (a_Fan.tmod 64)).toNat : Int))) rfl rfl (by kernel_rfl) (by kernel_rfl) (want_none) rfl (fun _ ⟨hL_a_Members, hL_a_Services, c415, c416, c417⟩ => q_assign rfl) ?_
     refine HA.nil ⟨⟨hL_a_Members.is, hL_a_Services.is, (hS.box 0 rfl), (hS.own 1 rfl), (hS.own 2 rfl)⟩, (Go.Wk.at_nil _ _)⟩ (by kernel_rfl) (thenQ_normal (?_))
     refine HW.ret (?_)
     refine ⟨.inr rfl, .tuple #[.int .i64 a_Root, v_1, v_2, .int .i64 (1 + ((u8w (a_Fan.tmod 64)).toNat : Int))], res4 rfl (rt rfl) (rt rfl) (rt rfl) (rt rfl), ?_⟩
     replace hS : St F_5 (Ow.own 3 1 encI v_1 l_1 :: Ow.own 3 1 encI v_2 l_3 :: fr) h_8 := hS.perm2 [1, 2] 3 rfl rfl
     exact ⟨F_5, a_Root, l_1, l_3, 1 + ((u8w (a_Fan.tmod 64)).toNat : Int), v_1, v_2, rfl, hK, hS, hL_a_Members, hL_a_Services, hM⟩

def law33_copied_W (l : List Int) (Q : (List Int) → Prop) : Prop :=
 ((([] : List Int).length + l.length) * 8 ≤ 140737488355328) ∧ (Q (([] : List Int) ++ l))
set_option maxHeartbeats 40000000 in
set_option maxRecDepth 100000 in
theorem law33_copied_walk {F : Fz} {fr : List Ow} {h0 : Heap} (l : List Int) (vl : Value) (hS : St F (fr) h0) (hL_l : SliceF F h0 1 encI vl l) {Q : (List Int) → Prop} (hM : law33_copied_W l Q) :
  HC Try.prog 18 #[vl] h0 fun u h' => ∃ (F' : Fz) (r_1 : List Int) (vr_1 : Value), u = vr_1 ∧ Kp F h0 F' h' ∧ St F' (Ow.own 3 1 encI vr_1 r_1 :: fr) h' ∧ (SliceF F' h' 1 encI vl l) ∧ Q r_1 := by
 unfold law33_copied_W at hM
 have hK := Kp.refl F h0
 refine HC.of_HW (n := 6) Try.func18 rfl rfl (Nat.le_of_ble_eq_true rfl) ?_
 refine HW.seq ?_
 refine HW.region ?_
 refine oA (.slice none 0 0) rfl rfl ?_
 refine HO.nil (thenQ_normal (?_))
 refine HW.seq ?_
 refine HW.region ?_
 refine HO.eff (want_none) rfl (st_litEmpty (α := Int) encI hS tl_31) ?_
 rintro _ h_1 ⟨b_1, rfl, hS, hk⟩
 replace hK := hK.trans hk
 replace hL_l := hL_l.kp hk
 refine oM (vl) rfl rfl ?_
 obtain ⟨ho_1, hM⟩ := hM
 refine HO.eff (want_none) rfl (st_append te_31 hS (i := 0) rfl hL_l.is rfl rfl rfl (by intro a _ u hu; simp [encI, encI, encN, encB, encT] at hu; subst hu; rfl) ho_1 (by omega)) ?_
 rintro v_1 h_2 ⟨hS, hk⟩
 replace hS : St F (Ow.own 3 1 encI v_1 (([] : List Int) ++ l) :: fr) h_2 := hS
 replace hK := hK.trans hk
 replace hL_l := hL_l.kp hk
 refine oA (v_1) rfl rfl ?_
 refine HO.nil (thenQ_normal (?_))
 refine HW.ret (?_)
 refine ⟨.inr rfl, v_1, res1 rfl (rt rfl), ?_⟩
 exact ⟨F, ([] : List Int) ++ l, v_1, rfl, hK, hS, hL_l, hM⟩
end Go.Wk
