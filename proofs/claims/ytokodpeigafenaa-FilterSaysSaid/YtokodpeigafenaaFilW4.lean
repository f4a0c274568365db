/- Walks and mirrors of Filter laws. -/
import Derived.Test.YtokodpeigafenaaFilW3
set_option linter.unusedSimpArgs false
set_option linter.unusedVariables false
set_option linter.unusedSectionVars false
namespace Go.Wk
open Go.HL
open Go.Proofs hiding encI
variable [DM]

def slices_Equal_s_api_Addr_api_Addr_l1 (s1 : List T_api_Addr) (s2 : List T_api_Addr) (Q : Bool → Prop) (K_1 : Int → Prop) (n_1 : Int) : Prop :=
  (n_1 < (s1.length : Int) → ((0 : Int) ≤ n_1 ∧ n_1 < (s1.length : Int)) ∧ (((0 : Int) ≤ n_1 ∧ n_1 < (s2.length : Int)) ∧ ((¬ (((gi s1 n_1) : T_api_Addr) = (gi s2 n_1)) → Q false) ∧ (((gi s1 n_1) : T_api_Addr) = (gi s2 n_1) → (I64 (n_1 + 1)) ∧ (K_1 (n_1 + 1)))))) ∧ (¬ (n_1 < (s1.length : Int)) → Q true)
def slices_Equal_s_api_Addr_api_Addr_W (s1 : List T_api_Addr) (s2 : List T_api_Addr) (Q : Bool → Prop) : Prop :=
  (¬ ((s1.length : Int) = (s2.length : Int)) → Q false) ∧ ((s1.length : Int) = (s2.length : Int) → loopW (fun (K_1 : Int → Prop) (s : Int) => slices_Equal_s_api_Addr_api_Addr_l1 s1 s2 Q K_1 s) 0)
set_option maxHeartbeats 40000000 in
set_option maxRecDepth 100000 in
theorem slices_Equal_s_api_Addr_api_Addr_walk {F : Fz} {fr : List Ow} {h0 : Heap} (s1 : List T_api_Addr) (s2 : List T_api_Addr) (vs1 : Value) (vs2 : Value) (hS : St F (fr) h0) (hL_s1 : SliceF F h0 17 e_api_Addr vs1 s1) (hL_s2 : SliceF F h0 17 e_api_Addr vs2 s2) {Q : Bool → Prop} (hM : slices_Equal_s_api_Addr_api_Addr_W s1 s2 Q) :
    HC Try.prog 55 #[vs1, vs2] h0 fun u h' => ∃ (F' : Fz) (r_1 : Bool), u = .bool r_1 ∧ Kp F h0 F' h' ∧ St F' (fr) h' ∧ (SliceF F' h' 17 e_api_Addr vs1 s1) ∧ (SliceF F' h' 17 e_api_Addr vs2 s2) ∧ Q r_1 := by
  unfold slices_Equal_s_api_Addr_api_Addr_W at hM
  have hK := Kp.refl F h0
  refine HC.of_HW (n := 26) Try.func55 rfl rfl (Nat.le_of_ble_eq_true rfl) ?_
  refine HW.seq ?_
  refine HW.region ?_
  refine HO.val (v := .bool false) (want_none) rfl (q_assign rfl) ?_
  refine HO.nil (thenQ_normal (?_))
  refine HW.seq ?_
  refine HW.seq ?_
  refine HW.region ?_
  refine HO.val (v := vs1) (want_none) rfl (q_move rfl) ?_
  refine HO.val (v := .int .i64 (s1.length : Int)) (want_none) rfl (q_len ts_22 (shp hL_s1.is) rfl rfl) ?_
  refine HO.val (v := vs2) (want_none) rfl (q_move rfl) ?_
  refine HO.val (v := .int .i64 (s2.length : Int)) (want_none) rfl (q_len ts_22 (shp hL_s2.is) rfl rfl) ?_
  refine HO.val (v := .bool (!decide ((s1.length : Int) = (s2.length : Int)))) (want_none) rfl (q_neq rfl rfl) ?_
  refine HO.nil (thenQ_normal (?_))
  refine HW.cond (!decide ((s1.length : Int) = (s2.length : Int))) rfl (fun c_1 => ?_) (fun c_1 => ?_)
  · replace hM := hM.1 (nd_true c_1)
    refine HW.seq ?_
    refine HW.region ?_
    refine HO.val (v := .bool false) (want_none) rfl (q_assign rfl) ?_
    refine HO.nil (thenQ_normal (?_))
    refine HW.ret (thenQ_ret (?_))
    refine ⟨.inr rfl, .bool false, res1 rfl (rt rfl), ?_⟩
    exact ⟨F, false, rfl, hK, hS, hL_s1, hL_s2, hM⟩
  · replace hM := hM.2 (nd_false c_1)
    refine HW.skip (thenQ_normal (?_))
    refine HW.seq ?_
    refine HW.seq ?_
    refine HW.region ?_
    refine HO.val (v := vs1) (want_none) rfl (q_move rfl) ?_
    refine HO.val (v := .int .i64 (s1.length : Int)) (want_none) rfl (q_len ts_22 (shp hL_s1.is) rfl rfl) ?_
    refine HO.val (v := .int .i64 0) (want_none) rfl (q_move rfl) ?_
    refine HO.nil (thenQ_normal (?_))
    refine HW.block ?_
    obtain ⟨I_1, m_1, hI_1, hR_1⟩ := hM
    refine HW.loop (S := Int) (fun n_1 f h => ∃ (F' : Fz), f 0 = vs1 ∧ f 1 = vs2 ∧ f 4 = .bool false ∧ f 12 = .int .i64 (s1.length : Int) ∧ f 13 = .int .i64 n_1 ∧ Kp F h0 F' h ∧ St F' (fr) h ∧ (SliceF F' h 17 e_api_Addr vs1 s1) ∧ (SliceF F' h 17 e_api_Addr vs2 s2) ∧ I_1 n_1) m_1 0 ⟨F, rfl, rfl, rfl, rfl, rfl, hK, hS, hL_s1, hL_s2, hI_1⟩ ?_
    rintro n_1 f_1 h_1 ⟨F_1, e0, e1, e4, e12, e13, hK, hS, hL_s1, hL_s2, hI0⟩
    obtain ⟨K_1, hKe_1⟩ : ∃ K : Int → Prop, K = fun n_1' => I_1 n_1' ∧ m_1 n_1' < m_1 n_1 := ⟨_, rfl⟩
    have hM : slices_Equal_s_api_Addr_api_Addr_l1 s1 s2 Q K_1 n_1 := by rw [hKe_1]; exact hR_1 n_1 hI0
    unfold slices_Equal_s_api_Addr_api_Addr_l1 at hM
    refine HW.fr [(0, vs1), (1, vs2), (4, .bool false), (12, .int .i64 (s1.length : Int)), (13, .int .i64 n_1)] ⟨e0, e1, e4, e12, e13, trivial⟩ ?_
    refine HW.seq ?_
    refine HW.region ?_
    refine HO.val (v := .bool (decide (n_1 < (s1.length : Int)))) (want_none) rfl (q_lss rfl rfl) ?_
    refine HO.nil (thenQ_normal (?_))
    refine HW.seq ?_
    refine HW.cond (decide (n_1 < (s1.length : Int))) rfl (fun c_2 => ?_) (fun c_2 => ?_)
    · replace hM := hM.1 (of_decide_eq_true c_2)
      refine HW.skip (thenQ_normal (?_))
      refine HW.seq ?_
      refine HW.block ?_
      refine HW.seq ?_
      refine HW.region ?_
      refine HO.val (v := .int .i64 n_1) (want_none) rfl (q_move rfl) ?_
      refine HO.val (v := .int .i64 n_1) (want_none) rfl (q_assign rfl) ?_
      refine HO.nil (thenQ_normal (?_))
      refine HW.seq ?_
      refine HW.regionA 9 mixed (fun h => (SliceIs h 17 e_api_Addr vs1 s1) ∧ (SliceIs h 17 e_api_Addr vs2 s2)) [] (by kernel_rfl) ?_
      refine HA.val (k := 0) (v := vs1) rfl rfl (by kernel_rfl) (by kernel_rfl) (want_none) rfl (fun _ ⟨hL_s1, hL_s2⟩ => q_move rfl) ?_
      refine HA.val (k := 1) (v := .int .i64 n_1) rfl rfl (by kernel_rfl) (by kernel_rfl) (want_none) rfl (fun _ ⟨hL_s1, hL_s2⟩ => q_move rfl) ?_
      obtain ⟨ho_1, hM⟩ := hM
      refine HA.val (k := 2) (v := elemPtr 17 vs1 (n_1).toNat) rfl rfl (by kernel_rfl) (by kernel_rfl) (want_none) rfl (fun _ ⟨hL_s1, hL_s2⟩ => q_idx ts_22 hL_s1 rfl rfl ho_1) ?_
      refine HA.val (k := 3) (v := .agg (e_api_Addr (gi s1 n_1)).toArray) rfl rfl (by kernel_rfl) (by kernel_rfl) (want_none) rfl (fun _ ⟨hL_s1, hL_s2⟩ => q_ldElemAgg (cs := (e_api_Addr (gi s1 n_1))) ta_34 hL_s1 rfl ho_1 rfl) ?_
      refine HA.val (k := 4) (v := vs2) rfl rfl (by kernel_rfl) (by kernel_rfl) (want_none) rfl (fun _ ⟨hL_s1, hL_s2⟩ => q_move rfl) ?_
      refine HA.val (k := 5) (v := .int .i64 n_1) rfl rfl (by kernel_rfl) (by kernel_rfl) (want_none) rfl (fun _ ⟨hL_s1, hL_s2⟩ => q_move rfl) ?_
      obtain ⟨ho_2, hM⟩ := hM
      refine HA.val (k := 6) (v := elemPtr 17 vs2 (n_1).toNat) rfl rfl (by kernel_rfl) (by kernel_rfl) (want_none) rfl (fun _ ⟨hL_s1, hL_s2⟩ => q_idx ts_22 hL_s2 rfl rfl ho_2) ?_
      refine HA.val (k := 7) (v := .agg (e_api_Addr (gi s2 n_1)).toArray) rfl rfl (by kernel_rfl) (by kernel_rfl) (want_none) rfl (fun _ ⟨hL_s1, hL_s2⟩ => q_ldElemAgg (cs := (e_api_Addr (gi s2 n_1))) ta_34 hL_s2 rfl ho_2 rfl) ?_
      refine HA.val (k := 8) (v := .bool (!decide (((gi s1 n_1) : T_api_Addr) = (gi s2 n_1)))) rfl rfl (by kernel_rfl) (by kernel_rfl) (want_none) rfl (fun _ ⟨hL_s1, hL_s2⟩ => q_neqAgg (a := (gi s1 n_1)) (b := (gi s2 n_1)) (fun a b w => teq_34 9997 a b w) (by kernel_rfl) rfl rfl rfl rfl) ?_
      refine HA.nil ⟨⟨hL_s1.is, hL_s2.is⟩, (Go.Wk.at_nil _ _)⟩ (by kernel_rfl) (thenQ_normal (?_))
      refine HW.cond (!decide (((gi s1 n_1) : T_api_Addr) = (gi s2 n_1))) rfl (fun c_3 => ?_) (fun c_3 => ?_)
      · replace hM := hM.1 (nd_true c_3)
        refine HW.seq ?_
        refine HW.region ?_
        refine HO.val (v := .bool false) (want_none) rfl (q_assign rfl) ?_
        refine HO.nil (thenQ_normal (?_))
        refine HW.ret (blockQ_ret (thenQ_ret (thenQ_ret (blockQ_ret (thenQ_ret (?_))))))
        refine ⟨.inr rfl, .bool false, res1 rfl (rt rfl), ?_⟩
        exact ⟨F_1, false, rfl, hK, hS, hL_s1, hL_s2, hM⟩
      · replace hM := hM.2 (nd_false c_3)
        refine HW.skip (blockQ_normal (thenQ_normal (?_)))
        refine HW.region ?_
        obtain ⟨ho_3, hM⟩ := hM
        refine HO.val (v := .int .i64 (n_1 + 1)) (want_none) rfl (q_addN _ rfl rfl rfl ho_3.1 ho_3.2) ?_
        refine HO.val (v := .int .i64 (n_1 + 1)) (want_none) rfl (q_move rfl) ?_
        refine HO.nil (thenQ_normal (?_))
        rw [hKe_1] at hM
        exact ⟨n_1 + 1, ⟨F_1, rfl, rfl, rfl, rfl, rfl, hK, hS, hL_s1, hL_s2, hM.1⟩, hM.2⟩
    · replace hM := hM.2 (of_decide_eq_false c_2)
      refine HW.exit (thenQ_exit (thenQ_exit (blockQ_exit (thenQ_normal (?_)))))
      refine HW.seq ?_
      refine HW.region ?_
      refine HO.val (v := .bool true) (want_none) rfl (q_assign rfl) ?_
      refine HO.nil (thenQ_normal (?_))
      refine HW.ret (?_)
      refine ⟨.inr rfl, .bool true, res1 rfl (rt rfl), ?_⟩
      exact ⟨F_1, true, rfl, hK, hS, hL_s1, hL_s2, hM⟩

def srcs_Same_W (a : List T_api_Addr) (b : List T_api_Addr) (Q : Bool → Prop) : Prop :=
  slices_Equal_s_api_Addr_api_Addr_W a b (fun r_2 => Q r_2)
set_option maxHeartbeats 40000000 in
set_option maxRecDepth 100000 in
theorem srcs_Same_walk {F : Fz} {fr : List Ow} {h0 : Heap} (a : List T_api_Addr) (b : List T_api_Addr) (va : Value) (vb : Value) (hS : St F (fr) h0) (hL_a : SliceF F h0 17 e_api_Addr va a) (hL_b : SliceF F h0 17 e_api_Addr vb b) {Q : Bool → Prop} (hM : srcs_Same_W a b Q) :
    HC Try.prog 43 #[va, vb] h0 fun u h' => ∃ (F' : Fz) (r_1 : Bool), u = .bool r_1 ∧ Kp F h0 F' h' ∧ St F' (fr) h' ∧ (SliceF F' h' 17 e_api_Addr va a) ∧ (SliceF F' h' 17 e_api_Addr vb b) ∧ Q r_1 := by
  unfold srcs_Same_W at hM
  have hK := Kp.refl F h0
  refine HC.of_HW (n := 8) Try.func43 rfl rfl (Nat.le_of_ble_eq_true rfl) ?_
  refine HW.seq ?_
  refine HW.region ?_
  refine HO.val (v := .bool false) (want_none) rfl (q_assign rfl) ?_
  refine HO.nil (thenQ_normal (?_))
  refine HW.seq ?_
  refine HW.region ?_
  refine HO.val (v := va) (want_none) rfl (q_move rfl) ?_
  refine HO.val (v := vb) (want_none) rfl (q_move rfl) ?_
  refine HO.call (want_none) rfl (ec en_55 rfl rfl) (slices_Equal_s_api_Addr_api_Addr_walk (fr := (fr)) a b va vb hS hL_a hL_b hM) ?_
  rintro _ h_1 ⟨F_1, r_2, rfl, hk, hS, _, _, hM⟩
  replace hK := hK.trans hk
  replace hL_a := hL_a.kp hk
  replace hL_b := hL_b.kp hk
  refine HO.val (v := .bool r_2) (want_none) rfl (q_assign rfl) ?_
  refine HO.nil (thenQ_normal (?_))
  refine HW.ret (?_)
  refine ⟨.inr rfl, .bool r_2, res1 rfl (rt rfl), ?_⟩
  exact ⟨F_1, r_2, rfl, hK, hS, hL_a, hL_b, hM⟩

def filter_Same_W (a_Exclude : Bool) (a_On : List T_api_Addr) (a_Off : List T_api_Addr) (b_Exclude : Bool) (b_On : List T_api_Addr) (b_Off : List T_api_Addr) (Q : Bool → Prop) : Prop :=
  ((a_Exclude == b_Exclude) = true → srcs_Same_W a_On b_On (fun r_2 => (r_2 = true → srcs_Same_W a_Off b_Off (fun r_3 => Q r_3)) ∧ (r_2 = false → Q false))) ∧ ((a_Exclude == b_Exclude) = false → Q false)
set_option maxHeartbeats 40000000 in
set_option maxRecDepth 100000 in
theorem filter_Same_walk {F : Fz} {fr : List Ow} {h0 : Heap} (a_Exclude : Bool) (a_On : List T_api_Addr) (a_Off : List T_api_Addr) (b_Exclude : Bool) (b_On : List T_api_Addr) (b_Off : List T_api_Addr) (va_On : Value) (va_Off : Value) (vb_On : Value) (vb_Off : Value) (hS : St F (fr) h0) (hL_a_On : SliceF F h0 17 e_api_Addr va_On a_On) (hL_a_Off : SliceF F h0 17 e_api_Addr va_Off a_Off) (hL_b_On : SliceF F h0 17 e_api_Addr vb_On b_On) (hL_b_Off : SliceF F h0 17 e_api_Addr vb_Off b_Off) {Q : Bool → Prop} (hM : filter_Same_W a_Exclude a_On a_Off b_Exclude b_On b_Off Q) :
    HC Try.prog 27 #[.agg #[.bool a_Exclude, va_On, va_Off], .agg #[.bool b_Exclude, vb_On, vb_Off]] h0 fun u h' => ∃ (F' : Fz) (r_1 : Bool), u = .bool r_1 ∧ Kp F h0 F' h' ∧ St F' (fr) h' ∧ (SliceF F' h' 17 e_api_Addr va_On a_On) ∧ (SliceF F' h' 17 e_api_Addr va_Off a_Off) ∧ (SliceF F' h' 17 e_api_Addr vb_On b_On) ∧ (SliceF F' h' 17 e_api_Addr vb_Off b_Off) ∧ Q r_1 := by
  unfold filter_Same_W at hM
  have hK := Kp.refl F h0
  refine HC.of_HW (n := 24) Try.func27 rfl rfl (Nat.le_of_ble_eq_true rfl) ?_
  refine HW.seq ?_
  refine HW.region ?_
  refine HO.eff (want_none) rfl (st_box (c := #[.bool a_Exclude, va_On, va_Off]) (k' := 3) hS rfl rfl) ?_
  rintro _ h_1 ⟨b_1, rfl, hS, hk⟩
  replace hK := hK.trans hk
  replace hL_a_On := hL_a_On.kp hk
  replace hL_a_Off := hL_a_Off.kp hk
  replace hL_b_On := hL_b_On.kp hk
  replace hL_b_Off := hL_b_Off.kp hk
  refine HO.eff (want_none) rfl (st_box (c := #[.bool b_Exclude, vb_On, vb_Off]) (k' := 3) hS rfl rfl) ?_
  rintro _ h_2 ⟨b_2, rfl, hS, hk⟩
  replace hK := hK.trans hk
  replace hL_a_On := hL_a_On.kp hk
  replace hL_a_Off := hL_a_Off.kp hk
  replace hL_b_On := hL_b_On.kp hk
  replace hL_b_Off := hL_b_Off.kp hk
  refine HO.val (v := .bool false) (want_none) rfl (q_assign rfl) ?_
  refine HO.nil (thenQ_normal (?_))
  refine HW.seq ?_
  refine HW.region ?_
  refine HO.val (v := .pointer (some ⟨b_1, 0, none⟩)) (want_none) rfl (q_fieldAddr fa_24_0 rfl rfl) ?_
  refine HO.val (v := .bool a_Exclude) (want_none) rfl (q_load to_4 rfl (Blk.cell (hS.box 1 rfl) rfl)) ?_
  refine HO.val (v := .pointer (some ⟨b_2, 0, none⟩)) (want_none) rfl (q_fieldAddr fa_24_0 rfl rfl) ?_
  refine HO.val (v := .bool b_Exclude) (want_none) rfl (q_load to_4 rfl (Blk.cell (hS.box 0 rfl) rfl)) ?_
  refine HO.val (v := .bool (a_Exclude == b_Exclude)) (want_none) rfl (q_eqlB Try.underlying4 rfl rfl) ?_
  refine HO.val (v := .bool (a_Exclude == b_Exclude)) (want_none) rfl (q_move rfl) ?_
  rcases Bool.eq_false_or_eq_true (a_Exclude == b_Exclude) with c_1 | c_1
  · replace hM := hM.1 c_1
    refine HO.val (v := .pointer (some ⟨b_1, 1, none⟩)) (want_by rfl rfl c_1) rfl (q_fieldAddr fa_24_1 rfl rfl) ?_
    refine HO.val (v := va_On) (want_by rfl rfl c_1) rfl (q_load to_22 rfl (Blk.cell (hS.box 1 rfl) rfl)) ?_
    refine HO.val (v := .pointer (some ⟨b_2, 1, none⟩)) (want_by rfl rfl c_1) rfl (q_fieldAddr fa_24_1 rfl rfl) ?_
    refine HO.val (v := vb_On) (want_by rfl rfl c_1) rfl (q_load to_22 rfl (Blk.cell (hS.box 0 rfl) rfl)) ?_
    refine HO.call (want_by rfl rfl c_1) rfl (ec en_43 rfl rfl) (srcs_Same_walk (fr := (Ow.box b_2 24 #[.bool b_Exclude, vb_On, vb_Off] :: Ow.box b_1 24 #[.bool a_Exclude, va_On, va_Off] :: fr)) a_On b_On va_On vb_On hS hL_a_On hL_b_On hM) ?_
    rintro _ h_3 ⟨F_1, r_2, rfl, hk, hS, _, _, hM⟩
    replace hK := hK.trans hk
    replace hL_a_On := hL_a_On.kp hk
    replace hL_a_Off := hL_a_Off.kp hk
    replace hL_b_On := hL_b_On.kp hk
    replace hL_b_Off := hL_b_Off.kp hk
    refine HO.val (v := .bool r_2) (want_none) rfl (q_pickK true rfl c_1 rfl) ?_
    refine HO.val (v := .bool r_2) (want_none) rfl (q_move rfl) ?_
    rcases Bool.eq_false_or_eq_true r_2 with c_2 | c_2
    · replace hM := hM.1 c_2
      refine HO.val (v := .pointer (some ⟨b_1, 2, none⟩)) (want_by rfl rfl c_2) rfl (q_fieldAddr fa_24_2 rfl rfl) ?_
      refine HO.val (v := va_Off) (want_by rfl rfl c_2) rfl (q_load to_22 rfl (Blk.cell (hS.box 1 rfl) rfl)) ?_
      refine HO.val (v := .pointer (some ⟨b_2, 2, none⟩)) (want_by rfl rfl c_2) rfl (q_fieldAddr fa_24_2 rfl rfl) ?_
      refine HO.val (v := vb_Off) (want_by rfl rfl c_2) rfl (q_load to_22 rfl (Blk.cell (hS.box 0 rfl) rfl)) ?_
      refine HO.call (want_by rfl rfl c_2) rfl (ec en_43 rfl rfl) (srcs_Same_walk (fr := (Ow.box b_2 24 #[.bool b_Exclude, vb_On, vb_Off] :: Ow.box b_1 24 #[.bool a_Exclude, va_On, va_Off] :: fr)) a_Off b_Off va_Off vb_Off hS hL_a_Off hL_b_Off hM) ?_
      rintro _ h_4 ⟨F_2, r_3, rfl, hk, hS, _, _, hM⟩
      replace hK := hK.trans hk
      replace hL_a_On := hL_a_On.kp hk
      replace hL_a_Off := hL_a_Off.kp hk
      replace hL_b_On := hL_b_On.kp hk
      replace hL_b_Off := hL_b_Off.kp hk
      refine HO.val (v := .bool r_3) (want_none) rfl (q_pickK true rfl c_2 rfl) ?_
      refine HO.val (v := .bool r_3) (want_none) rfl (q_assign rfl) ?_
      refine HO.nil (thenQ_normal (?_))
      refine HW.ret (?_)
      refine ⟨.inr rfl, .bool r_3, res1 rfl (rt rfl), ?_⟩
      replace hS : St F_2 (fr) h_4 := hS.perm2 [] 2 rfl rfl
      exact ⟨F_2, r_3, rfl, hK, hS, hL_a_On, hL_a_Off, hL_b_On, hL_b_Off, hM⟩
    · replace hM := hM.2 c_2
      refine HO.past (past_by rfl rfl c_2) rfl ?_
      refine HO.past (past_by rfl rfl c_2) rfl ?_
      refine HO.past (past_by rfl rfl c_2) rfl ?_
      refine HO.past (past_by rfl rfl c_2) rfl ?_
      refine HO.past (past_by rfl rfl c_2) rfl ?_
      refine HO.val (v := .bool false) (want_none) rfl (q_pickK false rfl c_2 rfl) ?_
      refine HO.val (v := .bool false) (want_none) rfl (q_assign rfl) ?_
      refine HO.nil (thenQ_normal (?_))
      refine HW.ret (?_)
      refine ⟨.inr rfl, .bool false, res1 rfl (rt rfl), ?_⟩
      replace hS : St F_1 (fr) h_3 := hS.perm2 [] 2 rfl rfl
      exact ⟨F_1, false, rfl, hK, hS, hL_a_On, hL_a_Off, hL_b_On, hL_b_Off, hM⟩
  · replace hM := hM.2 c_1
    refine HO.past (past_by rfl rfl c_1) rfl ?_
    refine HO.past (past_by rfl rfl c_1) rfl ?_
    refine HO.past (past_by rfl rfl c_1) rfl ?_
    refine HO.past (past_by rfl rfl c_1) rfl ?_
    refine HO.past (past_by rfl rfl c_1) rfl ?_
    refine HO.val (v := .bool false) (want_none) rfl (q_pickK false rfl c_1 rfl) ?_
    refine HO.val (v := .bool false) (want_none) rfl (q_move rfl) ?_
    refine HO.past (past_some rfl rfl) rfl ?_
    refine HO.past (past_some rfl rfl) rfl ?_
    refine HO.past (past_some rfl rfl) rfl ?_
    refine HO.past (past_some rfl rfl) rfl ?_
    refine HO.past (past_some rfl rfl) rfl ?_
    refine HO.val (v := .bool false) (want_none) rfl (q_pick rfl rfl) ?_
    refine HO.val (v := .bool false) (want_none) rfl (q_assign rfl) ?_
    refine HO.nil (thenQ_normal (?_))
    refine HW.ret (?_)
    refine ⟨.inr rfl, .bool false, res1 rfl (rt rfl), ?_⟩
    replace hS : St F (fr) h_2 := hS.perm2 [] 2 rfl rfl
    exact ⟨F, false, rfl, hK, hS, hL_a_On, hL_a_Off, hL_b_On, hL_b_Off, hM⟩

def law15_FilterSame_j1 (a_Exclude : Bool) (a_On : List T_api_Addr) (a_Off : List T_api_Addr) (b_Exclude : Bool) (b_On : List T_api_Addr) (b_Off : List T_api_Addr) (Q : Bool → Prop) (x_1_1 : List T_api_Addr) (x_2_1 : List T_api_Addr) : Prop :=
  filter_Good_W a_Exclude x_1_1 x_2_1 (fun r_4 => ref15_Good_W a_Exclude x_1_1 x_2_1 (fun r_5 => ((r_4 == r_5) = true → law15_Few_W a_Exclude a_On a_Off (fun r_0_1 r_1_1 r_2_1 => law15_Few_W b_Exclude b_On b_Off (fun r_0_2 r_1_2 r_2_2 => filter_Same_W r_0_1 r_1_1 r_2_1 r_0_2 r_1_2 r_2_2 (fun r_6 => law15_Few_W a_Exclude a_On a_Off (fun r_0_3 r_1_3 r_2_3 => law15_Few_W b_Exclude b_On b_Off (fun r_0_4 r_1_4 r_2_4 => ref15_Same_W r_0_3 r_1_3 r_2_3 r_0_4 r_1_4 r_2_4 (fun r_7 => ((r_6 == r_7) = true → law15_Few_W a_Exclude a_On a_Off (fun r_0_5 r_1_5 r_2_5 => law15_Few_W a_Exclude a_On a_Off (fun r_0_6 r_1_6 r_2_6 => filter_Same_W r_0_5 r_1_5 r_2_5 r_0_6 r_1_6 r_2_6 (fun r_8 => (r_8 = true → law15_lives_W  (fun r_9 => Q r_9)) ∧ (r_8 = false → Q false))))) ∧ ((r_6 == r_7) = false → Q false)))))))) ∧ ((r_4 == r_5) = false → Q false)))
def law15_FilterSame_W (a_Exclude : Bool) (a_On : List T_api_Addr) (a_Off : List T_api_Addr) (b_Exclude : Bool) (b_On : List T_api_Addr) (b_Off : List T_api_Addr) (Q : Bool → Prop) : Prop :=
  law08_Addrs_W a_On 6 (fun r_2 => law08_Addrs_W a_Off 6 (fun r_3 => law15_FilterSame_j1 a_Exclude a_On a_Off b_Exclude b_On b_Off Q r_2 r_3))
set_option maxHeartbeats 40000000 in
set_option maxRecDepth 100000 in
theorem law15_FilterSame_walk {F : Fz} {fr : List Ow} {h0 : Heap} (a_Exclude : Bool) (a_On : List T_api_Addr) (a_Off : List T_api_Addr) (b_Exclude : Bool) (b_On : List T_api_Addr) (b_Off : List T_api_Addr) (va_On : Value) (va_Off : Value) (vb_On : Value) (vb_Off : Value) (hS : St F (fr) h0) (hL_a_On : SliceF F h0 17 e_api_Addr va_On a_On) (hL_a_Off : SliceF F h0 17 e_api_Addr va_Off a_Off) (hL_b_On : SliceF F h0 17 e_api_Addr vb_On b_On) (hL_b_Off : SliceF F h0 17 e_api_Addr vb_Off b_Off) {Q : Bool → Prop} (hM : law15_FilterSame_W a_Exclude a_On a_Off b_Exclude b_On b_Off Q) :
    HC Try.prog 6 #[.agg #[.bool a_Exclude, va_On, va_Off], .agg #[.bool b_Exclude, vb_On, vb_Off]] h0 fun u h' => ∃ (F' : Fz) (r_1 : Bool), u = .bool r_1 ∧ Kp F h0 F' h' ∧ St F' (fr) h' ∧ (SliceF F' h' 17 e_api_Addr va_On a_On) ∧ (SliceF F' h' 17 e_api_Addr va_Off a_Off) ∧ (SliceF F' h' 17 e_api_Addr vb_On b_On) ∧ (SliceF F' h' 17 e_api_Addr vb_Off b_Off) ∧ Q r_1 := by
  unfold law15_FilterSame_W at hM
  have hK := Kp.refl F h0
  refine HC.of_HW (n := 43) Try.func6 rfl rfl (Nat.le_of_ble_eq_true rfl) ?_
  refine HW.seq ?_
  refine HW.region ?_
  refine HO.eff (want_none) rfl (st_box (c := #[.bool a_Exclude, va_On, va_Off]) (k' := 3) hS rfl rfl) ?_
  rintro _ h_1 ⟨b_1, rfl, hS, hk⟩
  replace hK := hK.trans hk
  replace hL_a_On := hL_a_On.kp hk
  replace hL_a_Off := hL_a_Off.kp hk
  replace hL_b_On := hL_b_On.kp hk
  replace hL_b_Off := hL_b_Off.kp hk
  refine HO.eff (want_none) rfl (st_box (c := #[.bool b_Exclude, vb_On, vb_Off]) (k' := 3) hS rfl rfl) ?_
  rintro _ h_2 ⟨b_2, rfl, hS, hk⟩
  replace hK := hK.trans hk
  replace hL_a_On := hL_a_On.kp hk
  replace hL_a_Off := hL_a_Off.kp hk
  replace hL_b_On := hL_b_On.kp hk
  replace hL_b_Off := hL_b_Off.kp hk
  refine HO.val (v := .bool false) (want_none) rfl (q_assign rfl) ?_
  refine HO.nil (thenQ_normal (?_))
  refine HW.seq_mid (fun f h => ∃ (F' : Fz) (x_1_1 : List T_api_Addr) (x_2_1 : List T_api_Addr) (b_3 : Nat) (vx_1_1 : Value) (vx_2_1 : Value), f 2 = .pointer (some ⟨b_1, 0, none⟩) ∧ f 3 = .pointer (some ⟨b_2, 0, none⟩) ∧ f 4 = .bool false ∧ f 5 = .pointer (some ⟨b_3, 0, none⟩) ∧ Kp F h0 F' h ∧ St F' (Ow.box b_1 24 #[.bool a_Exclude, va_On, va_Off] :: Ow.box b_2 24 #[.bool b_Exclude, vb_On, vb_Off] :: Ow.box b_3 24 #[.bool a_Exclude, vx_1_1, vx_2_1] :: Ow.own 34 17 e_api_Addr vx_1_1 x_1_1 :: Ow.own 34 17 e_api_Addr vx_2_1 x_2_1 :: fr) h ∧ (SliceF F' h 17 e_api_Addr va_On a_On) ∧ (SliceF F' h 17 e_api_Addr va_Off a_Off) ∧ (SliceF F' h 17 e_api_Addr vb_On b_On) ∧ (SliceF F' h 17 e_api_Addr vb_Off b_Off) ∧ law15_FilterSame_j1 a_Exclude a_On a_Off b_Exclude b_On b_Off Q x_1_1 x_2_1) ?_ ?_
  · refine HW.regionA 11 mixed (fun h => (Blk h b_1 (.cells #[.bool a_Exclude, va_On, va_Off] 24 (0, 0)))) [] (by kernel_rfl) ?_
    refine HA.val (k := 0) (v := .pointer (some ⟨b_1, 0, none⟩)) rfl rfl (by kernel_rfl) (by kernel_rfl) (want_none) rfl (fun _ c201 => q_fieldAddr fa_24_0 rfl rfl) ?_
    refine HA.val (k := 1) (v := .bool a_Exclude) rfl rfl (by kernel_rfl) (by kernel_rfl) (want_none) rfl (fun _ c201 => q_load to_4 rfl (Blk.cell c201 rfl)) ?_
    refine HA.val (k := 2) (v := .pointer (some ⟨b_1, 1, none⟩)) rfl rfl (by kernel_rfl) (by kernel_rfl) (want_none) rfl (fun _ c201 => q_fieldAddr fa_24_1 rfl rfl) ?_
    refine HA.val (k := 3) (v := va_On) rfl rfl (by kernel_rfl) (by kernel_rfl) (want_none) rfl (fun _ c201 => q_load to_22 rfl (Blk.cell c201 rfl)) ?_
    refine HA.val (k := 5) (v := .pointer (some ⟨b_1, 2, none⟩)) rfl rfl (by kernel_rfl) (by kernel_rfl) (want_none) rfl (fun _ c201 => q_fieldAddr fa_24_2 rfl rfl) ?_
    refine HA.val (k := 6) (v := va_Off) rfl rfl (by kernel_rfl) (by kernel_rfl) (want_none) rfl (fun _ c201 => q_load to_22 rfl (Blk.cell c201 rfl)) ?_
    refine HA.two (k := 4) (k' := 9) ⟨(hS.box 1 rfl), (Go.Wk.at_nil _ _)⟩ (by kernel_rfl) ?_ ?_
    · refine HS.call rfl (want_none) rfl (ec en_9 rfl rfl) (law08_Addrs_walk (fr := (Ow.box b_2 24 #[.bool b_Exclude, vb_On, vb_Off] :: Ow.box b_1 24 #[.bool a_Exclude, va_On, va_Off] :: fr)) a_On 6 va_On hS hL_a_On hM) ?_
      rintro vr_1 h_3 ⟨F_1, r_2, _, rfl, hk, hS, _, hM⟩
      replace hK := hK.trans hk
      replace hL_a_On := hL_a_On.kp hk
      replace hL_a_Off := hL_a_Off.kp hk
      replace hL_b_On := hL_b_On.kp hk
      replace hL_b_Off := hL_b_Off.kp hk
      refine Go.Wk.HA.re (fun h => (OwnIs h 0 34 17 e_api_Addr vr_1 r_2) ∧ (Blk h b_1 (.cells #[.bool a_Exclude, va_On, va_Off] 24 (0, 0)))) [] (fun L_ h_ hL_ ⟨c232, c201⟩ hs_ => ⟨c201, (Go.Wk.at_nil _ _)⟩) ?_
      refine HA.two (k := 7) (k' := 9) ⟨⟨(hS.own 0 rfl), (hS.box 2 rfl)⟩, (Go.Wk.at_nil _ _)⟩ (by kernel_rfl) ?_ ?_
      · refine HS.call rfl (want_none) rfl (ec en_9 rfl rfl) (law08_Addrs_walk (fr := (Ow.own 34 17 e_api_Addr vr_1 r_2 :: Ow.box b_2 24 #[.bool b_Exclude, vb_On, vb_Off] :: Ow.box b_1 24 #[.bool a_Exclude, va_On, va_Off] :: fr)) a_Off 6 va_Off hS hL_a_Off hM) ?_
        rintro vr_2 h_4 ⟨F_2, r_3, _, rfl, hk, hS, _, hM⟩
        replace hK := hK.trans hk
        replace hL_a_On := hL_a_On.kp hk
        replace hL_a_Off := hL_a_Off.kp hk
        replace hL_b_On := hL_b_On.kp hk
        replace hL_b_Off := hL_b_Off.kp hk
        refine Go.Wk.HA.re (fun h => (OwnIs h 0 34 17 e_api_Addr vr_2 r_3) ∧ (OwnIs h 0 34 17 e_api_Addr vr_1 r_2) ∧ (Blk h b_1 (.cells #[.bool a_Exclude, va_On, va_Off] 24 (0, 0)))) [] (fun L_ h_ hL_ ⟨c250, c232, c201⟩ hs_ => ⟨⟨c232, c201⟩, (Go.Wk.at_nil _ _)⟩) ?_
        refine HA.val (k := 8) (v := .agg #[.bool a_Exclude, vr_1, vr_2]) rfl rfl (by kernel_rfl) (by kernel_rfl) (want_none) rfl (fun _ ⟨c250, c232, c201⟩ => q_build tp_24 (fill_cons (cs' := #[.bool a_Exclude, .slice none 0 0, .slice none 0 0]) (vc := #[.bool a_Exclude]) rfl rfl rfl (Nat.le_of_ble_eq_true rfl) rfl (fill_cons (cs' := #[.bool a_Exclude, vr_1, .slice none 0 0]) (vc := #[vr_1]) rfl (shp c232.slice).cells rfl (Nat.le_of_ble_eq_true rfl) rfl (fill_cons (cs' := #[.bool a_Exclude, vr_1, vr_2]) (vc := #[vr_2]) rfl (shp c250.slice).cells rfl (Nat.le_of_ble_eq_true rfl) rfl rfl)))) ?_
        refine HA.one (k := 9) ⟨⟨(hS.own 0 rfl), (hS.own 1 rfl), (hS.box 3 rfl)⟩, (Go.Wk.at_nil _ _)⟩ (by kernel_rfl) ?_
        refine HS.eff rfl (want_none) rfl (st_alloc (c := #[.bool false, .slice none 0 0, .slice none 0 0]) hS tz_24 rfl) ?_
        rintro _ h_5 ⟨b_4, rfl, hS, hk⟩
        replace hK := hK.trans hk
        replace hL_a_On := hL_a_On.kp hk
        replace hL_a_Off := hL_a_Off.kp hk
        replace hL_b_On := hL_b_On.kp hk
        replace hL_b_Off := hL_b_Off.kp hk
        refine HA.one (k := 10) ⟨⟨(hS.own 1 rfl), (hS.own 2 rfl), (hS.box 4 rfl)⟩, (Go.Wk.at_nil _ _)⟩ (by kernel_rfl) ?_
        refine HS.sto rfl (want_none) rfl (st_storeAgg (c' := #[.bool a_Exclude, vr_1, vr_2]) hS (i := 0) rfl ta_24 rfl rfl rfl (List.forall_mem_cons.2 ⟨rfl, (List.forall_mem_cons.2 ⟨(shp (hS.own 2 rfl).slice).one, (List.forall_mem_cons.2 ⟨(shp (hS.own 1 rfl).slice).one, (fun _ h => by cases h)⟩)⟩)⟩) (Nat.le_of_ble_eq_true rfl) rfl) ?_
        rintro h_6 ⟨hS, hk⟩
        replace hS : St F_2 (Ow.box b_4 24 #[.bool a_Exclude, vr_1, vr_2] :: Ow.own 34 17 e_api_Addr vr_2 r_3 :: Ow.own 34 17 e_api_Addr vr_1 r_2 :: Ow.box b_2 24 #[.bool b_Exclude, vb_On, vb_Off] :: Ow.box b_1 24 #[.bool a_Exclude, va_On, va_Off] :: fr) h_6 := hS
        replace hK := hK.trans hk
        replace hL_a_On := hL_a_On.kp hk
        replace hL_a_Off := hL_a_Off.kp hk
        replace hL_b_On := hL_b_On.kp hk
        replace hL_b_Off := hL_b_Off.kp hk
        refine HA.nil ⟨⟨(hS.own 1 rfl), (hS.own 2 rfl), (hS.box 4 rfl)⟩, (Go.Wk.at_nil _ _)⟩ (by kernel_rfl) (thenQ_normal (?_))
        replace hS : St F_2 (Ow.box b_1 24 #[.bool a_Exclude, va_On, va_Off] :: Ow.box b_2 24 #[.bool b_Exclude, vb_On, vb_Off] :: Ow.box b_4 24 #[.bool a_Exclude, vr_1, vr_2] :: Ow.own 34 17 e_api_Addr vr_1 r_2 :: Ow.own 34 17 e_api_Addr vr_2 r_3 :: fr) h_6 := hS.perm2 [4, 3, 0, 2, 1] 5 rfl rfl
        exact ⟨F_2, r_2, r_3, b_4, vr_1, vr_2, rfl, rfl, rfl, rfl, hK, hS, hL_a_On, hL_a_Off, hL_b_On, hL_b_Off, hM⟩
      · refine HS.eff rfl (want_none) rfl (st_alloc (c := #[.bool false, .slice none 0 0, .slice none 0 0]) hS tz_24 rfl) ?_
        rintro _ h_4 ⟨b_4, rfl, hS, hk⟩
        replace hK := hK.trans hk
        replace hL_a_On := hL_a_On.kp hk
        replace hL_a_Off := hL_a_Off.kp hk
        replace hL_b_On := hL_b_On.kp hk
        replace hL_b_Off := hL_b_Off.kp hk
        refine HA.one (k := 7) ⟨⟨(hS.own 1 rfl), (hS.box 3 rfl)⟩, (Go.Wk.at_nil _ _)⟩ (by kernel_rfl) ?_
        refine HS.call rfl (want_none) rfl (ec en_9 rfl rfl) (law08_Addrs_walk (fr := (Ow.box b_4 24 #[.bool false, .slice none 0 0, .slice none 0 0] :: Ow.own 34 17 e_api_Addr vr_1 r_2 :: Ow.box b_2 24 #[.bool b_Exclude, vb_On, vb_Off] :: Ow.box b_1 24 #[.bool a_Exclude, va_On, va_Off] :: fr)) a_Off 6 va_Off hS hL_a_Off hM) ?_
        rintro vr_2 h_5 ⟨F_2, r_3, _, rfl, hk, hS, _, hM⟩
        replace hK := hK.trans hk
        replace hL_a_On := hL_a_On.kp hk
        replace hL_a_Off := hL_a_Off.kp hk
        replace hL_b_On := hL_b_On.kp hk
        replace hL_b_Off := hL_b_Off.kp hk
        refine Go.Wk.HA.re (fun h => (OwnIs h 0 34 17 e_api_Addr vr_2 r_3) ∧ (OwnIs h 0 34 17 e_api_Addr vr_1 r_2) ∧ (Blk h b_1 (.cells #[.bool a_Exclude, va_On, va_Off] 24 (0, 0)))) [] (fun L_ h_ hL_ ⟨c250, c232, c201⟩ hs_ => ⟨⟨c232, c201⟩, (Go.Wk.at_nil _ _)⟩) ?_
        refine HA.val (k := 8) (v := .agg #[.bool a_Exclude, vr_1, vr_2]) rfl rfl (by kernel_rfl) (by kernel_rfl) (want_none) rfl (fun _ ⟨c250, c232, c201⟩ => q_build tp_24 (fill_cons (cs' := #[.bool a_Exclude, .slice none 0 0, .slice none 0 0]) (vc := #[.bool a_Exclude]) rfl rfl rfl (Nat.le_of_ble_eq_true rfl) rfl (fill_cons (cs' := #[.bool a_Exclude, vr_1, .slice none 0 0]) (vc := #[vr_1]) rfl (shp c232.slice).cells rfl (Nat.le_of_ble_eq_true rfl) rfl (fill_cons (cs' := #[.bool a_Exclude, vr_1, vr_2]) (vc := #[vr_2]) rfl (shp c250.slice).cells rfl (Nat.le_of_ble_eq_true rfl) rfl rfl)))) ?_
        refine HA.one (k := 10) ⟨⟨(hS.own 0 rfl), (hS.own 2 rfl), (hS.box 4 rfl)⟩, (Go.Wk.at_nil _ _)⟩ (by kernel_rfl) ?_
        refine HS.sto rfl (want_none) rfl (st_storeAgg (c' := #[.bool a_Exclude, vr_1, vr_2]) hS (i := 1) rfl ta_24 rfl rfl rfl (List.forall_mem_cons.2 ⟨rfl, (List.forall_mem_cons.2 ⟨(shp (hS.own 2 rfl).slice).one, (List.forall_mem_cons.2 ⟨(shp (hS.own 0 rfl).slice).one, (fun _ h => by cases h)⟩)⟩)⟩) (Nat.le_of_ble_eq_true rfl) rfl) ?_
        rintro h_6 ⟨hS, hk⟩
        replace hS : St F_2 (Ow.own 34 17 e_api_Addr vr_2 r_3 :: Ow.box b_4 24 #[.bool a_Exclude, vr_1, vr_2] :: Ow.own 34 17 e_api_Addr vr_1 r_2 :: Ow.box b_2 24 #[.bool b_Exclude, vb_On, vb_Off] :: Ow.box b_1 24 #[.bool a_Exclude, va_On, va_Off] :: fr) h_6 := hS
        replace hK := hK.trans hk
        replace hL_a_On := hL_a_On.kp hk
        replace hL_a_Off := hL_a_Off.kp hk
        replace hL_b_On := hL_b_On.kp hk
        replace hL_b_Off := hL_b_Off.kp hk
        refine HA.nil ⟨⟨(hS.own 0 rfl), (hS.own 2 rfl), (hS.box 4 rfl)⟩, (Go.Wk.at_nil _ _)⟩ (by kernel_rfl) (thenQ_normal (?_))
        replace hS : St F_2 (Ow.box b_1 24 #[.bool a_Exclude, va_On, va_Off] :: Ow.box b_2 24 #[.bool b_Exclude, vb_On, vb_Off] :: Ow.box b_4 24 #[.bool a_Exclude, vr_1, vr_2] :: Ow.own 34 17 e_api_Addr vr_1 r_2 :: Ow.own 34 17 e_api_Addr vr_2 r_3 :: fr) h_6 := hS.perm2 [4, 3, 1, 2, 0] 5 rfl rfl
        exact ⟨F_2, r_2, r_3, b_4, vr_1, vr_2, rfl, rfl, rfl, rfl, hK, hS, hL_a_On, hL_a_Off, hL_b_On, hL_b_Off, hM⟩
    · refine HS.eff rfl (want_none) rfl (st_alloc (c := #[.bool false, .slice none 0 0, .slice none 0 0]) hS tz_24 rfl) ?_
      rintro _ h_3 ⟨b_4, rfl, hS, hk⟩
      replace hK := hK.trans hk
      replace hL_a_On := hL_a_On.kp hk
      replace hL_a_Off := hL_a_Off.kp hk
      replace hL_b_On := hL_b_On.kp hk
      replace hL_b_Off := hL_b_Off.kp hk
      refine HA.one (k := 4) ⟨(hS.box 2 rfl), (Go.Wk.at_nil _ _)⟩ (by kernel_rfl) ?_
      refine HS.call rfl (want_none) rfl (ec en_9 rfl rfl) (law08_Addrs_walk (fr := (Ow.box b_4 24 #[.bool false, .slice none 0 0, .slice none 0 0] :: Ow.box b_2 24 #[.bool b_Exclude, vb_On, vb_Off] :: Ow.box b_1 24 #[.bool a_Exclude, va_On, va_Off] :: fr)) a_On 6 va_On hS hL_a_On hM) ?_
      rintro vr_1 h_4 ⟨F_1, r_2, _, rfl, hk, hS, _, hM⟩
      replace hK := hK.trans hk
      replace hL_a_On := hL_a_On.kp hk
      replace hL_a_Off := hL_a_Off.kp hk
      replace hL_b_On := hL_b_On.kp hk
      replace hL_b_Off := hL_b_Off.kp hk
      refine Go.Wk.HA.re (fun h => (OwnIs h 0 34 17 e_api_Addr vr_1 r_2) ∧ (Blk h b_1 (.cells #[.bool a_Exclude, va_On, va_Off] 24 (0, 0)))) [] (fun L_ h_ hL_ ⟨c232, c201⟩ hs_ => ⟨c201, (Go.Wk.at_nil _ _)⟩) ?_
      refine HA.one (k := 7) ⟨⟨(hS.own 0 rfl), (hS.box 3 rfl)⟩, (Go.Wk.at_nil _ _)⟩ (by kernel_rfl) ?_
      refine HS.call rfl (want_none) rfl (ec en_9 rfl rfl) (law08_Addrs_walk (fr := (Ow.own 34 17 e_api_Addr vr_1 r_2 :: Ow.box b_4 24 #[.bool false, .slice none 0 0, .slice none 0 0] :: Ow.box b_2 24 #[.bool b_Exclude, vb_On, vb_Off] :: Ow.box b_1 24 #[.bool a_Exclude, va_On, va_Off] :: fr)) a_Off 6 va_Off hS hL_a_Off hM) ?_
      rintro vr_2 h_5 ⟨F_2, r_3, _, rfl, hk, hS, _, hM⟩
      replace hK := hK.trans hk
      replace hL_a_On := hL_a_On.kp hk
      replace hL_a_Off := hL_a_Off.kp hk
      replace hL_b_On := hL_b_On.kp hk
      replace hL_b_Off := hL_b_Off.kp hk
      refine Go.Wk.HA.re (fun h => (OwnIs h 0 34 17 e_api_Addr vr_2 r_3) ∧ (OwnIs h 0 34 17 e_api_Addr vr_1 r_2) ∧ (Blk h b_1 (.cells #[.bool a_Exclude, va_On, va_Off] 24 (0, 0)))) [] (fun L_ h_ hL_ ⟨c250, c232, c201⟩ hs_ => ⟨⟨c232, c201⟩, (Go.Wk.at_nil _ _)⟩) ?_
      refine HA.val (k := 8) (v := .agg #[.bool a_Exclude, vr_1, vr_2]) rfl rfl (by kernel_rfl) (by kernel_rfl) (want_none) rfl (fun _ ⟨c250, c232, c201⟩ => q_build tp_24 (fill_cons (cs' := #[.bool a_Exclude, .slice none 0 0, .slice none 0 0]) (vc := #[.bool a_Exclude]) rfl rfl rfl (Nat.le_of_ble_eq_true rfl) rfl (fill_cons (cs' := #[.bool a_Exclude, vr_1, .slice none 0 0]) (vc := #[vr_1]) rfl (shp c232.slice).cells rfl (Nat.le_of_ble_eq_true rfl) rfl (fill_cons (cs' := #[.bool a_Exclude, vr_1, vr_2]) (vc := #[vr_2]) rfl (shp c250.slice).cells rfl (Nat.le_of_ble_eq_true rfl) rfl rfl)))) ?_
      refine HA.one (k := 10) ⟨⟨(hS.own 0 rfl), (hS.own 1 rfl), (hS.box 4 rfl)⟩, (Go.Wk.at_nil _ _)⟩ (by kernel_rfl) ?_
      refine HS.sto rfl (want_none) rfl (st_storeAgg (c' := #[.bool a_Exclude, vr_1, vr_2]) hS (i := 2) rfl ta_24 rfl rfl rfl (List.forall_mem_cons.2 ⟨rfl, (List.forall_mem_cons.2 ⟨(shp (hS.own 1 rfl).slice).one, (List.forall_mem_cons.2 ⟨(shp (hS.own 0 rfl).slice).one, (fun _ h => by cases h)⟩)⟩)⟩) (Nat.le_of_ble_eq_true rfl) rfl) ?_
      rintro h_6 ⟨hS, hk⟩
      replace hS : St F_2 (Ow.own 34 17 e_api_Addr vr_2 r_3 :: Ow.own 34 17 e_api_Addr vr_1 r_2 :: Ow.box b_4 24 #[.bool a_Exclude, vr_1, vr_2] :: Ow.box b_2 24 #[.bool b_Exclude, vb_On, vb_Off] :: Ow.box b_1 24 #[.bool a_Exclude, va_On, va_Off] :: fr) h_6 := hS
      replace hK := hK.trans hk
      replace hL_a_On := hL_a_On.kp hk
      replace hL_a_Off := hL_a_Off.kp hk
      replace hL_b_On := hL_b_On.kp hk
      replace hL_b_Off := hL_b_Off.kp hk
      refine HA.nil ⟨⟨(hS.own 0 rfl), (hS.own 1 rfl), (hS.box 4 rfl)⟩, (Go.Wk.at_nil _ _)⟩ (by kernel_rfl) (thenQ_normal (?_))
      replace hS : St F_2 (Ow.box b_1 24 #[.bool a_Exclude, va_On, va_Off] :: Ow.box b_2 24 #[.bool b_Exclude, vb_On, vb_Off] :: Ow.box b_4 24 #[.bool a_Exclude, vr_1, vr_2] :: Ow.own 34 17 e_api_Addr vr_1 r_2 :: Ow.own 34 17 e_api_Addr vr_2 r_3 :: fr) h_6 := hS.perm2 [4, 3, 2, 1, 0] 5 rfl rfl
      exact ⟨F_2, r_2, r_3, b_4, vr_1, vr_2, rfl, rfl, rfl, rfl, hK, hS, hL_a_On, hL_a_Off, hL_b_On, hL_b_Off, hM⟩
  · rintro f_1 h_7 ⟨F_3, x_1_1, x_2_1, b_3, vx_1_1, vx_2_1, e2, e3, e4, e5, hK, hS, hL_a_On, hL_a_Off, hL_b_On, hL_b_Off, hM⟩
    unfold law15_FilterSame_j1 at hM
    refine HW.fr [(2, .pointer (some ⟨b_1, 0, none⟩)), (3, .pointer (some ⟨b_2, 0, none⟩)), (4, .bool false), (5, .pointer (some ⟨b_3, 0, none⟩))] ⟨e2, e3, e4, e5, trivial⟩ ?_
    refine HW.seq ?_
    refine HW.regionA 29 mixed (fun h => (Blk h b_1 (.cells #[.bool a_Exclude, va_On, va_Off] 24 (0, 0))) ∧ (Blk h b_2 (.cells #[.bool b_Exclude, vb_On, vb_Off] 24 (0, 0))) ∧ (Blk h b_3 (.cells #[.bool a_Exclude, vx_1_1, vx_2_1] 24 (0, 0)))) [] (by kernel_rfl) ?_
    refine HA.val (k := 0) (v := .agg #[.bool a_Exclude, vx_1_1, vx_2_1]) rfl rfl (by kernel_rfl) (by kernel_rfl) (want_none) rfl (fun _ ⟨c203, c204, c205⟩ => q_loadAgg (cs := [.bool a_Exclude, vx_1_1, vx_2_1]) ta_24 rfl rfl (Blk.cells (k := 3) c205 rfl)) ?_
    refine HA.val (k := 2) (v := .agg #[.bool a_Exclude, vx_1_1, vx_2_1]) rfl rfl (by kernel_rfl) (by kernel_rfl) (want_none) rfl (fun _ ⟨c203, c204, c205⟩ => q_loadAgg (cs := [.bool a_Exclude, vx_1_1, vx_2_1]) ta_24 rfl rfl (Blk.cells (k := 3) c205 rfl)) ?_
    refine HA.one (k := 1) ⟨⟨(hS.box 0 rfl), (hS.box 1 rfl), (hS.box 2 rfl)⟩, (Go.Wk.at_nil _ _)⟩ (by kernel_rfl) ?_
    replace hS : St F_3 (Ow.own 34 17 e_api_Addr vx_1_1 x_1_1 :: Ow.box b_1 24 #[.bool a_Exclude, va_On, va_Off] :: Ow.box b_2 24 #[.bool b_Exclude, vb_On, vb_Off] :: Ow.box b_3 24 #[.bool a_Exclude, vx_1_1, vx_2_1] :: Ow.own 34 17 e_api_Addr vx_2_1 x_2_1 :: fr) h_7 := hS.perm2 [3, 0, 1, 2, 4] 5 rfl rfl
    have hZ_1 := hS
    have hkz_1 := (hS.freeze).2
    replace hS := hS.freeze.1
    have hL_1 : SliceF (fun b => F_3 b ∨ (Ow.own 34 17 e_api_Addr vx_1_1 x_1_1).foot b) h_7 17 e_api_Addr vx_1_1 x_1_1 := ⟨(hZ_1.own 0 rfl).slice, fun _ b hb => .inr hb⟩
    replace hS : St (fun b => F_3 b ∨ (Ow.own 34 17 e_api_Addr vx_1_1 x_1_1).foot b) (Ow.own 34 17 e_api_Addr vx_2_1 x_2_1 :: Ow.box b_1 24 #[.bool a_Exclude, va_On, va_Off] :: Ow.box b_2 24 #[.bool b_Exclude, vb_On, vb_Off] :: Ow.box b_3 24 #[.bool a_Exclude, vx_1_1, vx_2_1] :: fr) h_7 := hS.perm2 [3, 0, 1, 2] 4 rfl rfl
    have hZ_2 := hS
    have hkz_2 := (hS.freeze).2
    replace hS := hS.freeze.1
    have hL_2 : SliceF (fun b => (fun b => F_3 b ∨ (Ow.own 34 17 e_api_Addr vx_1_1 x_1_1).foot b) b ∨ (Ow.own 34 17 e_api_Addr vx_2_1 x_2_1).foot b) h_7 17 e_api_Addr vx_2_1 x_2_1 := ⟨(hZ_2.own 0 rfl).slice, fun _ b hb => .inr hb⟩
    refine HS.call rfl (want_none) rfl (ec en_18 rfl rfl) (filter_Good_walk (fr := (Ow.box b_1 24 #[.bool a_Exclude, va_On, va_Off] :: Ow.box b_2 24 #[.bool b_Exclude, vb_On, vb_Off] :: Ow.box b_3 24 #[.bool a_Exclude, vx_1_1, vx_2_1] :: fr)) a_Exclude x_1_1 x_2_1 vx_1_1 vx_2_1 hS (hL_1.kp hkz_2) hL_2 hM) ?_
    rintro _ h_8 ⟨F_4, r_4, rfl, hk, hS, _, _, hM⟩
    obtain ⟨hS, hk⟩ := hZ_2.back hk hS
    obtain ⟨hS, hk⟩ := hZ_1.back hk hS
    generalize (fun b => (fun b => F_4 b ∧ ¬ (Ow.own 34 17 e_api_Addr vx_2_1 x_2_1).foot b) b ∧ ¬ (Ow.own 34 17 e_api_Addr vx_1_1 x_1_1).foot b) = F_5 at hS hk
    replace hK := hK.trans hk
    replace hL_a_On := hL_a_On.kp hk
    replace hL_a_Off := hL_a_Off.kp hk
    replace hL_b_On := hL_b_On.kp hk
    replace hL_b_Off := hL_b_Off.kp hk
    refine HA.one (k := 3) ⟨⟨(hS.box 2 rfl), (hS.box 3 rfl), (hS.box 4 rfl)⟩, (Go.Wk.at_nil _ _)⟩ (by kernel_rfl) ?_
    have hZ_3 := hS
    have hkz_3 := (hS.freeze).2
    replace hS := hS.freeze.1
    have hL_3 : SliceF (fun b => F_5 b ∨ (Ow.own 34 17 e_api_Addr vx_1_1 x_1_1).foot b) h_8 17 e_api_Addr vx_1_1 x_1_1 := ⟨(hZ_3.own 0 rfl).slice, fun _ b hb => .inr hb⟩
    have hZ_4 := hS
    have hkz_4 := (hS.freeze).2
    replace hS := hS.freeze.1
    have hL_4 : SliceF (fun b => (fun b => F_5 b ∨ (Ow.own 34 17 e_api_Addr vx_1_1 x_1_1).foot b) b ∨ (Ow.own 34 17 e_api_Addr vx_2_1 x_2_1).foot b) h_8 17 e_api_Addr vx_2_1 x_2_1 := ⟨(hZ_4.own 0 rfl).slice, fun _ b hb => .inr hb⟩
    refine HS.call rfl (want_none) rfl (ec en_26 rfl rfl) (ref15_Good_walk (fr := (Ow.box b_1 24 #[.bool a_Exclude, va_On, va_Off] :: Ow.box b_2 24 #[.bool b_Exclude, vb_On, vb_Off] :: Ow.box b_3 24 #[.bool a_Exclude, vx_1_1, vx_2_1] :: fr)) a_Exclude x_1_1 x_2_1 vx_1_1 vx_2_1 hS (hL_3.kp hkz_4) hL_4 hM) ?_
    rintro _ h_9 ⟨F_6, r_5, rfl, hk, hS, _, _, hM⟩
    obtain ⟨hS, hk⟩ := hZ_4.back hk hS
    obtain ⟨hS, hk⟩ := hZ_3.back hk hS
    generalize (fun b => (fun b => F_6 b ∧ ¬ (Ow.own 34 17 e_api_Addr vx_2_1 x_2_1).foot b) b ∧ ¬ (Ow.own 34 17 e_api_Addr vx_1_1 x_1_1).foot b) = F_7 at hS hk
    replace hK := hK.trans hk
    replace hL_a_On := hL_a_On.kp hk
    replace hL_a_Off := hL_a_Off.kp hk
    replace hL_b_On := hL_b_On.kp hk
    replace hL_b_Off := hL_b_Off.kp hk
    refine HA.val (k := 4) (v := .bool (r_4 == r_5)) rfl rfl (by kernel_rfl) (by kernel_rfl) (want_none) rfl (fun _ ⟨c203, c204, c205⟩ => q_eqlB Try.underlying4 rfl rfl) ?_
    refine HA.val (k := 5) (v := .bool (r_4 == r_5)) rfl rfl (by kernel_rfl) (by kernel_rfl) (want_none) rfl (fun _ ⟨c203, c204, c205⟩ => q_move rfl) ?_
    rcases Bool.eq_false_or_eq_true (r_4 == r_5) with c_1 | c_1
    · replace hM := hM.1 c_1
      refine HA.val (k := 6) (v := .agg #[.bool a_Exclude, va_On, va_Off]) rfl rfl (by kernel_rfl) (by kernel_rfl) (want_by rfl rfl c_1) rfl (fun _ ⟨c203, c204, c205⟩ => q_loadAgg (cs := [.bool a_Exclude, va_On, va_Off]) ta_24 rfl rfl (Blk.cells (k := 3) c203 rfl)) ?_
      refine HA.val (k := 8) (v := .agg #[.bool b_Exclude, vb_On, vb_Off]) rfl rfl (by kernel_rfl) (by kernel_rfl) (want_by rfl rfl c_1) rfl (fun _ ⟨c203, c204, c205⟩ => q_loadAgg (cs := [.bool b_Exclude, vb_On, vb_Off]) ta_24 rfl rfl (Blk.cells (k := 3) c204 rfl)) ?_
      refine HA.val (k := 11) (v := .agg #[.bool a_Exclude, va_On, va_Off]) rfl rfl (by kernel_rfl) (by kernel_rfl) (want_by rfl rfl c_1) rfl (fun _ ⟨c203, c204, c205⟩ => q_loadAgg (cs := [.bool a_Exclude, va_On, va_Off]) ta_24 rfl rfl (Blk.cells (k := 3) c203 rfl)) ?_
      refine HA.val (k := 13) (v := .agg #[.bool b_Exclude, vb_On, vb_Off]) rfl rfl (by kernel_rfl) (by kernel_rfl) (want_by rfl rfl c_1) rfl (fun _ ⟨c203, c204, c205⟩ => q_loadAgg (cs := [.bool b_Exclude, vb_On, vb_Off]) ta_24 rfl rfl (Blk.cells (k := 3) c204 rfl)) ?_
      refine HA.one (k := 7) ⟨⟨(hS.box 2 rfl), (hS.box 3 rfl), (hS.box 4 rfl)⟩, (Go.Wk.at_nil _ _)⟩ (by kernel_rfl) ?_
      refine HS.call rfl (want_by rfl rfl c_1) rfl (ec en_7 rfl rfl) (law15_Few_walk (fr := (Ow.own 34 17 e_api_Addr vx_1_1 x_1_1 :: Ow.own 34 17 e_api_Addr vx_2_1 x_2_1 :: Ow.box b_1 24 #[.bool a_Exclude, va_On, va_Off] :: Ow.box b_2 24 #[.bool b_Exclude, vb_On, vb_Off] :: Ow.box b_3 24 #[.bool a_Exclude, vx_1_1, vx_2_1] :: fr)) a_Exclude a_On a_Off va_On va_Off hS hL_a_On hL_a_Off hM) ?_
      rintro _ h_10 ⟨F_8, r_0_1, r_1_1, r_2_1, vr_1_1, vr_2_1, rfl, hk, hS, _, _, hL_5, hM⟩
      replace hK := hK.trans hk
      replace hL_a_On := hL_a_On.kp hk
      replace hL_a_Off := hL_a_Off.kp hk
      replace hL_b_On := hL_b_On.kp hk
      replace hL_b_Off := hL_b_Off.kp hk
      refine HA.one (k := 9) ⟨⟨(hS.box 3 rfl), (hS.box 4 rfl), (hS.box 5 rfl)⟩, (Go.Wk.at_nil _ _)⟩ (by kernel_rfl) ?_
      refine HS.call rfl (want_by rfl rfl c_1) rfl (ec en_7 rfl rfl) (law15_Few_walk (fr := (Ow.own 34 17 e_api_Addr vr_2_1 r_2_1 :: Ow.own 34 17 e_api_Addr vx_1_1 x_1_1 :: Ow.own 34 17 e_api_Addr vx_2_1 x_2_1 :: Ow.box b_1 24 #[.bool a_Exclude, va_On, va_Off] :: Ow.box b_2 24 #[.bool b_Exclude, vb_On, vb_Off] :: Ow.box b_3 24 #[.bool a_Exclude, vx_1_1, vx_2_1] :: fr)) b_Exclude b_On b_Off vb_On vb_Off hS hL_b_On hL_b_Off hM) ?_
      rintro _ h_11 ⟨F_9, r_0_2, r_1_2, r_2_2, vr_1_2, vr_2_2, rfl, hk, hS, _, _, hL_6, hM⟩
      replace hK := hK.trans hk
      replace hL_a_On := hL_a_On.kp hk
      replace hL_a_Off := hL_a_Off.kp hk
      replace hL_b_On := hL_b_On.kp hk
      replace hL_b_Off := hL_b_Off.kp hk
      replace hL_5 := hL_5.kp hk
      refine HA.one (k := 10) ⟨⟨(hS.box 4 rfl), (hS.box 5 rfl), (hS.box 6 rfl)⟩, (Go.Wk.at_nil _ _)⟩ (by kernel_rfl) ?_
      replace hS : St F_9 (Ow.own 34 17 e_api_Addr vr_2_1 r_2_1 :: Ow.own 34 17 e_api_Addr vr_2_2 r_2_2 :: Ow.own 34 17 e_api_Addr vx_1_1 x_1_1 :: Ow.own 34 17 e_api_Addr vx_2_1 x_2_1 :: Ow.box b_1 24 #[.bool a_Exclude, va_On, va_Off] :: Ow.box b_2 24 #[.bool b_Exclude, vb_On, vb_Off] :: Ow.box b_3 24 #[.bool a_Exclude, vx_1_1, vx_2_1] :: fr) h_11 := hS.perm2 [1, 0, 2, 3, 4, 5, 6] 7 rfl rfl
      have hZ_5 := hS
      have hkz_5 := (hS.freeze).2
      replace hS := hS.freeze.1
      have hL_7 : SliceF (fun b => F_9 b ∨ (Ow.own 34 17 e_api_Addr vr_2_1 r_2_1).foot b) h_11 17 e_api_Addr vr_2_1 r_2_1 := ⟨(hZ_5.own 0 rfl).slice, fun _ b hb => .inr hb⟩
      have hZ_6 := hS
      have hkz_6 := (hS.freeze).2
      replace hS := hS.freeze.1
      have hL_8 : SliceF (fun b => (fun b => F_9 b ∨ (Ow.own 34 17 e_api_Addr vr_2_1 r_2_1).foot b) b ∨ (Ow.own 34 17 e_api_Addr vr_2_2 r_2_2).foot b) h_11 17 e_api_Addr vr_2_2 r_2_2 := ⟨(hZ_6.own 0 rfl).slice, fun _ b hb => .inr hb⟩
      refine HS.call rfl (want_by rfl rfl c_1) rfl (ec en_27 rfl rfl) (filter_Same_walk (fr := (Ow.own 34 17 e_api_Addr vx_1_1 x_1_1 :: Ow.own 34 17 e_api_Addr vx_2_1 x_2_1 :: Ow.box b_1 24 #[.bool a_Exclude, va_On, va_Off] :: Ow.box b_2 24 #[.bool b_Exclude, vb_On, vb_Off] :: Ow.box b_3 24 #[.bool a_Exclude, vx_1_1, vx_2_1] :: fr)) r_0_1 r_1_1 r_2_1 r_0_2 r_1_2 r_2_2 vr_1_1 vr_2_1 vr_1_2 vr_2_2 hS ((hL_5.kp hkz_5).kp hkz_6) (hL_7.kp hkz_6) ((hL_6.kp hkz_5).kp hkz_6) hL_8 hM) ?_
      rintro _ h_12 ⟨F_10, r_6, rfl, hk, hS, _, _, _, _, hM⟩
      obtain ⟨hS, hk⟩ := hZ_6.back hk hS
      obtain ⟨hS, hk⟩ := hZ_5.back hk hS
      generalize (fun b => (fun b => F_10 b ∧ ¬ (Ow.own 34 17 e_api_Addr vr_2_2 r_2_2).foot b) b ∧ ¬ (Ow.own 34 17 e_api_Addr vr_2_1 r_2_1).foot b) = F_11 at hS hk
      replace hK := hK.trans hk
      replace hL_a_On := hL_a_On.kp hk
      replace hL_a_Off := hL_a_Off.kp hk
      replace hL_b_On := hL_b_On.kp hk
      replace hL_b_Off := hL_b_Off.kp hk
      replace hL_5 := hL_5.kp hk
      replace hL_6 := hL_6.kp hk
      refine HA.one (k := 12) ⟨⟨(hS.box 4 rfl), (hS.box 5 rfl), (hS.box 6 rfl)⟩, (Go.Wk.at_nil _ _)⟩ (by kernel_rfl) ?_
      refine HS.call rfl (want_by rfl rfl c_1) rfl (ec en_7 rfl rfl) (law15_Few_walk (fr := (Ow.own 34 17 e_api_Addr vr_2_1 r_2_1 :: Ow.own 34 17 e_api_Addr vr_2_2 r_2_2 :: Ow.own 34 17 e_api_Addr vx_1_1 x_1_1 :: Ow.own 34 17 e_api_Addr vx_2_1 x_2_1 :: Ow.box b_1 24 #[.bool a_Exclude, va_On, va_Off] :: Ow.box b_2 24 #[.bool b_Exclude, vb_On, vb_Off] :: Ow.box b_3 24 #[.bool a_Exclude, vx_1_1, vx_2_1] :: fr)) a_Exclude a_On a_Off va_On va_Off hS hL_a_On hL_a_Off hM) ?_
      rintro _ h_13 ⟨F_12, r_0_3, r_1_3, r_2_3, vr_1_3, vr_2_3, rfl, hk, hS, _, _, hL_9, hM⟩
      replace hK := hK.trans hk
      replace hL_a_On := hL_a_On.kp hk
      replace hL_a_Off := hL_a_Off.kp hk
      replace hL_b_On := hL_b_On.kp hk
      replace hL_b_Off := hL_b_Off.kp hk
      replace hL_5 := hL_5.kp hk
      replace hL_6 := hL_6.kp hk
      refine HA.one (k := 14) ⟨⟨(hS.box 5 rfl), (hS.box 6 rfl), (hS.box 7 rfl)⟩, (Go.Wk.at_nil _ _)⟩ (by kernel_rfl) ?_
      refine HS.call rfl (want_by rfl rfl c_1) rfl (ec en_7 rfl rfl) (law15_Few_walk (fr := (Ow.own 34 17 e_api_Addr vr_2_3 r_2_3 :: Ow.own 34 17 e_api_Addr vr_2_1 r_2_1 :: Ow.own 34 17 e_api_Addr vr_2_2 r_2_2 :: Ow.own 34 17 e_api_Addr vx_1_1 x_1_1 :: Ow.own 34 17 e_api_Addr vx_2_1 x_2_1 :: Ow.box b_1 24 #[.bool a_Exclude, va_On, va_Off] :: Ow.box b_2 24 #[.bool b_Exclude, vb_On, vb_Off] :: Ow.box b_3 24 #[.bool a_Exclude, vx_1_1, vx_2_1] :: fr)) b_Exclude b_On b_Off vb_On vb_Off hS hL_b_On hL_b_Off hM) ?_
      rintro _ h_14 ⟨F_13, r_0_4, r_1_4, r_2_4, vr_1_4, vr_2_4, rfl, hk, hS, _, _, hL_10, hM⟩
      replace hK := hK.trans hk
      replace hL_a_On := hL_a_On.kp hk
      replace hL_a_Off := hL_a_Off.kp hk
      replace hL_b_On := hL_b_On.kp hk
      replace hL_b_Off := hL_b_Off.kp hk
      replace hL_5 := hL_5.kp hk
      replace hL_6 := hL_6.kp hk
      replace hL_9 := hL_9.kp hk
      refine HA.one (k := 15) ⟨⟨(hS.box 6 rfl), (hS.box 7 rfl), (hS.box 8 rfl)⟩, (Go.Wk.at_nil _ _)⟩ (by kernel_rfl) ?_
      replace hS : St F_13 (Ow.own 34 17 e_api_Addr vr_2_3 r_2_3 :: Ow.own 34 17 e_api_Addr vr_2_4 r_2_4 :: Ow.own 34 17 e_api_Addr vr_2_1 r_2_1 :: Ow.own 34 17 e_api_Addr vr_2_2 r_2_2 :: Ow.own 34 17 e_api_Addr vx_1_1 x_1_1 :: Ow.own 34 17 e_api_Addr vx_2_1 x_2_1 :: Ow.box b_1 24 #[.bool a_Exclude, va_On, va_Off] :: Ow.box b_2 24 #[.bool b_Exclude, vb_On, vb_Off] :: Ow.box b_3 24 #[.bool a_Exclude, vx_1_1, vx_2_1] :: fr) h_14 := hS.perm2 [1, 0, 2, 3, 4, 5, 6, 7, 8] 9 rfl rfl
      have hZ_7 := hS
      have hkz_7 := (hS.freeze).2
      replace hS := hS.freeze.1
      have hL_11 : SliceF (fun b => F_13 b ∨ (Ow.own 34 17 e_api_Addr vr_2_3 r_2_3).foot b) h_14 17 e_api_Addr vr_2_3 r_2_3 := ⟨(hZ_7.own 0 rfl).slice, fun _ b hb => .inr hb⟩
      have hZ_8 := hS
      have hkz_8 := (hS.freeze).2
      replace hS := hS.freeze.1
      have hL_12 : SliceF (fun b => (fun b => F_13 b ∨ (Ow.own 34 17 e_api_Addr vr_2_3 r_2_3).foot b) b ∨ (Ow.own 34 17 e_api_Addr vr_2_4 r_2_4).foot b) h_14 17 e_api_Addr vr_2_4 r_2_4 := ⟨(hZ_8.own 0 rfl).slice, fun _ b hb => .inr hb⟩
      refine HS.call rfl (want_by rfl rfl c_1) rfl (ec en_21 rfl rfl) (ref15_Same_walk (fr := (Ow.own 34 17 e_api_Addr vr_2_1 r_2_1 :: Ow.own 34 17 e_api_Addr vr_2_2 r_2_2 :: Ow.own 34 17 e_api_Addr vx_1_1 x_1_1 :: Ow.own 34 17 e_api_Addr vx_2_1 x_2_1 :: Ow.box b_1 24 #[.bool a_Exclude, va_On, va_Off] :: Ow.box b_2 24 #[.bool b_Exclude, vb_On, vb_Off] :: Ow.box b_3 24 #[.bool a_Exclude, vx_1_1, vx_2_1] :: fr)) r_0_3 r_1_3 r_2_3 r_0_4 r_1_4 r_2_4 vr_1_3 vr_2_3 vr_1_4 vr_2_4 hS ((hL_9.kp hkz_7).kp hkz_8) (hL_11.kp hkz_8) ((hL_10.kp hkz_7).kp hkz_8) hL_12 hM) ?_
      rintro _ h_15 ⟨F_14, r_7, rfl, hk, hS, _, _, _, _, hM⟩
      obtain ⟨hS, hk⟩ := hZ_8.back hk hS
      obtain ⟨hS, hk⟩ := hZ_7.back hk hS
      generalize (fun b => (fun b => F_14 b ∧ ¬ (Ow.own 34 17 e_api_Addr vr_2_4 r_2_4).foot b) b ∧ ¬ (Ow.own 34 17 e_api_Addr vr_2_3 r_2_3).foot b) = F_15 at hS hk
      replace hK := hK.trans hk
      replace hL_a_On := hL_a_On.kp hk
      replace hL_a_Off := hL_a_Off.kp hk
      replace hL_b_On := hL_b_On.kp hk
      replace hL_b_Off := hL_b_Off.kp hk
      replace hL_5 := hL_5.kp hk
      replace hL_6 := hL_6.kp hk
      replace hL_9 := hL_9.kp hk
      replace hL_10 := hL_10.kp hk
      refine HA.val (k := 16) (v := .bool (r_6 == r_7)) rfl rfl (by kernel_rfl) (by kernel_rfl) (want_by rfl rfl c_1) rfl (fun _ ⟨c203, c204, c205⟩ => q_eqlB Try.underlying4 rfl rfl) ?_
      refine HA.val (k := 17) (v := .bool (r_6 == r_7)) rfl rfl (by kernel_rfl) (by kernel_rfl) (want_none) rfl (fun _ ⟨c203, c204, c205⟩ => q_pickK true rfl c_1 rfl) ?_
      refine HA.val (k := 18) (v := .bool (r_6 == r_7)) rfl rfl (by kernel_rfl) (by kernel_rfl) (want_none) rfl (fun _ ⟨c203, c204, c205⟩ => q_move rfl) ?_
      rcases Bool.eq_false_or_eq_true (r_6 == r_7) with c_2 | c_2
      · replace hM := hM.1 c_2
        refine HA.val (k := 19) (v := .agg #[.bool a_Exclude, va_On, va_Off]) rfl rfl (by kernel_rfl) (by kernel_rfl) (want_by rfl rfl c_2) rfl (fun _ ⟨c203, c204, c205⟩ => q_loadAgg (cs := [.bool a_Exclude, va_On, va_Off]) ta_24 rfl rfl (Blk.cells (k := 3) c203 rfl)) ?_
        refine HA.val (k := 21) (v := .agg #[.bool a_Exclude, va_On, va_Off]) rfl rfl (by kernel_rfl) (by kernel_rfl) (want_by rfl rfl c_2) rfl (fun _ ⟨c203, c204, c205⟩ => q_loadAgg (cs := [.bool a_Exclude, va_On, va_Off]) ta_24 rfl rfl (Blk.cells (k := 3) c203 rfl)) ?_
        refine HA.one (k := 20) ⟨⟨(hS.box 6 rfl), (hS.box 7 rfl), (hS.box 8 rfl)⟩, (Go.Wk.at_nil _ _)⟩ (by kernel_rfl) ?_
        refine HS.call rfl (want_by rfl rfl c_2) rfl (ec en_7 rfl rfl) (law15_Few_walk (fr := (Ow.own 34 17 e_api_Addr vr_2_3 r_2_3 :: Ow.own 34 17 e_api_Addr vr_2_4 r_2_4 :: Ow.own 34 17 e_api_Addr vr_2_1 r_2_1 :: Ow.own 34 17 e_api_Addr vr_2_2 r_2_2 :: Ow.own 34 17 e_api_Addr vx_1_1 x_1_1 :: Ow.own 34 17 e_api_Addr vx_2_1 x_2_1 :: Ow.box b_1 24 #[.bool a_Exclude, va_On, va_Off] :: Ow.box b_2 24 #[.bool b_Exclude, vb_On, vb_Off] :: Ow.box b_3 24 #[.bool a_Exclude, vx_1_1, vx_2_1] :: fr)) a_Exclude a_On a_Off va_On va_Off hS hL_a_On hL_a_Off hM) ?_
        rintro _ h_16 ⟨F_16, r_0_5, r_1_5, r_2_5, vr_1_5, vr_2_5, rfl, hk, hS, _, _, hL_13, hM⟩
        replace hK := hK.trans hk
        replace hL_a_On := hL_a_On.kp hk
        replace hL_a_Off := hL_a_Off.kp hk
        replace hL_b_On := hL_b_On.kp hk
        replace hL_b_Off := hL_b_Off.kp hk
        replace hL_5 := hL_5.kp hk
        replace hL_6 := hL_6.kp hk
        replace hL_9 := hL_9.kp hk
        replace hL_10 := hL_10.kp hk
        refine HA.one (k := 22) ⟨⟨(hS.box 7 rfl), (hS.box 8 rfl), (hS.box 9 rfl)⟩, (Go.Wk.at_nil _ _)⟩ (by kernel_rfl) ?_
        refine HS.call rfl (want_by rfl rfl c_2) rfl (ec en_7 rfl rfl) (law15_Few_walk (fr := (Ow.own 34 17 e_api_Addr vr_2_5 r_2_5 :: Ow.own 34 17 e_api_Addr vr_2_3 r_2_3 :: Ow.own 34 17 e_api_Addr vr_2_4 r_2_4 :: Ow.own 34 17 e_api_Addr vr_2_1 r_2_1 :: Ow.own 34 17 e_api_Addr vr_2_2 r_2_2 :: Ow.own 34 17 e_api_Addr vx_1_1 x_1_1 :: Ow.own 34 17 e_api_Addr vx_2_1 x_2_1 :: Ow.box b_1 24 #[.bool a_Exclude, va_On, va_Off] :: Ow.box b_2 24 #[.bool b_Exclude, vb_On, vb_Off] :: Ow.box b_3 24 #[.bool a_Exclude, vx_1_1, vx_2_1] :: fr)) a_Exclude a_On a_Off va_On va_Off hS hL_a_On hL_a_Off hM) ?_
        rintro _ h_17 ⟨F_17, r_0_6, r_1_6, r_2_6, vr_1_6, vr_2_6, rfl, hk, hS, _, _, hL_14, hM⟩
        replace hK := hK.trans hk
        replace hL_a_On := hL_a_On.kp hk
        replace hL_a_Off := hL_a_Off.kp hk
        replace hL_b_On := hL_b_On.kp hk
        replace hL_b_Off := hL_b_Off.kp hk
        replace hL_5 := hL_5.kp hk
        replace hL_6 := hL_6.kp hk
        replace hL_9 := hL_9.kp hk
        replace hL_10 := hL_10.kp hk
        replace hL_13 := hL_13.kp hk
        refine HA.one (k := 23) ⟨⟨(hS.box 8 rfl), (hS.box 9 rfl), (hS.box 10 rfl)⟩, (Go.Wk.at_nil _ _)⟩ (by kernel_rfl) ?_
        replace hS : St F_17 (Ow.own 34 17 e_api_Addr vr_2_5 r_2_5 :: Ow.own 34 17 e_api_Addr vr_2_6 r_2_6 :: Ow.own 34 17 e_api_Addr vr_2_3 r_2_3 :: Ow.own 34 17 e_api_Addr vr_2_4 r_2_4 :: Ow.own 34 17 e_api_Addr vr_2_1 r_2_1 :: Ow.own 34 17 e_api_Addr vr_2_2 r_2_2 :: Ow.own 34 17 e_api_Addr vx_1_1 x_1_1 :: Ow.own 34 17 e_api_Addr vx_2_1 x_2_1 :: Ow.box b_1 24 #[.bool a_Exclude, va_On, va_Off] :: Ow.box b_2 24 #[.bool b_Exclude, vb_On, vb_Off] :: Ow.box b_3 24 #[.bool a_Exclude, vx_1_1, vx_2_1] :: fr) h_17 := hS.perm2 [1, 0, 2, 3, 4, 5, 6, 7, 8, 9, 10] 11 rfl rfl
        have hZ_9 := hS
        have hkz_9 := (hS.freeze).2
        replace hS := hS.freeze.1
        have hL_15 : SliceF (fun b => F_17 b ∨ (Ow.own 34 17 e_api_Addr vr_2_5 r_2_5).foot b) h_17 17 e_api_Addr vr_2_5 r_2_5 := ⟨(hZ_9.own 0 rfl).slice, fun _ b hb => .inr hb⟩
        have hZ_10 := hS
        have hkz_10 := (hS.freeze).2
        replace hS := hS.freeze.1
        have hL_16 : SliceF (fun b => (fun b => F_17 b ∨ (Ow.own 34 17 e_api_Addr vr_2_5 r_2_5).foot b) b ∨ (Ow.own 34 17 e_api_Addr vr_2_6 r_2_6).foot b) h_17 17 e_api_Addr vr_2_6 r_2_6 := ⟨(hZ_10.own 0 rfl).slice, fun _ b hb => .inr hb⟩
        refine HS.call rfl (want_by rfl rfl c_2) rfl (ec en_27 rfl rfl) (filter_Same_walk (fr := (Ow.own 34 17 e_api_Addr vr_2_3 r_2_3 :: Ow.own 34 17 e_api_Addr vr_2_4 r_2_4 :: Ow.own 34 17 e_api_Addr vr_2_1 r_2_1 :: Ow.own 34 17 e_api_Addr vr_2_2 r_2_2 :: Ow.own 34 17 e_api_Addr vx_1_1 x_1_1 :: Ow.own 34 17 e_api_Addr vx_2_1 x_2_1 :: Ow.box b_1 24 #[.bool a_Exclude, va_On, va_Off] :: Ow.box b_2 24 #[.bool b_Exclude, vb_On, vb_Off] :: Ow.box b_3 24 #[.bool a_Exclude, vx_1_1, vx_2_1] :: fr)) r_0_5 r_1_5 r_2_5 r_0_6 r_1_6 r_2_6 vr_1_5 vr_2_5 vr_1_6 vr_2_6 hS ((hL_13.kp hkz_9).kp hkz_10) (hL_15.kp hkz_10) ((hL_14.kp hkz_9).kp hkz_10) hL_16 hM) ?_
        rintro _ h_18 ⟨F_18, r_8, rfl, hk, hS, _, _, _, _, hM⟩
        obtain ⟨hS, hk⟩ := hZ_10.back hk hS
        obtain ⟨hS, hk⟩ := hZ_9.back hk hS
        generalize (fun b => (fun b => F_18 b ∧ ¬ (Ow.own 34 17 e_api_Addr vr_2_6 r_2_6).foot b) b ∧ ¬ (Ow.own 34 17 e_api_Addr vr_2_5 r_2_5).foot b) = F_19 at hS hk
        replace hK := hK.trans hk
        replace hL_a_On := hL_a_On.kp hk
        replace hL_a_Off := hL_a_Off.kp hk
        replace hL_b_On := hL_b_On.kp hk
        replace hL_b_Off := hL_b_Off.kp hk
        replace hL_5 := hL_5.kp hk
        replace hL_6 := hL_6.kp hk
        replace hL_9 := hL_9.kp hk
        replace hL_10 := hL_10.kp hk
        replace hL_13 := hL_13.kp hk
        replace hL_14 := hL_14.kp hk
        refine HA.val (k := 24) (v := .bool r_8) rfl rfl (by kernel_rfl) (by kernel_rfl) (want_none) rfl (fun _ ⟨c203, c204, c205⟩ => q_pickK true rfl c_2 rfl) ?_
        refine HA.val (k := 25) (v := .bool r_8) rfl rfl (by kernel_rfl) (by kernel_rfl) (want_none) rfl (fun _ ⟨c203, c204, c205⟩ => q_move rfl) ?_
        rcases Bool.eq_false_or_eq_true r_8 with c_3 | c_3
        · replace hM := hM.1 c_3
          refine HA.one (k := 26) ⟨⟨(hS.box 8 rfl), (hS.box 9 rfl), (hS.box 10 rfl)⟩, (Go.Wk.at_nil _ _)⟩ (by kernel_rfl) ?_
          refine HS.call rfl (want_by rfl rfl c_3) rfl (ec en_15 rfl rfl) (law15_lives_walk (fr := (Ow.own 34 17 e_api_Addr vr_2_5 r_2_5 :: Ow.own 34 17 e_api_Addr vr_2_6 r_2_6 :: Ow.own 34 17 e_api_Addr vr_2_3 r_2_3 :: Ow.own 34 17 e_api_Addr vr_2_4 r_2_4 :: Ow.own 34 17 e_api_Addr vr_2_1 r_2_1 :: Ow.own 34 17 e_api_Addr vr_2_2 r_2_2 :: Ow.own 34 17 e_api_Addr vx_1_1 x_1_1 :: Ow.own 34 17 e_api_Addr vx_2_1 x_2_1 :: Ow.box b_1 24 #[.bool a_Exclude, va_On, va_Off] :: Ow.box b_2 24 #[.bool b_Exclude, vb_On, vb_Off] :: Ow.box b_3 24 #[.bool a_Exclude, vx_1_1, vx_2_1] :: fr))  hS hM) ?_
          rintro _ h_19 ⟨F_20, r_9, rfl, hk, hS, hM⟩
          replace hK := hK.trans hk
          replace hL_a_On := hL_a_On.kp hk
          replace hL_a_Off := hL_a_Off.kp hk
          replace hL_b_On := hL_b_On.kp hk
          replace hL_b_Off := hL_b_Off.kp hk
          replace hL_5 := hL_5.kp hk
          replace hL_6 := hL_6.kp hk
          replace hL_9 := hL_9.kp hk
          replace hL_10 := hL_10.kp hk
          replace hL_13 := hL_13.kp hk
          replace hL_14 := hL_14.kp hk
          refine HA.val (k := 27) (v := .bool r_9) rfl rfl (by kernel_rfl) (by kernel_rfl) (want_none) rfl (fun _ ⟨c203, c204, c205⟩ => q_pickK true rfl c_3 rfl) ?_
          refine HA.val (k := 28) (v := .bool r_9) rfl rfl (by kernel_rfl) (by kernel_rfl) (want_none) rfl (fun _ ⟨c203, c204, c205⟩ => q_assign rfl) ?_
          refine HA.nil ⟨⟨(hS.box 8 rfl), (hS.box 9 rfl), (hS.box 10 rfl)⟩, (Go.Wk.at_nil _ _)⟩ (by kernel_rfl) (thenQ_normal (?_))
          refine HW.ret (?_)
          refine ⟨.inr rfl, .bool r_9, res1 rfl (rt rfl), ?_⟩
          replace hS : St F_20 (fr) h_19 := hS.perm2 [] 11 rfl rfl
          exact ⟨F_20, r_9, rfl, hK, hS, hL_a_On, hL_a_Off, hL_b_On, hL_b_Off, hM⟩
        · replace hM := hM.2 c_3
          refine HA.one (k := 26) ⟨⟨(hS.box 8 rfl), (hS.box 9 rfl), (hS.box 10 rfl)⟩, (Go.Wk.at_nil _ _)⟩ (by kernel_rfl) ?_
          refine HS.past rfl (past_by rfl rfl c_3) rfl ?_
          refine HA.val (k := 27) (v := .bool false) rfl rfl (by kernel_rfl) (by kernel_rfl) (want_none) rfl (fun _ ⟨c203, c204, c205⟩ => q_pickK false rfl c_3 rfl) ?_
          refine HA.val (k := 28) (v := .bool false) rfl rfl (by kernel_rfl) (by kernel_rfl) (want_none) rfl (fun _ ⟨c203, c204, c205⟩ => q_assign rfl) ?_
          refine HA.nil ⟨⟨(hS.box 8 rfl), (hS.box 9 rfl), (hS.box 10 rfl)⟩, (Go.Wk.at_nil _ _)⟩ (by kernel_rfl) (thenQ_normal (?_))
          refine HW.ret (?_)
          refine ⟨.inr rfl, .bool false, res1 rfl (rt rfl), ?_⟩
          replace hS : St F_19 (fr) h_18 := hS.perm2 [] 11 rfl rfl
          exact ⟨F_19, false, rfl, hK, hS, hL_a_On, hL_a_Off, hL_b_On, hL_b_Off, hM⟩
      · replace hM := hM.2 c_2
        refine HA.past (k := 19) rfl rfl (by kernel_rfl) (by kernel_rfl) (past_by rfl rfl c_2) rfl ?_
        refine HA.past (k := 21) rfl rfl (by kernel_rfl) (by kernel_rfl) (past_by rfl rfl c_2) rfl ?_
        refine HA.one (k := 20) ⟨⟨(hS.box 6 rfl), (hS.box 7 rfl), (hS.box 8 rfl)⟩, (Go.Wk.at_nil _ _)⟩ (by kernel_rfl) ?_
        refine HS.past rfl (past_by rfl rfl c_2) rfl ?_
        refine HA.one (k := 22) ⟨⟨(hS.box 6 rfl), (hS.box 7 rfl), (hS.box 8 rfl)⟩, (Go.Wk.at_nil _ _)⟩ (by kernel_rfl) ?_
        refine HS.past rfl (past_by rfl rfl c_2) rfl ?_
        refine HA.one (k := 23) ⟨⟨(hS.box 6 rfl), (hS.box 7 rfl), (hS.box 8 rfl)⟩, (Go.Wk.at_nil _ _)⟩ (by kernel_rfl) ?_
        refine HS.past rfl (past_by rfl rfl c_2) rfl ?_
        refine HA.val (k := 24) (v := .bool false) rfl rfl (by kernel_rfl) (by kernel_rfl) (want_none) rfl (fun _ ⟨c203, c204, c205⟩ => q_pickK false rfl c_2 rfl) ?_
        refine HA.val (k := 25) (v := .bool false) rfl rfl (by kernel_rfl) (by kernel_rfl) (want_none) rfl (fun _ ⟨c203, c204, c205⟩ => q_move rfl) ?_
        refine HA.one (k := 26) ⟨⟨(hS.box 6 rfl), (hS.box 7 rfl), (hS.box 8 rfl)⟩, (Go.Wk.at_nil _ _)⟩ (by kernel_rfl) ?_
        refine HS.past rfl (past_some rfl rfl) rfl ?_
        refine HA.val (k := 27) (v := .bool false) rfl rfl (by kernel_rfl) (by kernel_rfl) (want_none) rfl (fun _ ⟨c203, c204, c205⟩ => q_pick rfl rfl) ?_
        refine HA.val (k := 28) (v := .bool false) rfl rfl (by kernel_rfl) (by kernel_rfl) (want_none) rfl (fun _ ⟨c203, c204, c205⟩ => q_assign rfl) ?_
        refine HA.nil ⟨⟨(hS.box 6 rfl), (hS.box 7 rfl), (hS.box 8 rfl)⟩, (Go.Wk.at_nil _ _)⟩ (by kernel_rfl) (thenQ_normal (?_))
        refine HW.ret (?_)
        refine ⟨.inr rfl, .bool false, res1 rfl (rt rfl), ?_⟩
        replace hS : St F_15 (fr) h_15 := hS.perm2 [] 9 rfl rfl
        exact ⟨F_15, false, rfl, hK, hS, hL_a_On, hL_a_Off, hL_b_On, hL_b_Off, hM⟩
    · replace hM := hM.2 c_1
      refine HA.past (k := 6) rfl rfl (by kernel_rfl) (by kernel_rfl) (past_by rfl rfl c_1) rfl ?_
      refine HA.past (k := 8) rfl rfl (by kernel_rfl) (by kernel_rfl) (past_by rfl rfl c_1) rfl ?_
      refine HA.past (k := 11) rfl rfl (by kernel_rfl) (by kernel_rfl) (past_by rfl rfl c_1) rfl ?_
      refine HA.past (k := 13) rfl rfl (by kernel_rfl) (by kernel_rfl) (past_by rfl rfl c_1) rfl ?_
      refine HA.one (k := 7) ⟨⟨(hS.box 2 rfl), (hS.box 3 rfl), (hS.box 4 rfl)⟩, (Go.Wk.at_nil _ _)⟩ (by kernel_rfl) ?_
      refine HS.past rfl (past_by rfl rfl c_1) rfl ?_
      refine HA.one (k := 9) ⟨⟨(hS.box 2 rfl), (hS.box 3 rfl), (hS.box 4 rfl)⟩, (Go.Wk.at_nil _ _)⟩ (by kernel_rfl) ?_
      refine HS.past rfl (past_by rfl rfl c_1) rfl ?_
      refine HA.one (k := 10) ⟨⟨(hS.box 2 rfl), (hS.box 3 rfl), (hS.box 4 rfl)⟩, (Go.Wk.at_nil _ _)⟩ (by kernel_rfl) ?_
      refine HS.past rfl (past_by rfl rfl c_1) rfl ?_
      refine HA.one (k := 12) ⟨⟨(hS.box 2 rfl), (hS.box 3 rfl), (hS.box 4 rfl)⟩, (Go.Wk.at_nil _ _)⟩ (by kernel_rfl) ?_
      refine HS.past rfl (past_by rfl rfl c_1) rfl ?_
      refine HA.one (k := 14) ⟨⟨(hS.box 2 rfl), (hS.box 3 rfl), (hS.box 4 rfl)⟩, (Go.Wk.at_nil _ _)⟩ (by kernel_rfl) ?_
      refine HS.past rfl (past_by rfl rfl c_1) rfl ?_
      refine HA.one (k := 15) ⟨⟨(hS.box 2 rfl), (hS.box 3 rfl), (hS.box 4 rfl)⟩, (Go.Wk.at_nil _ _)⟩ (by kernel_rfl) ?_
      refine HS.past rfl (past_by rfl rfl c_1) rfl ?_
      refine HA.past (k := 16) rfl rfl (by kernel_rfl) (by kernel_rfl) (past_by rfl rfl c_1) rfl ?_
      refine HA.val (k := 17) (v := .bool false) rfl rfl (by kernel_rfl) (by kernel_rfl) (want_none) rfl (fun _ ⟨c203, c204, c205⟩ => q_pickK false rfl c_1 rfl) ?_
      refine HA.val (k := 18) (v := .bool false) rfl rfl (by kernel_rfl) (by kernel_rfl) (want_none) rfl (fun _ ⟨c203, c204, c205⟩ => q_move rfl) ?_
      refine HA.past (k := 19) rfl rfl (by kernel_rfl) (by kernel_rfl) (past_some rfl rfl) rfl ?_
      refine HA.past (k := 21) rfl rfl (by kernel_rfl) (by kernel_rfl) (past_some rfl rfl) rfl ?_
      refine HA.one (k := 20) ⟨⟨(hS.box 2 rfl), (hS.box 3 rfl), (hS.box 4 rfl)⟩, (Go.Wk.at_nil _ _)⟩ (by kernel_rfl) ?_
      refine HS.past rfl (past_some rfl rfl) rfl ?_
      refine HA.one (k := 22) ⟨⟨(hS.box 2 rfl), (hS.box 3 rfl), (hS.box 4 rfl)⟩, (Go.Wk.at_nil _ _)⟩ (by kernel_rfl) ?_
      refine HS.past rfl (past_some rfl rfl) rfl ?_
      refine HA.one (k := 23) ⟨⟨(hS.box 2 rfl), (hS.box 3 rfl), (hS.box 4 rfl)⟩, (Go.Wk.at_nil _ _)⟩ (by kernel_rfl) ?_
      refine HS.past rfl (past_some rfl rfl) rfl ?_
      refine HA.val (k := 24) (v := .bool false) rfl rfl (by kernel_rfl) (by kernel_rfl) (want_none) rfl (fun _ ⟨c203, c204, c205⟩ => q_pick rfl rfl) ?_
      refine HA.val (k := 25) (v := .bool false) rfl rfl (by kernel_rfl) (by kernel_rfl) (want_none) rfl (fun _ ⟨c203, c204, c205⟩ => q_move rfl) ?_
      refine HA.one (k := 26) ⟨⟨(hS.box 2 rfl), (hS.box 3 rfl), (hS.box 4 rfl)⟩, (Go.Wk.at_nil _ _)⟩ (by kernel_rfl) ?_
      refine HS.past rfl (past_some rfl rfl) rfl ?_
      refine HA.val (k := 27) (v := .bool false) rfl rfl (by kernel_rfl) (by kernel_rfl) (want_none) rfl (fun _ ⟨c203, c204, c205⟩ => q_pick rfl rfl) ?_
      refine HA.val (k := 28) (v := .bool false) rfl rfl (by kernel_rfl) (by kernel_rfl) (want_none) rfl (fun _ ⟨c203, c204, c205⟩ => q_assign rfl) ?_
      refine HA.nil ⟨⟨(hS.box 2 rfl), (hS.box 3 rfl), (hS.box 4 rfl)⟩, (Go.Wk.at_nil _ _)⟩ (by kernel_rfl) (thenQ_normal (?_))
      refine HW.ret (?_)
      refine ⟨.inr rfl, .bool false, res1 rfl (rt rfl), ?_⟩
      replace hS : St F_7 (fr) h_9 := hS.perm2 [] 5 rfl rfl
      exact ⟨F_7, false, rfl, hK, hS, hL_a_On, hL_a_Off, hL_b_On, hL_b_Off, hM⟩

def filter_own_W (s_Exclude : Bool) (s_On : List T_api_Addr) (s_Off : List T_api_Addr) (Q : Bool → (List T_api_Addr) → (List T_api_Addr) → Prop) : Prop :=
  slices_Clone_s_api_Addr_api_Addr_W s_On (fun r_1 => slices_Clone_s_api_Addr_api_Addr_W s_Off (fun r_2 => Q s_Exclude r_1 r_2))
set_option maxHeartbeats 40000000 in
set_option maxRecDepth 100000 in
theorem filter_own_walk {F : Fz} {fr : List Ow} {h0 : Heap} (s_Exclude : Bool) (s_On : List T_api_Addr) (s_Off : List T_api_Addr) (vs_On : Value) (vs_Off : Value) (hS : St F (fr) h0) (hL_s_On : SliceF F h0 17 e_api_Addr vs_On s_On) (hL_s_Off : SliceF F h0 17 e_api_Addr vs_Off s_Off) {Q : Bool → (List T_api_Addr) → (List T_api_Addr) → Prop} (hM : filter_own_W s_Exclude s_On s_Off Q) :
    HC Try.prog 38 #[.agg #[.bool s_Exclude, vs_On, vs_Off]] h0 fun u h' => ∃ (F' : Fz) (r_0_1 : Bool) (r_1_1 : List T_api_Addr) (r_2_1 : List T_api_Addr) (vr_1_1 : Value) (vr_2_1 : Value), u = .agg #[.bool r_0_1, vr_1_1, vr_2_1] ∧ Kp F h0 F' h' ∧ St F' (Ow.own 34 17 e_api_Addr vr_1_1 r_1_1 :: Ow.own 34 17 e_api_Addr vr_2_1 r_2_1 :: fr) h' ∧ (SliceF F' h' 17 e_api_Addr vs_On s_On) ∧ (SliceF F' h' 17 e_api_Addr vs_Off s_Off) ∧ Q r_0_1 r_1_1 r_2_1 := by
  unfold filter_own_W at hM
  have hK := Kp.refl F h0
  refine HC.of_HW (n := 12) Try.func38 rfl rfl (Nat.le_of_ble_eq_true rfl) ?_
  refine HW.seq ?_
  refine HW.region ?_
  refine HO.eff (want_none) rfl (st_box (c := #[.bool s_Exclude, vs_On, vs_Off]) (k' := 3) hS rfl rfl) ?_
  rintro _ h_1 ⟨b_1, rfl, hS, hk⟩
  replace hK := hK.trans hk
  replace hL_s_On := hL_s_On.kp hk
  replace hL_s_Off := hL_s_Off.kp hk
  refine HO.eff (want_none) rfl (st_alloc (c := #[.bool false, .slice none 0 0, .slice none 0 0]) hS tz_24 rfl) ?_
  rintro _ h_2 ⟨b_2, rfl, hS, hk⟩
  replace hK := hK.trans hk
  replace hL_s_On := hL_s_On.kp hk
  replace hL_s_Off := hL_s_Off.kp hk
  refine HO.nil (thenQ_normal (?_))
  refine HW.seq ?_
  refine HW.regionA 10 mixed (fun h => True) [(7, fun h => (Blk h b_1 (.cells #[.bool s_Exclude, vs_On, vs_Off] 24 (0, 0))))] (by kernel_rfl) ?_
  refine HA.val (k := 0) (v := .pointer (some ⟨b_1, 1, none⟩)) rfl rfl (by kernel_rfl) (by kernel_rfl) (want_none) rfl (fun _ _ => q_fieldAddr fa_24_1 rfl rfl) ?_
  refine Go.Wk.HA.valN (k := 1) (v := vs_On) 0 7 (fun h => (Blk h b_1 (.cells #[.bool s_Exclude, vs_On, vs_Off] 24 (0, 0)))) rfl rfl (by kernel_rfl) (by kernel_rfl) (want_none) rfl rfl (by kernel_rfl) (fun _ _ c203 => q_load to_22 rfl (Blk.cell c203 rfl)) ?_
  refine HA.val (k := 3) (v := .pointer (some ⟨b_1, 2, none⟩)) rfl rfl (by kernel_rfl) (by kernel_rfl) (want_none) rfl (fun _ _ => q_fieldAddr fa_24_2 rfl rfl) ?_
  refine Go.Wk.HA.valN (k := 4) (v := vs_Off) 0 7 (fun h => (Blk h b_1 (.cells #[.bool s_Exclude, vs_On, vs_Off] 24 (0, 0)))) rfl rfl (by kernel_rfl) (by kernel_rfl) (want_none) rfl rfl (by kernel_rfl) (fun _ _ c203 => q_load to_22 rfl (Blk.cell c203 rfl)) ?_
  refine HA.one (k := 2) ⟨trivial, (at_now (hS.box 1 rfl) (Go.Wk.at_nil _ _))⟩ (by kernel_rfl) ?_
  refine HS.call rfl (want_none) rfl (ec en_41 rfl rfl) (slices_Clone_s_api_Addr_api_Addr_walk (fr := (Ow.box b_2 24 #[.bool false, .slice none 0 0, .slice none 0 0] :: Ow.box b_1 24 #[.bool s_Exclude, vs_On, vs_Off] :: fr)) s_On vs_On hS hL_s_On hM) ?_
  rintro vr_1 h_3 ⟨F_1, r_1, _, rfl, hk, hS, _, hM⟩
  replace hK := hK.trans hk
  replace hL_s_On := hL_s_On.kp hk
  replace hL_s_Off := hL_s_Off.kp hk
  refine HA.val (k := 6) (v := .pointer (some ⟨b_1, 1, none⟩)) rfl rfl (by kernel_rfl) (by kernel_rfl) (want_none) rfl (fun _ _ => q_fieldAddr fa_24_1 rfl rfl) ?_
  refine HA.one (k := 5) ⟨trivial, (at_now (hS.box 2 rfl) (Go.Wk.at_nil _ _))⟩ (by kernel_rfl) ?_
  refine HS.call rfl (want_none) rfl (ec en_41 rfl rfl) (slices_Clone_s_api_Addr_api_Addr_walk (fr := (Ow.own 34 17 e_api_Addr vr_1 r_1 :: Ow.box b_2 24 #[.bool false, .slice none 0 0, .slice none 0 0] :: Ow.box b_1 24 #[.bool s_Exclude, vs_On, vs_Off] :: fr)) s_Off vs_Off hS hL_s_Off hM) ?_
  rintro vr_2 h_4 ⟨F_2, r_2, _, rfl, hk, hS, _, hM⟩
  replace hK := hK.trans hk
  replace hL_s_On := hL_s_On.kp hk
  replace hL_s_Off := hL_s_Off.kp hk
  refine HA.one (k := 7) ⟨trivial, (at_now (hS.box 3 rfl) (Go.Wk.at_nil _ _))⟩ (by kernel_rfl) ?_
  refine HS.sto rfl (want_none) rfl (st_store (c' := #[.bool s_Exclude, vr_1, vs_Off]) hS (i := 3) rfl to_22 rfl rfl (shp (hS.own 1 rfl).slice).cells (shp (hS.own 1 rfl).slice).one (Nat.le_of_ble_eq_true rfl) rfl) ?_
  rintro h_5 ⟨hS, hk⟩
  replace hS : St F_2 (Ow.own 34 17 e_api_Addr vr_2 r_2 :: Ow.own 34 17 e_api_Addr vr_1 r_1 :: Ow.box b_2 24 #[.bool false, .slice none 0 0, .slice none 0 0] :: Ow.box b_1 24 #[.bool s_Exclude, vr_1, vs_Off] :: fr) h_5 := hS
  replace hK := hK.trans hk
  replace hL_s_On := hL_s_On.kp hk
  replace hL_s_Off := hL_s_Off.kp hk
  refine Go.Wk.HA.re (fun h => True) [(9, fun h => (Blk h b_1 (.cells #[.bool s_Exclude, vr_1, vs_Off] 24 (0, 0))))] (fun L_ h_ hL_ _ hs_ => ⟨trivial, (at_gone hL_ (by kernel_rfl) (Go.Wk.at_nil _ _))⟩) ?_
  refine HA.val (k := 8) (v := .pointer (some ⟨b_1, 2, none⟩)) rfl rfl (by kernel_rfl) (by kernel_rfl) (want_none) rfl (fun _ _ => q_fieldAddr fa_24_2 rfl rfl) ?_
  refine HA.one (k := 9) ⟨trivial, (at_now (hS.box 3 rfl) (Go.Wk.at_nil _ _))⟩ (by kernel_rfl) ?_
  refine HS.sto rfl (want_none) rfl (st_store (c' := #[.bool s_Exclude, vr_1, vr_2]) hS (i := 3) rfl to_22 rfl rfl (shp (hS.own 0 rfl).slice).cells (shp (hS.own 0 rfl).slice).one (Nat.le_of_ble_eq_true rfl) rfl) ?_
  rintro h_6 ⟨hS, hk⟩
  replace hS : St F_2 (Ow.own 34 17 e_api_Addr vr_2 r_2 :: Ow.own 34 17 e_api_Addr vr_1 r_1 :: Ow.box b_2 24 #[.bool false, .slice none 0 0, .slice none 0 0] :: Ow.box b_1 24 #[.bool s_Exclude, vr_1, vr_2] :: fr) h_6 := hS
  replace hK := hK.trans hk
  replace hL_s_On := hL_s_On.kp hk
  replace hL_s_Off := hL_s_Off.kp hk
  refine HA.nil ⟨trivial, (at_done (by kernel_rfl) (Go.Wk.at_nil _ _))⟩ (by kernel_rfl) (thenQ_normal (?_))
  refine HW.seq ?_
  refine HW.region ?_
  refine HO.val (v := .agg #[.bool s_Exclude, vr_1, vr_2]) (want_none) rfl (q_loadAgg (cs := [.bool s_Exclude, vr_1, vr_2]) ta_24 rfl rfl (Blk.cells (k := 3) (hS.box 3 rfl) rfl)) ?_
  refine HO.sto (want_none) rfl (st_storeAgg (c' := #[.bool s_Exclude, vr_1, vr_2]) hS (i := 2) rfl ta_24 rfl rfl rfl (List.forall_mem_cons.2 ⟨rfl, (List.forall_mem_cons.2 ⟨(shp (hS.own 1 rfl).slice).one, (List.forall_mem_cons.2 ⟨(shp (hS.own 0 rfl).slice).one, (fun _ h => by cases h)⟩)⟩)⟩) (Nat.le_of_ble_eq_true rfl) rfl) ?_
  rintro h_7 ⟨hS, hk⟩
  replace hS : St F_2 (Ow.own 34 17 e_api_Addr vr_2 r_2 :: Ow.own 34 17 e_api_Addr vr_1 r_1 :: Ow.box b_2 24 #[.bool s_Exclude, vr_1, vr_2] :: Ow.box b_1 24 #[.bool s_Exclude, vr_1, vr_2] :: fr) h_7 := hS
  replace hK := hK.trans hk
  replace hL_s_On := hL_s_On.kp hk
  replace hL_s_Off := hL_s_Off.kp hk
  refine HO.nil (thenQ_normal (?_))
  refine HW.ret (?_)
  refine ⟨.inr rfl, .agg #[.bool s_Exclude, vr_1, vr_2], res1 rfl (rca (cs := [.bool s_Exclude, vr_1, vr_2]) ta_24 rfl rfl (Blk.cells (k := 3) (hS.box 2 rfl) rfl)), ?_⟩
  replace hS : St F_2 (Ow.own 34 17 e_api_Addr vr_1 r_1 :: Ow.own 34 17 e_api_Addr vr_2 r_2 :: fr) h_7 := hS.perm2 [1, 0] 4 rfl rfl
  exact ⟨F_2, s_Exclude, r_1, r_2, vr_1, vr_2, rfl, hK, hS, hL_s_On, hL_s_Off, hM⟩

def filter_Expire_W (s_Exclude : Bool) (s_On : List T_api_Addr) (s_Off : List T_api_Addr) (l : List T_api_Addr) (Q : Bool → (List T_api_Addr) → (List T_api_Addr) → Prop) : Prop :=
  srcs_Of_W l (fun r_1 => filter_own_W s_Exclude s_On s_Off (fun r_0_2 r_1_2 r_2_2 => srcs_Minus_W s_On r_1 (fun r_2 => (s_Exclude = true → srcs_And_W s_On r_1 (fun r_3 => srcs_Or_W s_Off r_3 (fun r_4 => Q r_0_2 r_2 r_4))) ∧ (s_Exclude = false → Q r_0_2 r_2 r_2_2))))
set_option maxHeartbeats 40000000 in
set_option maxRecDepth 100000 in
theorem filter_Expire_walk {F : Fz} {fr : List Ow} {h0 : Heap} (s_Exclude : Bool) (s_On : List T_api_Addr) (s_Off : List T_api_Addr) (l : List T_api_Addr) (vs_On : Value) (vs_Off : Value) (vl : Value) (hS : St F (fr) h0) (hL_s_On : SliceF F h0 17 e_api_Addr vs_On s_On) (hL_s_Off : SliceF F h0 17 e_api_Addr vs_Off s_Off) (hL_l : SliceF F h0 17 e_api_Addr vl l) {Q : Bool → (List T_api_Addr) → (List T_api_Addr) → Prop} (hM : filter_Expire_W s_Exclude s_On s_Off l Q) :
    HC Try.prog 19 #[.agg #[.bool s_Exclude, vs_On, vs_Off], vl] h0 fun u h' => ∃ (F' : Fz) (r_0_1 : Bool) (r_1_1 : List T_api_Addr) (r_2_1 : List T_api_Addr) (vr_1_1 : Value) (vr_2_1 : Value), u = .agg #[.bool r_0_1, vr_1_1, vr_2_1] ∧ Kp F h0 F' h' ∧ St F' (Ow.own 34 17 e_api_Addr vr_1_1 r_1_1 :: Ow.own 34 17 e_api_Addr vr_2_1 r_2_1 :: fr) h' ∧ (SliceF F' h' 17 e_api_Addr vs_On s_On) ∧ (SliceF F' h' 17 e_api_Addr vs_Off s_Off) ∧ (SliceF F' h' 17 e_api_Addr vl l) ∧ Q r_0_1 r_1_1 r_2_1 := by
  unfold filter_Expire_W at hM
  have hK := Kp.refl F h0
  refine HC.of_HW (n := 27) Try.func19 rfl rfl (Nat.le_of_ble_eq_true rfl) ?_
  refine HW.seq ?_
  refine HW.region ?_
  refine HO.eff (want_none) rfl (st_box (c := #[.bool s_Exclude, vs_On, vs_Off]) (k' := 3) hS rfl rfl) ?_
  rintro _ h_1 ⟨b_1, rfl, hS, hk⟩
  replace hK := hK.trans hk
  replace hL_s_On := hL_s_On.kp hk
  replace hL_s_Off := hL_s_Off.kp hk
  replace hL_l := hL_l.kp hk
  refine HO.eff (want_none) rfl (st_alloc (c := #[.bool false, .slice none 0 0, .slice none 0 0]) hS tz_24 rfl) ?_
  rintro _ h_2 ⟨b_2, rfl, hS, hk⟩
  replace hK := hK.trans hk
  replace hL_s_On := hL_s_On.kp hk
  replace hL_s_Off := hL_s_Off.kp hk
  replace hL_l := hL_l.kp hk
  refine HO.nil (thenQ_normal (?_))
  refine HW.seq ?_
  refine HW.region ?_
  refine HO.val (v := vl) (want_none) rfl (q_move rfl) ?_
  refine HO.call (want_none) rfl (ec en_30 rfl rfl) (srcs_Of_walk (fr := (Ow.box b_2 24 #[.bool false, .slice none 0 0, .slice none 0 0] :: Ow.box b_1 24 #[.bool s_Exclude, vs_On, vs_Off] :: fr)) l vl hS hL_l hM) ?_
  rintro vr_1 h_3 ⟨F_1, r_1, _, rfl, hk, hS, _, hM⟩
  replace hK := hK.trans hk
  replace hL_s_On := hL_s_On.kp hk
  replace hL_s_Off := hL_s_Off.kp hk
  replace hL_l := hL_l.kp hk
  refine HO.val (v := vr_1) (want_none) rfl (q_assign rfl) ?_
  refine HO.nil (thenQ_normal (?_))
  refine HW.seq ?_
  refine HW.region ?_
  refine HO.val (v := .agg #[.bool s_Exclude, vs_On, vs_Off]) (want_none) rfl (q_loadAgg (cs := [.bool s_Exclude, vs_On, vs_Off]) ta_24 rfl rfl (Blk.cells (k := 3) (hS.box 2 rfl) rfl)) ?_
  refine HO.call (want_none) rfl (ec en_38 rfl rfl) (filter_own_walk (fr := (Ow.own 34 17 e_api_Addr vr_1 r_1 :: Ow.box b_2 24 #[.bool false, .slice none 0 0, .slice none 0 0] :: Ow.box b_1 24 #[.bool s_Exclude, vs_On, vs_Off] :: fr)) s_Exclude s_On s_Off vs_On vs_Off hS hL_s_On hL_s_Off hM) ?_
  rintro _ h_4 ⟨F_2, r_0_2, r_1_2, r_2_2, vr_1_2, vr_2_2, rfl, hk, hS, _, _, hM⟩
  replace hK := hK.trans hk
  replace hL_s_On := hL_s_On.kp hk
  replace hL_s_Off := hL_s_Off.kp hk
  replace hL_l := hL_l.kp hk
  refine HO.eff (want_none) rfl (st_alloc (c := #[.bool false, .slice none 0 0, .slice none 0 0]) hS tz_24 rfl) ?_
  rintro _ h_5 ⟨b_3, rfl, hS, hk⟩
  replace hK := hK.trans hk
  replace hL_s_On := hL_s_On.kp hk
  replace hL_s_Off := hL_s_Off.kp hk
  replace hL_l := hL_l.kp hk
  refine HO.sto (want_none) rfl (st_storeAgg (c' := #[.bool r_0_2, vr_1_2, vr_2_2]) hS (i := 0) rfl ta_24 rfl rfl rfl (List.forall_mem_cons.2 ⟨rfl, (List.forall_mem_cons.2 ⟨(shp (hS.own 1 rfl).slice).one, (List.forall_mem_cons.2 ⟨(shp (hS.own 2 rfl).slice).one, (fun _ h => by cases h)⟩)⟩)⟩) (Nat.le_of_ble_eq_true rfl) rfl) ?_
  rintro h_6 ⟨hS, hk⟩
  replace hS : St F_2 (Ow.box b_3 24 #[.bool r_0_2, vr_1_2, vr_2_2] :: Ow.own 34 17 e_api_Addr vr_1_2 r_1_2 :: Ow.own 34 17 e_api_Addr vr_2_2 r_2_2 :: Ow.own 34 17 e_api_Addr vr_1 r_1 :: Ow.box b_2 24 #[.bool false, .slice none 0 0, .slice none 0 0] :: Ow.box b_1 24 #[.bool s_Exclude, vs_On, vs_Off] :: fr) h_6 := hS
  replace hK := hK.trans hk
  replace hL_s_On := hL_s_On.kp hk
  replace hL_s_Off := hL_s_Off.kp hk
  replace hL_l := hL_l.kp hk
  refine HO.nil (thenQ_normal (?_))
  refine HW.seq ?_
  refine HW.region ?_
  refine HO.val (v := .pointer (some ⟨b_1, 1, none⟩)) (want_none) rfl (q_fieldAddr fa_24_1 rfl rfl) ?_
  refine HO.val (v := vs_On) (want_none) rfl (q_load to_22 rfl (Blk.cell (hS.box 5 rfl) rfl)) ?_
  refine HO.val (v := vr_1) (want_none) rfl (q_move rfl) ?_
  replace hS : St F_2 (Ow.own 34 17 e_api_Addr vr_1 r_1 :: Ow.box b_3 24 #[.bool r_0_2, vr_1_2, vr_2_2] :: Ow.own 34 17 e_api_Addr vr_1_2 r_1_2 :: Ow.own 34 17 e_api_Addr vr_2_2 r_2_2 :: Ow.box b_2 24 #[.bool false, .slice none 0 0, .slice none 0 0] :: Ow.box b_1 24 #[.bool s_Exclude, vs_On, vs_Off] :: fr) h_6 := hS.perm2 [3, 0, 1, 2, 4, 5] 6 rfl rfl
  have hZ_1 := hS
  have hkz_1 := (hS.freeze).2
  replace hS := hS.freeze.1
  have hL_1 : SliceF (fun b => F_2 b ∨ (Ow.own 34 17 e_api_Addr vr_1 r_1).foot b) h_6 17 e_api_Addr vr_1 r_1 := ⟨(hZ_1.own 0 rfl).slice, fun _ b hb => .inr hb⟩
  refine HO.call (want_none) rfl (ec en_39 rfl rfl) (srcs_Minus_walk (fr := (Ow.box b_3 24 #[.bool r_0_2, vr_1_2, vr_2_2] :: Ow.own 34 17 e_api_Addr vr_1_2 r_1_2 :: Ow.own 34 17 e_api_Addr vr_2_2 r_2_2 :: Ow.box b_2 24 #[.bool false, .slice none 0 0, .slice none 0 0] :: Ow.box b_1 24 #[.bool s_Exclude, vs_On, vs_Off] :: fr)) s_On r_1 vs_On vr_1 hS (hL_s_On.kp hkz_1) hL_1 hM) ?_
  rintro vr_2 h_7 ⟨F_3, r_2, _, rfl, hk, hS, _, _, hM⟩
  obtain ⟨hS, hk⟩ := hZ_1.back hk hS
  generalize (fun b => F_3 b ∧ ¬ (Ow.own 34 17 e_api_Addr vr_1 r_1).foot b) = F_4 at hS hk
  replace hK := hK.trans hk
  replace hL_s_On := hL_s_On.kp hk
  replace hL_s_Off := hL_s_Off.kp hk
  replace hL_l := hL_l.kp hk
  refine HO.val (v := .pointer (some ⟨b_3, 1, none⟩)) (want_none) rfl (q_fieldAddr fa_24_1 rfl rfl) ?_
  refine HO.sto (want_none) rfl (st_store (c' := #[.bool r_0_2, vr_2, vr_2_2]) hS (i := 2) rfl to_22 rfl rfl (shp (hS.own 1 rfl).slice).cells (shp (hS.own 1 rfl).slice).one (Nat.le_of_ble_eq_true rfl) rfl) ?_
  rintro h_8 ⟨hS, hk⟩
  replace hS : St F_4 (Ow.own 34 17 e_api_Addr vr_1 r_1 :: Ow.own 34 17 e_api_Addr vr_2 r_2 :: Ow.box b_3 24 #[.bool r_0_2, vr_2, vr_2_2] :: Ow.own 34 17 e_api_Addr vr_1_2 r_1_2 :: Ow.own 34 17 e_api_Addr vr_2_2 r_2_2 :: Ow.box b_2 24 #[.bool false, .slice none 0 0, .slice none 0 0] :: Ow.box b_1 24 #[.bool s_Exclude, vs_On, vs_Off] :: fr) h_8 := hS
  replace hK := hK.trans hk
  replace hL_s_On := hL_s_On.kp hk
  replace hL_s_Off := hL_s_Off.kp hk
  replace hL_l := hL_l.kp hk
  refine HO.nil (thenQ_normal (?_))
  refine HW.seq ?_
  refine HW.seq ?_
  refine HW.region ?_
  refine HO.val (v := .pointer (some ⟨b_1, 0, none⟩)) (want_none) rfl (q_fieldAddr fa_24_0 rfl rfl) ?_
  refine HO.val (v := .bool s_Exclude) (want_none) rfl (q_load to_4 rfl (Blk.cell (hS.box 6 rfl) rfl)) ?_
  refine HO.nil (thenQ_normal (?_))
  refine HW.cond s_Exclude rfl (fun c_1 => ?_) (fun c_1 => ?_)
  · replace hM := hM.1 c_1
    refine HW.regionA 9 mixed (fun h => (Blk h b_1 (.cells #[.bool s_Exclude, vs_On, vs_Off] 24 (0, 0)))) [] (by kernel_rfl) ?_
    refine HA.val (k := 0) (v := .pointer (some ⟨b_1, 2, none⟩)) rfl rfl (by kernel_rfl) (by kernel_rfl) (want_none) rfl (fun _ c203 => q_fieldAddr fa_24_2 rfl rfl) ?_
    refine HA.val (k := 1) (v := vs_Off) rfl rfl (by kernel_rfl) (by kernel_rfl) (want_none) rfl (fun _ c203 => q_load to_22 rfl (Blk.cell c203 rfl)) ?_
    refine HA.val (k := 2) (v := .pointer (some ⟨b_1, 1, none⟩)) rfl rfl (by kernel_rfl) (by kernel_rfl) (want_none) rfl (fun _ c203 => q_fieldAddr fa_24_1 rfl rfl) ?_
    refine HA.val (k := 3) (v := vs_On) rfl rfl (by kernel_rfl) (by kernel_rfl) (want_none) rfl (fun _ c203 => q_load to_22 rfl (Blk.cell c203 rfl)) ?_
    refine HA.val (k := 4) (v := vr_1) rfl rfl (by kernel_rfl) (by kernel_rfl) (want_none) rfl (fun _ c203 => q_move rfl) ?_
    refine HA.one (k := 5) ⟨(hS.box 6 rfl), (Go.Wk.at_nil _ _)⟩ (by kernel_rfl) ?_
    have hZ_2 := hS
    have hkz_2 := (hS.freeze).2
    replace hS := hS.freeze.1
    have hL_2 : SliceF (fun b => F_4 b ∨ (Ow.own 34 17 e_api_Addr vr_1 r_1).foot b) h_8 17 e_api_Addr vr_1 r_1 := ⟨(hZ_2.own 0 rfl).slice, fun _ b hb => .inr hb⟩
    refine HS.call rfl (want_none) rfl (ec en_37 rfl rfl) (srcs_And_walk (fr := (Ow.own 34 17 e_api_Addr vr_2 r_2 :: Ow.box b_3 24 #[.bool r_0_2, vr_2, vr_2_2] :: Ow.own 34 17 e_api_Addr vr_1_2 r_1_2 :: Ow.own 34 17 e_api_Addr vr_2_2 r_2_2 :: Ow.box b_2 24 #[.bool false, .slice none 0 0, .slice none 0 0] :: Ow.box b_1 24 #[.bool s_Exclude, vs_On, vs_Off] :: fr)) s_On r_1 vs_On vr_1 hS (hL_s_On.kp hkz_2) hL_2 hM) ?_
    rintro vr_3 h_9 ⟨F_5, r_3, _, rfl, hk, hS, _, _, hM⟩
    obtain ⟨hS, hk⟩ := hZ_2.back hk hS
    generalize (fun b => F_5 b ∧ ¬ (Ow.own 34 17 e_api_Addr vr_1 r_1).foot b) = F_6 at hS hk
    replace hK := hK.trans hk
    replace hL_s_On := hL_s_On.kp hk
    replace hL_s_Off := hL_s_Off.kp hk
    replace hL_l := hL_l.kp hk
    refine HA.one (k := 6) ⟨(hS.box 7 rfl), (Go.Wk.at_nil _ _)⟩ (by kernel_rfl) ?_
    replace hS : St F_6 (Ow.own 34 17 e_api_Addr vr_3 r_3 :: Ow.own 34 17 e_api_Addr vr_1 r_1 :: Ow.own 34 17 e_api_Addr vr_2 r_2 :: Ow.box b_3 24 #[.bool r_0_2, vr_2, vr_2_2] :: Ow.own 34 17 e_api_Addr vr_1_2 r_1_2 :: Ow.own 34 17 e_api_Addr vr_2_2 r_2_2 :: Ow.box b_2 24 #[.bool false, .slice none 0 0, .slice none 0 0] :: Ow.box b_1 24 #[.bool s_Exclude, vs_On, vs_Off] :: fr) h_9 := hS.perm2 [1, 0, 2, 3, 4, 5, 6, 7] 8 rfl rfl
    have hZ_3 := hS
    have hkz_3 := (hS.freeze).2
    replace hS := hS.freeze.1
    have hL_3 : SliceF (fun b => F_6 b ∨ (Ow.own 34 17 e_api_Addr vr_3 r_3).foot b) h_9 17 e_api_Addr vr_3 r_3 := ⟨(hZ_3.own 0 rfl).slice, fun _ b hb => .inr hb⟩
    refine HS.call rfl (want_none) rfl (ec en_40 rfl rfl) (srcs_Or_walk (fr := (Ow.own 34 17 e_api_Addr vr_1 r_1 :: Ow.own 34 17 e_api_Addr vr_2 r_2 :: Ow.box b_3 24 #[.bool r_0_2, vr_2, vr_2_2] :: Ow.own 34 17 e_api_Addr vr_1_2 r_1_2 :: Ow.own 34 17 e_api_Addr vr_2_2 r_2_2 :: Ow.box b_2 24 #[.bool false, .slice none 0 0, .slice none 0 0] :: Ow.box b_1 24 #[.bool s_Exclude, vs_On, vs_Off] :: fr)) s_Off r_3 vs_Off vr_3 hS (hL_s_Off.kp hkz_3) hL_3 hM) ?_
    rintro vr_4 h_10 ⟨F_7, r_4, _, rfl, hk, hS, _, _, hM⟩
    obtain ⟨hS, hk⟩ := hZ_3.back hk hS
    generalize (fun b => F_7 b ∧ ¬ (Ow.own 34 17 e_api_Addr vr_3 r_3).foot b) = F_8 at hS hk
    replace hK := hK.trans hk
    replace hL_s_On := hL_s_On.kp hk
    replace hL_s_Off := hL_s_Off.kp hk
    replace hL_l := hL_l.kp hk
    refine HA.val (k := 7) (v := .pointer (some ⟨b_3, 2, none⟩)) rfl rfl (by kernel_rfl) (by kernel_rfl) (want_none) rfl (fun _ c203 => q_fieldAddr fa_24_2 rfl rfl) ?_
    refine HA.one (k := 8) ⟨(hS.box 8 rfl), (Go.Wk.at_nil _ _)⟩ (by kernel_rfl) ?_
    refine HS.sto rfl (want_none) rfl (st_store (c' := #[.bool r_0_2, vr_2, vr_4]) hS (i := 4) rfl to_22 rfl rfl (shp (hS.own 1 rfl).slice).cells (shp (hS.own 1 rfl).slice).one (Nat.le_of_ble_eq_true rfl) rfl) ?_
    rintro h_11 ⟨hS, hk⟩
    replace hS : St F_8 (Ow.own 34 17 e_api_Addr vr_3 r_3 :: Ow.own 34 17 e_api_Addr vr_4 r_4 :: Ow.own 34 17 e_api_Addr vr_1 r_1 :: Ow.own 34 17 e_api_Addr vr_2 r_2 :: Ow.box b_3 24 #[.bool r_0_2, vr_2, vr_4] :: Ow.own 34 17 e_api_Addr vr_1_2 r_1_2 :: Ow.own 34 17 e_api_Addr vr_2_2 r_2_2 :: Ow.box b_2 24 #[.bool false, .slice none 0 0, .slice none 0 0] :: Ow.box b_1 24 #[.bool s_Exclude, vs_On, vs_Off] :: fr) h_11 := hS
    replace hK := hK.trans hk
    replace hL_s_On := hL_s_On.kp hk
    replace hL_s_Off := hL_s_Off.kp hk
    replace hL_l := hL_l.kp hk
    refine HA.nil ⟨(hS.box 8 rfl), (Go.Wk.at_nil _ _)⟩ (by kernel_rfl) (thenQ_normal (?_))
    refine HW.seq ?_
    refine HW.region ?_
    refine HO.val (v := .agg #[.bool r_0_2, vr_2, vr_4]) (want_none) rfl (q_loadAgg (cs := [.bool r_0_2, vr_2, vr_4]) ta_24 rfl rfl (Blk.cells (k := 3) (hS.box 4 rfl) rfl)) ?_
    refine HO.sto (want_none) rfl (st_storeAgg (c' := #[.bool r_0_2, vr_2, vr_4]) hS (i := 7) rfl ta_24 rfl rfl rfl (List.forall_mem_cons.2 ⟨rfl, (List.forall_mem_cons.2 ⟨(shp (hS.own 3 rfl).slice).one, (List.forall_mem_cons.2 ⟨(shp (hS.own 1 rfl).slice).one, (fun _ h => by cases h)⟩)⟩)⟩) (Nat.le_of_ble_eq_true rfl) rfl) ?_
    rintro h_12 ⟨hS, hk⟩
    replace hS : St F_8 (Ow.own 34 17 e_api_Addr vr_3 r_3 :: Ow.own 34 17 e_api_Addr vr_4 r_4 :: Ow.own 34 17 e_api_Addr vr_1 r_1 :: Ow.own 34 17 e_api_Addr vr_2 r_2 :: Ow.box b_3 24 #[.bool r_0_2, vr_2, vr_4] :: Ow.own 34 17 e_api_Addr vr_1_2 r_1_2 :: Ow.own 34 17 e_api_Addr vr_2_2 r_2_2 :: Ow.box b_2 24 #[.bool r_0_2, vr_2, vr_4] :: Ow.box b_1 24 #[.bool s_Exclude, vs_On, vs_Off] :: fr) h_12 := hS
    replace hK := hK.trans hk
    replace hL_s_On := hL_s_On.kp hk
    replace hL_s_Off := hL_s_Off.kp hk
    replace hL_l := hL_l.kp hk
    refine HO.nil (thenQ_normal (?_))
    refine HW.ret (?_)
    refine ⟨.inr rfl, .agg #[.bool r_0_2, vr_2, vr_4], res1 rfl (rca (cs := [.bool r_0_2, vr_2, vr_4]) ta_24 rfl rfl (Blk.cells (k := 3) (hS.box 7 rfl) rfl)), ?_⟩
    replace hS : St F_8 (Ow.own 34 17 e_api_Addr vr_2 r_2 :: Ow.own 34 17 e_api_Addr vr_4 r_4 :: fr) h_12 := hS.perm2 [3, 1] 9 rfl rfl
    exact ⟨F_8, r_0_2, r_2, r_4, vr_2, vr_4, rfl, hK, hS, hL_s_On, hL_s_Off, hL_l, hM⟩
  · replace hM := hM.2 c_1
    refine HW.skip (thenQ_normal (?_))
    refine HW.seq ?_
    refine HW.region ?_
    refine HO.val (v := .agg #[.bool r_0_2, vr_2, vr_2_2]) (want_none) rfl (q_loadAgg (cs := [.bool r_0_2, vr_2, vr_2_2]) ta_24 rfl rfl (Blk.cells (k := 3) (hS.box 2 rfl) rfl)) ?_
    refine HO.sto (want_none) rfl (st_storeAgg (c' := #[.bool r_0_2, vr_2, vr_2_2]) hS (i := 5) rfl ta_24 rfl rfl rfl (List.forall_mem_cons.2 ⟨rfl, (List.forall_mem_cons.2 ⟨(shp (hS.own 1 rfl).slice).one, (List.forall_mem_cons.2 ⟨(shp (hS.own 4 rfl).slice).one, (fun _ h => by cases h)⟩)⟩)⟩) (Nat.le_of_ble_eq_true rfl) rfl) ?_
    rintro h_13 ⟨hS, hk⟩
    replace hS : St F_4 (Ow.own 34 17 e_api_Addr vr_1 r_1 :: Ow.own 34 17 e_api_Addr vr_2 r_2 :: Ow.box b_3 24 #[.bool r_0_2, vr_2, vr_2_2] :: Ow.own 34 17 e_api_Addr vr_1_2 r_1_2 :: Ow.own 34 17 e_api_Addr vr_2_2 r_2_2 :: Ow.box b_2 24 #[.bool r_0_2, vr_2, vr_2_2] :: Ow.box b_1 24 #[.bool s_Exclude, vs_On, vs_Off] :: fr) h_13 := hS
    replace hK := hK.trans hk
    replace hL_s_On := hL_s_On.kp hk
    replace hL_s_Off := hL_s_Off.kp hk
    replace hL_l := hL_l.kp hk
    refine HO.nil (thenQ_normal (?_))
    refine HW.ret (?_)
    refine ⟨.inr rfl, .agg #[.bool r_0_2, vr_2, vr_2_2], res1 rfl (rca (cs := [.bool r_0_2, vr_2, vr_2_2]) ta_24 rfl rfl (Blk.cells (k := 3) (hS.box 5 rfl) rfl)), ?_⟩
    replace hS : St F_4 (Ow.own 34 17 e_api_Addr vr_2 r_2 :: Ow.own 34 17 e_api_Addr vr_2_2 r_2_2 :: fr) h_13 := hS.perm2 [1, 4] 7 rfl rfl
    exact ⟨F_4, r_0_2, r_2, r_2_2, vr_2, vr_2_2, rfl, hK, hS, hL_s_On, hL_s_Off, hL_l, hM⟩

def filter_Turn_W (s_Exclude : Bool) (s_On : List T_api_Addr) (s_Off : List T_api_Addr) (Q : Bool → (List T_api_Addr) → (List T_api_Addr) → Prop) : Prop :=
  slices_Clone_s_api_Addr_api_Addr_W s_On (fun r_1 => Q false r_1 [])
set_option maxHeartbeats 40000000 in
set_option maxRecDepth 100000 in
theorem filter_Turn_walk {F : Fz} {fr : List Ow} {h0 : Heap} (s_Exclude : Bool) (s_On : List T_api_Addr) (s_Off : List T_api_Addr) (vs_On : Value) (vs_Off : Value) (hS : St F (fr) h0) (hL_s_On : SliceF F h0 17 e_api_Addr vs_On s_On) (hL_s_Off : SliceF F h0 17 e_api_Addr vs_Off s_Off) {Q : Bool → (List T_api_Addr) → (List T_api_Addr) → Prop} (hM : filter_Turn_W s_Exclude s_On s_Off Q) :
    HC Try.prog 20 #[.agg #[.bool s_Exclude, vs_On, vs_Off]] h0 fun u h' => ∃ (F' : Fz) (r_0_1 : Bool) (r_1_1 : List T_api_Addr) (r_2_1 : List T_api_Addr) (vr_1_1 : Value) (vr_2_1 : Value), u = .agg #[.bool r_0_1, vr_1_1, vr_2_1] ∧ Kp F h0 F' h' ∧ St F' (Ow.own 34 17 e_api_Addr vr_1_1 r_1_1 :: Ow.own 34 17 e_api_Addr vr_2_1 r_2_1 :: fr) h' ∧ (SliceF F' h' 17 e_api_Addr vs_On s_On) ∧ (SliceF F' h' 17 e_api_Addr vs_Off s_Off) ∧ Q r_0_1 r_1_1 r_2_1 := by
  unfold filter_Turn_W at hM
  have hK := Kp.refl F h0
  refine HC.of_HW (n := 7) Try.func20 rfl rfl (Nat.le_of_ble_eq_true rfl) ?_
  refine HW.seq ?_
  refine HW.region ?_
  refine HO.eff (want_none) rfl (st_box (c := #[.bool s_Exclude, vs_On, vs_Off]) (k' := 3) hS rfl rfl) ?_
  rintro _ h_1 ⟨b_1, rfl, hS, hk⟩
  replace hK := hK.trans hk
  replace hL_s_On := hL_s_On.kp hk
  replace hL_s_Off := hL_s_Off.kp hk
  refine HO.eff (want_none) rfl (st_alloc (c := #[.bool false, .slice none 0 0, .slice none 0 0]) hS tz_24 rfl) ?_
  rintro _ h_2 ⟨b_2, rfl, hS, hk⟩
  replace hK := hK.trans hk
  replace hL_s_On := hL_s_On.kp hk
  replace hL_s_Off := hL_s_Off.kp hk
  refine HO.nil (thenQ_normal (?_))
  refine HW.seq ?_
  refine HW.region ?_
  refine HO.val (v := .pointer (some ⟨b_1, 1, none⟩)) (want_none) rfl (q_fieldAddr fa_24_1 rfl rfl) ?_
  refine HO.val (v := vs_On) (want_none) rfl (q_load to_22 rfl (Blk.cell (hS.box 1 rfl) rfl)) ?_
  refine HO.call (want_none) rfl (ec en_41 rfl rfl) (slices_Clone_s_api_Addr_api_Addr_walk (fr := (Ow.box b_2 24 #[.bool false, .slice none 0 0, .slice none 0 0] :: Ow.box b_1 24 #[.bool s_Exclude, vs_On, vs_Off] :: fr)) s_On vs_On hS hL_s_On hM) ?_
  rintro vr_1 h_3 ⟨F_1, r_1, _, rfl, hk, hS, _, hM⟩
  replace hK := hK.trans hk
  replace hL_s_On := hL_s_On.kp hk
  replace hL_s_Off := hL_s_Off.kp hk
  refine HO.val (v := .agg #[.bool false, vr_1, .slice none 0 0]) (want_none) rfl (q_build tp_24 (fill_cons (cs' := #[.bool false, vr_1, .slice none 0 0]) (vc := #[vr_1]) rfl (shp (hS.own 0 rfl).slice).cells rfl (Nat.le_of_ble_eq_true rfl) rfl rfl)) ?_
  refine HO.sto (want_none) rfl (st_storeAgg (c' := #[.bool false, vr_1, .slice none 0 0]) hS (i := 1) rfl ta_24 rfl rfl rfl (List.forall_mem_cons.2 ⟨rfl, (List.forall_mem_cons.2 ⟨(shp (hS.own 0 rfl).slice).one, (List.forall_mem_cons.2 ⟨rfl, (fun _ h => by cases h)⟩)⟩)⟩) (Nat.le_of_ble_eq_true rfl) rfl) ?_
  rintro h_4 ⟨hS, hk⟩
  replace hS : St F_1 (Ow.own 34 17 e_api_Addr vr_1 r_1 :: Ow.box b_2 24 #[.bool false, vr_1, .slice none 0 0] :: Ow.box b_1 24 #[.bool s_Exclude, vs_On, vs_Off] :: fr) h_4 := hS
  replace hK := hK.trans hk
  replace hL_s_On := hL_s_On.kp hk
  replace hL_s_Off := hL_s_Off.kp hk
  refine HO.nil (thenQ_normal (?_))
  refine HW.ret (?_)
  refine ⟨.inr rfl, .agg #[.bool false, vr_1, .slice none 0 0], res1 rfl (rca (cs := [.bool false, vr_1, .slice none 0 0]) ta_24 rfl rfl (Blk.cells (k := 3) (hS.box 1 rfl) rfl)), ?_⟩
  replace hS := hS.nilOwn 34 17 e_api_Addr
  replace hS : St F_1 (Ow.own 34 17 e_api_Addr vr_1 r_1 :: Ow.own 34 17 e_api_Addr (.slice none 0 0) ([] : List T_api_Addr) :: fr) h_4 := hS.perm2 [1, 0] 4 rfl rfl
  exact ⟨F_1, false, r_1, [], vr_1, .slice none 0 0, rfl, hK, hS, hL_s_On, hL_s_Off, hM⟩

def ref15_Expire_j1 (s_Exclude : Bool) (s_On : List T_api_Addr) (s_Off : List T_api_Addr) (l : List T_api_Addr) (Q : Bool → (List T_api_Addr) → (List T_api_Addr) → Prop) (out_1_1 : List T_api_Addr) : Prop :=
  (s_Exclude = true → ref11_Pick_W s_On l true (fun r_2 => ref11_Or_W s_Off r_2 (fun r_3 => Q s_Exclude out_1_1 r_3))) ∧ (s_Exclude = false → Q s_Exclude out_1_1 s_Off)
def ref15_Expire_W (s_Exclude : Bool) (s_On : List T_api_Addr) (s_Off : List T_api_Addr) (l : List T_api_Addr) (Q : Bool → (List T_api_Addr) → (List T_api_Addr) → Prop) : Prop :=
  ref11_Pick_W s_On l false (fun r_1 => ref15_Expire_j1 s_Exclude s_On s_Off l Q r_1)
set_option maxHeartbeats 40000000 in
set_option maxRecDepth 100000 in
theorem ref15_Expire_walk {F : Fz} {fr : List Ow} {h0 : Heap} (s_Exclude : Bool) (s_On : List T_api_Addr) (s_Off : List T_api_Addr) (l : List T_api_Addr) (vs_On : Value) (vs_Off : Value) (vl : Value) (hS : St F (fr) h0) (hL_s_On : SliceF F h0 17 e_api_Addr vs_On s_On) (hL_s_Off : SliceF F h0 17 e_api_Addr vs_Off s_Off) (hL_l : SliceF F h0 17 e_api_Addr vl l) {Q : Bool → (List T_api_Addr) → (List T_api_Addr) → Prop} (hM : ref15_Expire_W s_Exclude s_On s_Off l Q) :
    HC Try.prog 22 #[.agg #[.bool s_Exclude, vs_On, vs_Off], vl] h0 fun u h' => ∃ (F' : Fz) (r_0_1 : Bool) (r_1_1 : List T_api_Addr) (r_2_1 : List T_api_Addr) (vr_1_1 : Value) (vr_2_1 : Value), u = .agg #[.bool r_0_1, vr_1_1, vr_2_1] ∧ Kp F h0 F' h' ∧ St F' (Ow.own 34 17 e_api_Addr vr_1_1 r_1_1 :: fr) h' ∧ (SliceF F' h' 17 e_api_Addr vs_On s_On) ∧ (SliceF F' h' 17 e_api_Addr vs_Off s_Off) ∧ (SliceF F' h' 17 e_api_Addr vl l) ∧ (SliceF F' h' 17 e_api_Addr vr_2_1 r_2_1) ∧ Q r_0_1 r_1_1 r_2_1 := by
  unfold ref15_Expire_W at hM
  have hK := Kp.refl F h0
  refine HC.of_HW (n := 26) Try.func22 rfl rfl (Nat.le_of_ble_eq_true rfl) ?_
  refine HW.seq ?_
  refine HW.region ?_
  refine HO.eff (want_none) rfl (st_box (c := #[.bool s_Exclude, vs_On, vs_Off]) (k' := 3) hS rfl rfl) ?_
  rintro _ h_1 ⟨b_1, rfl, hS, hk⟩
  replace hK := hK.trans hk
  replace hL_s_On := hL_s_On.kp hk
  replace hL_s_Off := hL_s_Off.kp hk
  replace hL_l := hL_l.kp hk
  refine HO.eff (want_none) rfl (st_alloc (c := #[.bool false, .slice none 0 0, .slice none 0 0]) hS tz_24 rfl) ?_
  rintro _ h_2 ⟨b_2, rfl, hS, hk⟩
  replace hK := hK.trans hk
  replace hL_s_On := hL_s_On.kp hk
  replace hL_s_Off := hL_s_Off.kp hk
  replace hL_l := hL_l.kp hk
  refine HO.nil (thenQ_normal (?_))
  refine HW.seq_mid (fun f h => ∃ (F' : Fz) (out_1_1 : List T_api_Addr) (b_3 : Nat) (vout_1_1 : Value), f 1 = vl ∧ f 2 = .pointer (some ⟨b_1, 0, none⟩) ∧ f 4 = .pointer (some ⟨b_2, 0, none⟩) ∧ f 5 = .pointer (some ⟨b_3, 0, none⟩) ∧ Kp F h0 F' h ∧ St F' (Ow.box b_1 24 #[.bool s_Exclude, vs_On, vs_Off] :: Ow.box b_2 24 #[.bool false, .slice none 0 0, .slice none 0 0] :: Ow.box b_3 24 #[.bool s_Exclude, vout_1_1, vs_Off] :: Ow.own 34 17 e_api_Addr vout_1_1 out_1_1 :: fr) h ∧ (SliceF F' h 17 e_api_Addr vs_On s_On) ∧ (SliceF F' h 17 e_api_Addr vs_Off s_Off) ∧ (SliceF F' h 17 e_api_Addr vl l) ∧ ref15_Expire_j1 s_Exclude s_On s_Off l Q out_1_1) ?_ ?_
  · refine HW.regionA 11 mixed (fun h => (SliceIs h 17 e_api_Addr vs_Off s_Off) ∧ (Blk h b_1 (.cells #[.bool s_Exclude, vs_On, vs_Off] 24 (0, 0)))) [] (by kernel_rfl) ?_
    refine HA.val (k := 0) (v := .pointer (some ⟨b_1, 0, none⟩)) rfl rfl (by kernel_rfl) (by kernel_rfl) (want_none) rfl (fun _ ⟨hL_s_Off, c202⟩ => q_fieldAddr fa_24_0 rfl rfl) ?_
    refine HA.val (k := 1) (v := .bool s_Exclude) rfl rfl (by kernel_rfl) (by kernel_rfl) (want_none) rfl (fun _ ⟨hL_s_Off, c202⟩ => q_load to_4 rfl (Blk.cell c202 rfl)) ?_
    refine HA.val (k := 2) (v := .pointer (some ⟨b_1, 1, none⟩)) rfl rfl (by kernel_rfl) (by kernel_rfl) (want_none) rfl (fun _ ⟨hL_s_Off, c202⟩ => q_fieldAddr fa_24_1 rfl rfl) ?_
    refine HA.val (k := 3) (v := vs_On) rfl rfl (by kernel_rfl) (by kernel_rfl) (want_none) rfl (fun _ ⟨hL_s_Off, c202⟩ => q_load to_22 rfl (Blk.cell c202 rfl)) ?_
    refine HA.val (k := 4) (v := vl) rfl rfl (by kernel_rfl) (by kernel_rfl) (want_none) rfl (fun _ ⟨hL_s_Off, c202⟩ => q_move rfl) ?_
    refine HA.val (k := 6) (v := .pointer (some ⟨b_1, 2, none⟩)) rfl rfl (by kernel_rfl) (by kernel_rfl) (want_none) rfl (fun _ ⟨hL_s_Off, c202⟩ => q_fieldAddr fa_24_2 rfl rfl) ?_
    refine HA.val (k := 7) (v := vs_Off) rfl rfl (by kernel_rfl) (by kernel_rfl) (want_none) rfl (fun _ ⟨hL_s_Off, c202⟩ => q_load to_22 rfl (Blk.cell c202 rfl)) ?_
    refine HA.two (k := 5) (k' := 9) ⟨⟨hL_s_Off.is, (hS.box 1 rfl)⟩, (Go.Wk.at_nil _ _)⟩ (by kernel_rfl) ?_ ?_
    · refine HS.call rfl (want_none) rfl (ec en_42 rfl rfl) (ref11_Pick_walk (fr := (Ow.box b_2 24 #[.bool false, .slice none 0 0, .slice none 0 0] :: Ow.box b_1 24 #[.bool s_Exclude, vs_On, vs_Off] :: fr)) s_On l false vs_On vl hS hL_s_On hL_l hM) ?_
      rintro vr_1 h_3 ⟨F_1, r_1, _, rfl, hk, hS, _, _, hM⟩
      replace hK := hK.trans hk
      replace hL_s_On := hL_s_On.kp hk
      replace hL_s_Off := hL_s_Off.kp hk
      replace hL_l := hL_l.kp hk
      refine Go.Wk.HA.re (fun h => (SliceIs h 17 e_api_Addr vs_Off s_Off) ∧ (OwnIs h 0 34 17 e_api_Addr vr_1 r_1) ∧ (Blk h b_1 (.cells #[.bool s_Exclude, vs_On, vs_Off] 24 (0, 0)))) [] (fun L_ h_ hL_ ⟨hL_s_Off, c238, c202⟩ hs_ => ⟨⟨hL_s_Off, c202⟩, (Go.Wk.at_nil _ _)⟩) ?_
      refine HA.val (k := 8) (v := .agg #[.bool s_Exclude, vr_1, vs_Off]) rfl rfl (by kernel_rfl) (by kernel_rfl) (want_none) rfl (fun _ ⟨hL_s_Off, c238, c202⟩ => q_build tp_24 (fill_cons (cs' := #[.bool s_Exclude, .slice none 0 0, .slice none 0 0]) (vc := #[.bool s_Exclude]) rfl rfl rfl (Nat.le_of_ble_eq_true rfl) rfl (fill_cons (cs' := #[.bool s_Exclude, vr_1, .slice none 0 0]) (vc := #[vr_1]) rfl (shp c238.slice).cells rfl (Nat.le_of_ble_eq_true rfl) rfl (fill_cons (cs' := #[.bool s_Exclude, vr_1, vs_Off]) (vc := #[vs_Off]) rfl (shp hL_s_Off).cells rfl (Nat.le_of_ble_eq_true rfl) rfl rfl)))) ?_
      refine HA.one (k := 9) ⟨⟨hL_s_Off.is, (hS.own 0 rfl), (hS.box 2 rfl)⟩, (Go.Wk.at_nil _ _)⟩ (by kernel_rfl) ?_
      refine HS.eff rfl (want_none) rfl (st_alloc (c := #[.bool false, .slice none 0 0, .slice none 0 0]) hS tz_24 rfl) ?_
      rintro _ h_4 ⟨b_4, rfl, hS, hk⟩
      replace hK := hK.trans hk
      replace hL_s_On := hL_s_On.kp hk
      replace hL_s_Off := hL_s_Off.kp hk
      replace hL_l := hL_l.kp hk
      refine HA.one (k := 10) ⟨⟨hL_s_Off.is, (hS.own 1 rfl), (hS.box 3 rfl)⟩, (Go.Wk.at_nil _ _)⟩ (by kernel_rfl) ?_
      refine HS.sto rfl (want_none) rfl (st_storeAgg (c' := #[.bool s_Exclude, vr_1, vs_Off]) hS (i := 0) rfl ta_24 rfl rfl rfl (List.forall_mem_cons.2 ⟨rfl, (List.forall_mem_cons.2 ⟨(shp (hS.own 1 rfl).slice).one, (List.forall_mem_cons.2 ⟨(shp hL_s_Off.is).one, (fun _ h => by cases h)⟩)⟩)⟩) (Nat.le_of_ble_eq_true rfl) rfl) ?_
      rintro h_5 ⟨hS, hk⟩
      replace hS : St F_1 (Ow.box b_4 24 #[.bool s_Exclude, vr_1, vs_Off] :: Ow.own 34 17 e_api_Addr vr_1 r_1 :: Ow.box b_2 24 #[.bool false, .slice none 0 0, .slice none 0 0] :: Ow.box b_1 24 #[.bool s_Exclude, vs_On, vs_Off] :: fr) h_5 := hS
      replace hK := hK.trans hk
      replace hL_s_On := hL_s_On.kp hk
      replace hL_s_Off := hL_s_Off.kp hk
      replace hL_l := hL_l.kp hk
      refine HA.nil ⟨⟨hL_s_Off.is, (hS.own 1 rfl), (hS.box 3 rfl)⟩, (Go.Wk.at_nil _ _)⟩ (by kernel_rfl) (thenQ_normal (?_))
      replace hS : St F_1 (Ow.box b_1 24 #[.bool s_Exclude, vs_On, vs_Off] :: Ow.box b_2 24 #[.bool false, .slice none 0 0, .slice none 0 0] :: Ow.box b_4 24 #[.bool s_Exclude, vr_1, vs_Off] :: Ow.own 34 17 e_api_Addr vr_1 r_1 :: fr) h_5 := hS.perm2 [3, 2, 0, 1] 4 rfl rfl
      exact ⟨F_1, r_1, b_4, vr_1, rfl, rfl, rfl, rfl, hK, hS, hL_s_On, hL_s_Off, hL_l, hM⟩
    · refine HS.eff rfl (want_none) rfl (st_alloc (c := #[.bool false, .slice none 0 0, .slice none 0 0]) hS tz_24 rfl) ?_
      rintro _ h_3 ⟨b_4, rfl, hS, hk⟩
      replace hK := hK.trans hk
      replace hL_s_On := hL_s_On.kp hk
      replace hL_s_Off := hL_s_Off.kp hk
      replace hL_l := hL_l.kp hk
      refine HA.one (k := 5) ⟨⟨hL_s_Off.is, (hS.box 2 rfl)⟩, (Go.Wk.at_nil _ _)⟩ (by kernel_rfl) ?_
      refine HS.call rfl (want_none) rfl (ec en_42 rfl rfl) (ref11_Pick_walk (fr := (Ow.box b_4 24 #[.bool false, .slice none 0 0, .slice none 0 0] :: Ow.box b_2 24 #[.bool false, .slice none 0 0, .slice none 0 0] :: Ow.box b_1 24 #[.bool s_Exclude, vs_On, vs_Off] :: fr)) s_On l false vs_On vl hS hL_s_On hL_l hM) ?_
      rintro vr_1 h_4 ⟨F_1, r_1, _, rfl, hk, hS, _, _, hM⟩
      replace hK := hK.trans hk
      replace hL_s_On := hL_s_On.kp hk
      replace hL_s_Off := hL_s_Off.kp hk
      replace hL_l := hL_l.kp hk
      refine Go.Wk.HA.re (fun h => (SliceIs h 17 e_api_Addr vs_Off s_Off) ∧ (OwnIs h 0 34 17 e_api_Addr vr_1 r_1) ∧ (Blk h b_1 (.cells #[.bool s_Exclude, vs_On, vs_Off] 24 (0, 0)))) [] (fun L_ h_ hL_ ⟨hL_s_Off, c238, c202⟩ hs_ => ⟨⟨hL_s_Off, c202⟩, (Go.Wk.at_nil _ _)⟩) ?_
      refine HA.val (k := 8) (v := .agg #[.bool s_Exclude, vr_1, vs_Off]) rfl rfl (by kernel_rfl) (by kernel_rfl) (want_none) rfl (fun _ ⟨hL_s_Off, c238, c202⟩ => q_build tp_24 (fill_cons (cs' := #[.bool s_Exclude, .slice none 0 0, .slice none 0 0]) (vc := #[.bool s_Exclude]) rfl rfl rfl (Nat.le_of_ble_eq_true rfl) rfl (fill_cons (cs' := #[.bool s_Exclude, vr_1, .slice none 0 0]) (vc := #[vr_1]) rfl (shp c238.slice).cells rfl (Nat.le_of_ble_eq_true rfl) rfl (fill_cons (cs' := #[.bool s_Exclude, vr_1, vs_Off]) (vc := #[vs_Off]) rfl (shp hL_s_Off).cells rfl (Nat.le_of_ble_eq_true rfl) rfl rfl)))) ?_
      refine HA.one (k := 10) ⟨⟨hL_s_Off.is, (hS.own 0 rfl), (hS.box 3 rfl)⟩, (Go.Wk.at_nil _ _)⟩ (by kernel_rfl) ?_
      refine HS.sto rfl (want_none) rfl (st_storeAgg (c' := #[.bool s_Exclude, vr_1, vs_Off]) hS (i := 1) rfl ta_24 rfl rfl rfl (List.forall_mem_cons.2 ⟨rfl, (List.forall_mem_cons.2 ⟨(shp (hS.own 0 rfl).slice).one, (List.forall_mem_cons.2 ⟨(shp hL_s_Off.is).one, (fun _ h => by cases h)⟩)⟩)⟩) (Nat.le_of_ble_eq_true rfl) rfl) ?_
      rintro h_5 ⟨hS, hk⟩
      replace hS : St F_1 (Ow.own 34 17 e_api_Addr vr_1 r_1 :: Ow.box b_4 24 #[.bool s_Exclude, vr_1, vs_Off] :: Ow.box b_2 24 #[.bool false, .slice none 0 0, .slice none 0 0] :: Ow.box b_1 24 #[.bool s_Exclude, vs_On, vs_Off] :: fr) h_5 := hS
      replace hK := hK.trans hk
      replace hL_s_On := hL_s_On.kp hk
      replace hL_s_Off := hL_s_Off.kp hk
      replace hL_l := hL_l.kp hk
      refine HA.nil ⟨⟨hL_s_Off.is, (hS.own 0 rfl), (hS.box 3 rfl)⟩, (Go.Wk.at_nil _ _)⟩ (by kernel_rfl) (thenQ_normal (?_))
      replace hS : St F_1 (Ow.box b_1 24 #[.bool s_Exclude, vs_On, vs_Off] :: Ow.box b_2 24 #[.bool false, .slice none 0 0, .slice none 0 0] :: Ow.box b_4 24 #[.bool s_Exclude, vr_1, vs_Off] :: Ow.own 34 17 e_api_Addr vr_1 r_1 :: fr) h_5 := hS.perm2 [3, 2, 1, 0] 4 rfl rfl
      exact ⟨F_1, r_1, b_4, vr_1, rfl, rfl, rfl, rfl, hK, hS, hL_s_On, hL_s_Off, hL_l, hM⟩
  · rintro f_1 h_6 ⟨F_2, out_1_1, b_3, vout_1_1, e1, e2, e4, e5, hK, hS, hL_s_On, hL_s_Off, hL_l, hM⟩
    unfold ref15_Expire_j1 at hM
    refine HW.fr [(1, vl), (2, .pointer (some ⟨b_1, 0, none⟩)), (4, .pointer (some ⟨b_2, 0, none⟩)), (5, .pointer (some ⟨b_3, 0, none⟩))] ⟨e1, e2, e4, e5, trivial⟩ ?_
    refine HW.seq ?_
    refine HW.seq ?_
    refine HW.region ?_
    refine HO.val (v := .pointer (some ⟨b_1, 0, none⟩)) (want_none) rfl (q_fieldAddr fa_24_0 rfl rfl) ?_
    refine HO.val (v := .bool s_Exclude) (want_none) rfl (q_load to_4 rfl (Blk.cell (hS.box 0 rfl) rfl)) ?_
    refine HO.nil (thenQ_normal (?_))
    refine HW.cond s_Exclude rfl (fun c_1 => ?_) (fun c_1 => ?_)
    · replace hM := hM.1 c_1
      refine HW.regionA 9 mixed (fun h => (Blk h b_1 (.cells #[.bool s_Exclude, vs_On, vs_Off] 24 (0, 0)))) [] (by kernel_rfl) ?_
      refine HA.val (k := 0) (v := .pointer (some ⟨b_1, 2, none⟩)) rfl rfl (by kernel_rfl) (by kernel_rfl) (want_none) rfl (fun _ c204 => q_fieldAddr fa_24_2 rfl rfl) ?_
      refine HA.val (k := 1) (v := vs_Off) rfl rfl (by kernel_rfl) (by kernel_rfl) (want_none) rfl (fun _ c204 => q_load to_22 rfl (Blk.cell c204 rfl)) ?_
      refine HA.val (k := 2) (v := .pointer (some ⟨b_1, 1, none⟩)) rfl rfl (by kernel_rfl) (by kernel_rfl) (want_none) rfl (fun _ c204 => q_fieldAddr fa_24_1 rfl rfl) ?_
      refine HA.val (k := 3) (v := vs_On) rfl rfl (by kernel_rfl) (by kernel_rfl) (want_none) rfl (fun _ c204 => q_load to_22 rfl (Blk.cell c204 rfl)) ?_
      refine HA.val (k := 4) (v := vl) rfl rfl (by kernel_rfl) (by kernel_rfl) (want_none) rfl (fun _ c204 => q_move rfl) ?_
      refine HA.one (k := 5) ⟨(hS.box 0 rfl), (Go.Wk.at_nil _ _)⟩ (by kernel_rfl) ?_
      refine HS.call rfl (want_none) rfl (ec en_42 rfl rfl) (ref11_Pick_walk (fr := (Ow.box b_1 24 #[.bool s_Exclude, vs_On, vs_Off] :: Ow.box b_2 24 #[.bool false, .slice none 0 0, .slice none 0 0] :: Ow.box b_3 24 #[.bool s_Exclude, vout_1_1, vs_Off] :: Ow.own 34 17 e_api_Addr vout_1_1 out_1_1 :: fr)) s_On l true vs_On vl hS hL_s_On hL_l hM) ?_
      rintro vr_2 h_7 ⟨F_3, r_2, _, rfl, hk, hS, _, _, hM⟩
      replace hK := hK.trans hk
      replace hL_s_On := hL_s_On.kp hk
      replace hL_s_Off := hL_s_Off.kp hk
      replace hL_l := hL_l.kp hk
      refine HA.one (k := 6) ⟨(hS.box 1 rfl), (Go.Wk.at_nil _ _)⟩ (by kernel_rfl) ?_
      obtain ⟨F_4, hS, hk, hL_2⟩ := hS.freezeOwn
      replace hK := hK.trans hk
      replace hL_s_On := hL_s_On.kp hk
      replace hL_s_Off := hL_s_Off.kp hk
      replace hL_l := hL_l.kp hk
      refine HS.call rfl (want_none) rfl (ec en_12 rfl rfl) (ref11_Or_walk (fr := (Ow.box b_1 24 #[.bool s_Exclude, vs_On, vs_Off] :: Ow.box b_2 24 #[.bool false, .slice none 0 0, .slice none 0 0] :: Ow.box b_3 24 #[.bool s_Exclude, vout_1_1, vs_Off] :: Ow.own 34 17 e_api_Addr vout_1_1 out_1_1 :: fr)) s_Off r_2 vs_Off vr_2 hS hL_s_Off hL_2 hM) ?_
      rintro vr_3 h_8 ⟨F_5, r_3, _, rfl, hk, hS, _, _, hL_3, hM⟩
      replace hK := hK.trans hk
      replace hL_s_On := hL_s_On.kp hk
      replace hL_s_Off := hL_s_Off.kp hk
      replace hL_l := hL_l.kp hk
      replace hL_2 := hL_2.kp hk
      refine HA.val (k := 7) (v := .pointer (some ⟨b_3, 2, none⟩)) rfl rfl (by kernel_rfl) (by kernel_rfl) (want_none) rfl (fun _ c204 => q_fieldAddr fa_24_2 rfl rfl) ?_
      refine HA.one (k := 8) ⟨(hS.box 0 rfl), (Go.Wk.at_nil _ _)⟩ (by kernel_rfl) ?_
      refine HS.sto rfl (want_none) rfl (st_store (c' := #[.bool s_Exclude, vout_1_1, vr_3]) hS (i := 2) rfl to_22 rfl rfl (shp hL_3.is).cells (shp hL_3.is).one (Nat.le_of_ble_eq_true rfl) rfl) ?_
      rintro h_9 ⟨hS, hk⟩
      replace hS : St F_5 (Ow.box b_1 24 #[.bool s_Exclude, vs_On, vs_Off] :: Ow.box b_2 24 #[.bool false, .slice none 0 0, .slice none 0 0] :: Ow.box b_3 24 #[.bool s_Exclude, vout_1_1, vr_3] :: Ow.own 34 17 e_api_Addr vout_1_1 out_1_1 :: fr) h_9 := hS
      replace hK := hK.trans hk
      replace hL_s_On := hL_s_On.kp hk
      replace hL_s_Off := hL_s_Off.kp hk
      replace hL_l := hL_l.kp hk
      replace hL_2 := hL_2.kp hk
      replace hL_3 := hL_3.kp hk
      refine HA.nil ⟨(hS.box 0 rfl), (Go.Wk.at_nil _ _)⟩ (by kernel_rfl) (thenQ_normal (?_))
      refine HW.seq ?_
      refine HW.region ?_
      refine HO.val (v := .agg #[.bool s_Exclude, vout_1_1, vr_3]) (want_none) rfl (q_loadAgg (cs := [.bool s_Exclude, vout_1_1, vr_3]) ta_24 rfl rfl (Blk.cells (k := 3) (hS.box 2 rfl) rfl)) ?_
      refine HO.sto (want_none) rfl (st_storeAgg (c' := #[.bool s_Exclude, vout_1_1, vr_3]) hS (i := 1) rfl ta_24 rfl rfl rfl (List.forall_mem_cons.2 ⟨rfl, (List.forall_mem_cons.2 ⟨(shp (hS.own 3 rfl).slice).one, (List.forall_mem_cons.2 ⟨(shp hL_3.is).one, (fun _ h => by cases h)⟩)⟩)⟩) (Nat.le_of_ble_eq_true rfl) rfl) ?_
      rintro h_10 ⟨hS, hk⟩
      replace hS : St F_5 (Ow.box b_1 24 #[.bool s_Exclude, vs_On, vs_Off] :: Ow.box b_2 24 #[.bool s_Exclude, vout_1_1, vr_3] :: Ow.box b_3 24 #[.bool s_Exclude, vout_1_1, vr_3] :: Ow.own 34 17 e_api_Addr vout_1_1 out_1_1 :: fr) h_10 := hS
      replace hK := hK.trans hk
      replace hL_s_On := hL_s_On.kp hk
      replace hL_s_Off := hL_s_Off.kp hk
      replace hL_l := hL_l.kp hk
      replace hL_2 := hL_2.kp hk
      replace hL_3 := hL_3.kp hk
      refine HO.nil (thenQ_normal (?_))
      refine HW.ret (?_)
      refine ⟨.inr rfl, .agg #[.bool s_Exclude, vout_1_1, vr_3], res1 rfl (rca (cs := [.bool s_Exclude, vout_1_1, vr_3]) ta_24 rfl rfl (Blk.cells (k := 3) (hS.box 1 rfl) rfl)), ?_⟩
      replace hS : St F_5 (Ow.own 34 17 e_api_Addr vout_1_1 out_1_1 :: fr) h_10 := hS.perm2 [3] 4 rfl rfl
      exact ⟨F_5, s_Exclude, out_1_1, r_3, vout_1_1, vr_3, rfl, hK, hS, hL_s_On, hL_s_Off, hL_l, hL_3, hM⟩
    · replace hM := hM.2 c_1
      refine HW.skip (thenQ_normal (?_))
      refine HW.seq ?_
      refine HW.region ?_
      refine HO.val (v := .agg #[.bool s_Exclude, vout_1_1, vs_Off]) (want_none) rfl (q_loadAgg (cs := [.bool s_Exclude, vout_1_1, vs_Off]) ta_24 rfl rfl (Blk.cells (k := 3) (hS.box 2 rfl) rfl)) ?_
      refine HO.sto (want_none) rfl (st_storeAgg (c' := #[.bool s_Exclude, vout_1_1, vs_Off]) hS (i := 1) rfl ta_24 rfl rfl rfl (List.forall_mem_cons.2 ⟨rfl, (List.forall_mem_cons.2 ⟨(shp (hS.own 3 rfl).slice).one, (List.forall_mem_cons.2 ⟨(shp hL_s_Off.is).one, (fun _ h => by cases h)⟩)⟩)⟩) (Nat.le_of_ble_eq_true rfl) rfl) ?_
      rintro h_11 ⟨hS, hk⟩
      replace hS : St F_2 (Ow.box b_1 24 #[.bool s_Exclude, vs_On, vs_Off] :: Ow.box b_2 24 #[.bool s_Exclude, vout_1_1, vs_Off] :: Ow.box b_3 24 #[.bool s_Exclude, vout_1_1, vs_Off] :: Ow.own 34 17 e_api_Addr vout_1_1 out_1_1 :: fr) h_11 := hS
      replace hK := hK.trans hk
      replace hL_s_On := hL_s_On.kp hk
      replace hL_s_Off := hL_s_Off.kp hk
      replace hL_l := hL_l.kp hk
      refine HO.nil (thenQ_normal (?_))
      refine HW.ret (?_)
      refine ⟨.inr rfl, .agg #[.bool s_Exclude, vout_1_1, vs_Off], res1 rfl (rca (cs := [.bool s_Exclude, vout_1_1, vs_Off]) ta_24 rfl rfl (Blk.cells (k := 3) (hS.box 1 rfl) rfl)), ?_⟩
      replace hS : St F_2 (Ow.own 34 17 e_api_Addr vout_1_1 out_1_1 :: fr) h_11 := hS.perm2 [3] 4 rfl rfl
      exact ⟨F_2, s_Exclude, out_1_1, s_Off, vout_1_1, vs_Off, rfl, hK, hS, hL_s_On, hL_s_Off, hL_l, hL_s_Off, hM⟩

def ref15_Turn_W (s_Exclude : Bool) (s_On : List T_api_Addr) (s_Off : List T_api_Addr) (Q : Bool → (List T_api_Addr) → (List T_api_Addr) → Prop) : Prop :=
  Q false s_On []
set_option maxHeartbeats 40000000 in
set_option maxRecDepth 100000 in
theorem ref15_Turn_walk {F : Fz} {fr : List Ow} {h0 : Heap} (s_Exclude : Bool) (s_On : List T_api_Addr) (s_Off : List T_api_Addr) (vs_On : Value) (vs_Off : Value) (hS : St F (fr) h0) (hL_s_On : SliceF F h0 17 e_api_Addr vs_On s_On) (hL_s_Off : SliceF F h0 17 e_api_Addr vs_Off s_Off) {Q : Bool → (List T_api_Addr) → (List T_api_Addr) → Prop} (hM : ref15_Turn_W s_Exclude s_On s_Off Q) :
    HC Try.prog 23 #[.agg #[.bool s_Exclude, vs_On, vs_Off]] h0 fun u h' => ∃ (F' : Fz) (r_0_1 : Bool) (r_1_1 : List T_api_Addr) (r_2_1 : List T_api_Addr) (vr_1_1 : Value) (vr_2_1 : Value), u = .agg #[.bool r_0_1, vr_1_1, vr_2_1] ∧ Kp F h0 F' h' ∧ St F' (Ow.own 34 17 e_api_Addr vr_2_1 r_2_1 :: fr) h' ∧ (SliceF F' h' 17 e_api_Addr vs_On s_On) ∧ (SliceF F' h' 17 e_api_Addr vs_Off s_Off) ∧ (SliceF F' h' 17 e_api_Addr vr_1_1 r_1_1) ∧ Q r_0_1 r_1_1 r_2_1 := by
  unfold ref15_Turn_W at hM
  have hK := Kp.refl F h0
  refine HC.of_HW (n := 6) Try.func23 rfl rfl (Nat.le_of_ble_eq_true rfl) ?_
  refine HW.seq ?_
  refine HW.region ?_
  refine HO.eff (want_none) rfl (st_box (c := #[.bool s_Exclude, vs_On, vs_Off]) (k' := 3) hS rfl rfl) ?_
  rintro _ h_1 ⟨b_1, rfl, hS, hk⟩
  replace hK := hK.trans hk
  replace hL_s_On := hL_s_On.kp hk
  replace hL_s_Off := hL_s_Off.kp hk
  refine HO.eff (want_none) rfl (st_alloc (c := #[.bool false, .slice none 0 0, .slice none 0 0]) hS tz_24 rfl) ?_
  rintro _ h_2 ⟨b_2, rfl, hS, hk⟩
  replace hK := hK.trans hk
  replace hL_s_On := hL_s_On.kp hk
  replace hL_s_Off := hL_s_Off.kp hk
  refine HO.nil (thenQ_normal (?_))
  refine HW.seq ?_
  refine HW.region ?_
  refine HO.val (v := .pointer (some ⟨b_1, 1, none⟩)) (want_none) rfl (q_fieldAddr fa_24_1 rfl rfl) ?_
  refine HO.val (v := vs_On) (want_none) rfl (q_load to_22 rfl (Blk.cell (hS.box 1 rfl) rfl)) ?_
  refine HO.val (v := .agg #[.bool false, vs_On, .slice none 0 0]) (want_none) rfl (q_build tp_24 (fill_cons (cs' := #[.bool false, vs_On, .slice none 0 0]) (vc := #[vs_On]) rfl (shp hL_s_On.is).cells rfl (Nat.le_of_ble_eq_true rfl) rfl rfl)) ?_
  refine HO.sto (want_none) rfl (st_storeAgg (c' := #[.bool false, vs_On, .slice none 0 0]) hS (i := 0) rfl ta_24 rfl rfl rfl (List.forall_mem_cons.2 ⟨rfl, (List.forall_mem_cons.2 ⟨(shp hL_s_On.is).one, (List.forall_mem_cons.2 ⟨rfl, (fun _ h => by cases h)⟩)⟩)⟩) (Nat.le_of_ble_eq_true rfl) rfl) ?_
  rintro h_3 ⟨hS, hk⟩
  replace hS : St F (Ow.box b_2 24 #[.bool false, vs_On, .slice none 0 0] :: Ow.box b_1 24 #[.bool s_Exclude, vs_On, vs_Off] :: fr) h_3 := hS
  replace hK := hK.trans hk
  replace hL_s_On := hL_s_On.kp hk
  replace hL_s_Off := hL_s_Off.kp hk
  refine HO.nil (thenQ_normal (?_))
  refine HW.ret (?_)
  refine ⟨.inr rfl, .agg #[.bool false, vs_On, .slice none 0 0], res1 rfl (rca (cs := [.bool false, vs_On, .slice none 0 0]) ta_24 rfl rfl (Blk.cells (k := 3) (hS.box 0 rfl) rfl)), ?_⟩
  replace hS := hS.nilOwn 34 17 e_api_Addr
  replace hS : St F (Ow.own 34 17 e_api_Addr (.slice none 0 0) ([] : List T_api_Addr) :: fr) h_3 := hS.perm2 [0] 3 rfl rfl
  exact ⟨F, false, s_On, [], vs_On, .slice none 0 0, rfl, hK, hS, hL_s_On, hL_s_Off, hL_s_On, hM⟩

def ref15_Lets_W (s_Exclude : Bool) (s_On : List T_api_Addr) (s_Off : List T_api_Addr) (a : T_api_Addr) (Q : Bool → Prop) : Prop :=
  (s_Exclude = true → ref11_Has_W s_Off a (fun r_2 => ((!r_2) = true → Q true) ∧ ((!r_2) = false → Q false))) ∧ (s_Exclude = false → ref11_Has_W s_On a (fun r_3 => Q r_3))
set_option maxHeartbeats 40000000 in
set_option maxRecDepth 100000 in
theorem ref15_Lets_walk {F : Fz} {fr : List Ow} {h0 : Heap} (s_Exclude : Bool) (s_On : List T_api_Addr) (s_Off : List T_api_Addr) (a : T_api_Addr) (vs_On : Value) (vs_Off : Value) (hS : St F (fr) h0) (hL_s_On : SliceF F h0 17 e_api_Addr vs_On s_On) (hL_s_Off : SliceF F h0 17 e_api_Addr vs_Off s_Off) {Q : Bool → Prop} (hM : ref15_Lets_W s_Exclude s_On s_Off a Q) :
    HC Try.prog 24 #[.agg #[.bool s_Exclude, vs_On, vs_Off], .agg (e_api_Addr a).toArray] h0 fun u h' => ∃ (F' : Fz) (r_1 : Bool), u = .bool r_1 ∧ Kp F h0 F' h' ∧ St F' (fr) h' ∧ (SliceF F' h' 17 e_api_Addr vs_On s_On) ∧ (SliceF F' h' 17 e_api_Addr vs_Off s_Off) ∧ Q r_1 := by
  unfold ref15_Lets_W at hM
  have hK := Kp.refl F h0
  refine HC.of_HW (n := 25) Try.func24 rfl rfl (Nat.le_of_ble_eq_true rfl) ?_
  refine HW.seq ?_
  refine HW.region ?_
  refine HO.eff (want_none) rfl (st_box (c := #[.bool s_Exclude, vs_On, vs_Off]) (k' := 3) hS rfl rfl) ?_
  rintro _ h_1 ⟨b_1, rfl, hS, hk⟩
  replace hK := hK.trans hk
  replace hL_s_On := hL_s_On.kp hk
  replace hL_s_Off := hL_s_Off.kp hk
  refine HO.eff (want_none) rfl (st_box (c := (e_api_Addr a).toArray) (k' := 17) hS rfl rfl) ?_
  rintro _ h_2 ⟨b_2, rfl, hS, hk⟩
  replace hK := hK.trans hk
  replace hL_s_On := hL_s_On.kp hk
  replace hL_s_Off := hL_s_Off.kp hk
  refine HO.val (v := .bool false) (want_none) rfl (q_assign rfl) ?_
  refine HO.nil (thenQ_normal (?_))
  refine HW.seq ?_
  refine HW.region ?_
  refine HO.val (v := .pointer (some ⟨b_1, 0, none⟩)) (want_none) rfl (q_fieldAddr fa_24_0 rfl rfl) ?_
  refine HO.val (v := .bool s_Exclude) (want_none) rfl (q_load to_4 rfl (Blk.cell (hS.box 1 rfl) rfl)) ?_
  refine HO.val (v := .bool s_Exclude) (want_none) rfl (q_move rfl) ?_
  rcases Bool.eq_false_or_eq_true s_Exclude with c_1 | c_1
  · replace hM := hM.1 c_1
    refine HO.val (v := .pointer (some ⟨b_1, 2, none⟩)) (want_by rfl rfl c_1) rfl (q_fieldAddr fa_24_2 rfl rfl) ?_
    refine HO.val (v := vs_Off) (want_by rfl rfl c_1) rfl (q_load to_22 rfl (Blk.cell (hS.box 1 rfl) rfl)) ?_
    refine HO.val (v := .agg (e_api_Addr a).toArray) (want_by rfl rfl c_1) rfl (q_loadAgg (cs := (e_api_Addr a)) ta_34 rfl rfl (Blk.cells (k := 17) (hS.box 0 rfl) rfl)) ?_
    refine HO.call (want_by rfl rfl c_1) rfl (ec en_13 rfl rfl) (ref11_Has_walk (fr := (Ow.box b_2 34 (e_api_Addr a).toArray :: Ow.box b_1 24 #[.bool s_Exclude, vs_On, vs_Off] :: fr)) s_Off a vs_Off hS hL_s_Off hM) ?_
    rintro _ h_3 ⟨F_1, r_2, rfl, hk, hS, _, hM⟩
    replace hK := hK.trans hk
    replace hL_s_On := hL_s_On.kp hk
    replace hL_s_Off := hL_s_Off.kp hk
    refine HO.val (v := .bool (!r_2)) (want_by rfl rfl c_1) rfl (q_not rfl) ?_
    refine HO.val (v := .bool (!r_2)) (want_none) rfl (q_pickK true rfl c_1 rfl) ?_
    refine HO.val (v := .bool (!r_2)) (want_none) rfl (q_move rfl) ?_
    rcases Bool.eq_false_or_eq_true (!r_2) with c_2 | c_2
    · replace hM := hM.1 c_2
      refine HO.past (past_by rfl rfl c_2) rfl ?_
      refine HO.past (past_by rfl rfl c_2) rfl ?_
      refine HO.past (past_by rfl rfl c_2) rfl ?_
      refine HO.past (past_by rfl rfl c_2) rfl ?_
      refine HO.past (past_undef rfl rfl) rfl ?_
      refine HO.past (past_undef rfl rfl) rfl ?_
      refine HO.past (past_undef rfl rfl) rfl ?_
      refine HO.past (past_undef rfl rfl) rfl ?_
      refine HO.past (past_by rfl rfl c_2) rfl ?_
      refine HO.val (v := .bool true) (want_none) rfl (q_pickK true rfl c_2 rfl) ?_
      refine HO.val (v := .bool true) (want_none) rfl (q_assign rfl) ?_
      refine HO.nil (thenQ_normal (?_))
      refine HW.ret (?_)
      refine ⟨.inr rfl, .bool true, res1 rfl (rt rfl), ?_⟩
      replace hS : St F_1 (fr) h_3 := hS.perm2 [] 2 rfl rfl
      exact ⟨F_1, true, rfl, hK, hS, hL_s_On, hL_s_Off, hM⟩
    · replace hM := hM.2 c_2
      refine HO.val (v := .pointer (some ⟨b_1, 0, none⟩)) (want_by rfl rfl c_2) rfl (q_fieldAddr fa_24_0 rfl rfl) ?_
      refine HO.val (v := .bool s_Exclude) (want_by rfl rfl c_2) rfl (q_load to_4 rfl (Blk.cell (hS.box 1 rfl) rfl)) ?_
      refine HO.val (v := .bool (!s_Exclude)) (want_by rfl rfl c_2) rfl (q_not rfl) ?_
      refine HO.val (v := .bool (!s_Exclude)) (want_by rfl rfl c_2) rfl (q_move rfl) ?_
      refine HO.past (past_by rfl rfl (by rw [c_1] <;> rfl)) rfl ?_
      refine HO.past (past_by rfl rfl (by rw [c_1] <;> rfl)) rfl ?_
      refine HO.past (past_by rfl rfl (by rw [c_1] <;> rfl)) rfl ?_
      refine HO.past (past_by rfl rfl (by rw [c_1] <;> rfl)) rfl ?_
      refine HO.val (v := .bool false) (want_by rfl rfl c_2) rfl (q_pickK false rfl (by rw [c_1] <;> rfl) rfl) ?_
      refine HO.val (v := .bool false) (want_none) rfl (q_pickK false rfl c_2 rfl) ?_
      refine HO.val (v := .bool false) (want_none) rfl (q_assign rfl) ?_
      refine HO.nil (thenQ_normal (?_))
      refine HW.ret (?_)
      refine ⟨.inr rfl, .bool false, res1 rfl (rt rfl), ?_⟩
      replace hS : St F_1 (fr) h_3 := hS.perm2 [] 2 rfl rfl
      exact ⟨F_1, false, rfl, hK, hS, hL_s_On, hL_s_Off, hM⟩
  · replace hM := hM.2 c_1
    refine HO.past (past_by rfl rfl c_1) rfl ?_
    refine HO.past (past_by rfl rfl c_1) rfl ?_
    refine HO.past (past_by rfl rfl c_1) rfl ?_
    refine HO.past (past_by rfl rfl c_1) rfl ?_
    refine HO.past (past_by rfl rfl c_1) rfl ?_
    refine HO.val (v := .bool false) (want_none) rfl (q_pickK false rfl c_1 rfl) ?_
    refine HO.val (v := .bool false) (want_none) rfl (q_move rfl) ?_
    refine HO.val (v := .pointer (some ⟨b_1, 0, none⟩)) (want_some rfl rfl) rfl (q_fieldAddr fa_24_0 rfl rfl) ?_
    refine HO.val (v := .bool s_Exclude) (want_some rfl rfl) rfl (q_load to_4 rfl (Blk.cell (hS.box 1 rfl) rfl)) ?_
    refine HO.val (v := .bool (!s_Exclude)) (want_some rfl rfl) rfl (q_not rfl) ?_
    refine HO.val (v := .bool (!s_Exclude)) (want_some rfl rfl) rfl (q_move rfl) ?_
    refine HO.val (v := .pointer (some ⟨b_1, 1, none⟩)) (want_by rfl rfl (by rw [c_1] <;> rfl)) rfl (q_fieldAddr fa_24_1 rfl rfl) ?_
    refine HO.val (v := vs_On) (want_by rfl rfl (by rw [c_1] <;> rfl)) rfl (q_load to_22 rfl (Blk.cell (hS.box 1 rfl) rfl)) ?_
    refine HO.val (v := .agg (e_api_Addr a).toArray) (want_by rfl rfl (by rw [c_1] <;> rfl)) rfl (q_loadAgg (cs := (e_api_Addr a)) ta_34 rfl rfl (Blk.cells (k := 17) (hS.box 0 rfl) rfl)) ?_
    refine HO.call (want_by rfl rfl (by rw [c_1] <;> rfl)) rfl (ec en_13 rfl rfl) (ref11_Has_walk (fr := (Ow.box b_2 34 (e_api_Addr a).toArray :: Ow.box b_1 24 #[.bool s_Exclude, vs_On, vs_Off] :: fr)) s_On a vs_On hS hL_s_On hM) ?_
    rintro _ h_4 ⟨F_2, r_3, rfl, hk, hS, _, hM⟩
    replace hK := hK.trans hk
    replace hL_s_On := hL_s_On.kp hk
    replace hL_s_Off := hL_s_Off.kp hk
    refine HO.val (v := .bool r_3) (want_some rfl rfl) rfl (q_pickK true rfl (by rw [c_1] <;> rfl) rfl) ?_
    refine HO.val (v := .bool r_3) (want_none) rfl (q_pick rfl rfl) ?_
    refine HO.val (v := .bool r_3) (want_none) rfl (q_assign rfl) ?_
    refine HO.nil (thenQ_normal (?_))
    refine HW.ret (?_)
    refine ⟨.inr rfl, .bool r_3, res1 rfl (rt rfl), ?_⟩
    replace hS : St F_2 (fr) h_4 := hS.perm2 [] 2 rfl rfl
    exact ⟨F_2, r_3, rfl, hK, hS, hL_s_On, hL_s_Off, hM⟩

def ref15_Gone_W (s_Exclude : Bool) (s_On : List T_api_Addr) (s_Off : List T_api_Addr) (Q : Bool → Prop) : Prop :=
  ((!s_Exclude) = true → Q (decide ((s_On.length : Int) = 0))) ∧ ((!s_Exclude) = false → Q false)
set_option maxHeartbeats 40000000 in
set_option maxRecDepth 100000 in
theorem ref15_Gone_walk {F : Fz} {fr : List Ow} {h0 : Heap} (s_Exclude : Bool) (s_On : List T_api_Addr) (s_Off : List T_api_Addr) (vs_On : Value) (vs_Off : Value) (hS : St F (fr) h0) (hL_s_On : SliceF F h0 17 e_api_Addr vs_On s_On) (hL_s_Off : SliceF F h0 17 e_api_Addr vs_Off s_Off) {Q : Bool → Prop} (hM : ref15_Gone_W s_Exclude s_On s_Off Q) :
    HC Try.prog 25 #[.agg #[.bool s_Exclude, vs_On, vs_Off]] h0 fun u h' => ∃ (F' : Fz) (r_1 : Bool), u = .bool r_1 ∧ Kp F h0 F' h' ∧ St F' (fr) h' ∧ (SliceF F' h' 17 e_api_Addr vs_On s_On) ∧ (SliceF F' h' 17 e_api_Addr vs_Off s_Off) ∧ Q r_1 := by
  unfold ref15_Gone_W at hM
  have hK := Kp.refl F h0
  refine HC.of_HW (n := 12) Try.func25 rfl rfl (Nat.le_of_ble_eq_true rfl) ?_
  refine HW.seq ?_
  refine HW.region ?_
  refine HO.eff (want_none) rfl (st_box (c := #[.bool s_Exclude, vs_On, vs_Off]) (k' := 3) hS rfl rfl) ?_
  rintro _ h_1 ⟨b_1, rfl, hS, hk⟩
  replace hK := hK.trans hk
  replace hL_s_On := hL_s_On.kp hk
  replace hL_s_Off := hL_s_Off.kp hk
  refine HO.val (v := .bool false) (want_none) rfl (q_assign rfl) ?_
  refine HO.nil (thenQ_normal (?_))
  refine HW.seq ?_
  refine HW.region ?_
  refine HO.val (v := .pointer (some ⟨b_1, 0, none⟩)) (want_none) rfl (q_fieldAddr fa_24_0 rfl rfl) ?_
  refine HO.val (v := .bool s_Exclude) (want_none) rfl (q_load to_4 rfl (Blk.cell (hS.box 0 rfl) rfl)) ?_
  refine HO.val (v := .bool (!s_Exclude)) (want_none) rfl (q_not rfl) ?_
  refine HO.val (v := .bool (!s_Exclude)) (want_none) rfl (q_move rfl) ?_
  rcases Bool.eq_false_or_eq_true (!s_Exclude) with c_1 | c_1
  · replace hM := hM.1 c_1
    refine HO.val (v := .pointer (some ⟨b_1, 1, none⟩)) (want_by rfl rfl c_1) rfl (q_fieldAddr fa_24_1 rfl rfl) ?_
    refine HO.val (v := vs_On) (want_by rfl rfl c_1) rfl (q_load to_22 rfl (Blk.cell (hS.box 0 rfl) rfl)) ?_
    refine HO.val (v := .int .i64 (s_On.length : Int)) (want_by rfl rfl c_1) rfl (q_len ts_22 (shp hL_s_On.is) rfl rfl) ?_
    refine HO.val (v := .bool (decide ((s_On.length : Int) = 0))) (want_by rfl rfl c_1) rfl (q_eql rfl rfl) ?_
    refine HO.val (v := .bool (decide ((s_On.length : Int) = 0))) (want_none) rfl (q_pickK true rfl c_1 rfl) ?_
    refine HO.val (v := .bool (decide ((s_On.length : Int) = 0))) (want_none) rfl (q_assign rfl) ?_
    refine HO.nil (thenQ_normal (?_))
    refine HW.ret (?_)
    refine ⟨.inr rfl, .bool (decide ((s_On.length : Int) = 0)), res1 rfl (rt rfl), ?_⟩
    replace hS : St F (fr) h_1 := hS.perm2 [] 1 rfl rfl
    exact ⟨F, decide ((s_On.length : Int) = 0), rfl, hK, hS, hL_s_On, hL_s_Off, hM⟩
  · replace hM := hM.2 c_1
    refine HO.past (past_by rfl rfl c_1) rfl ?_
    refine HO.past (past_by rfl rfl c_1) rfl ?_
    refine HO.past (past_by rfl rfl c_1) rfl ?_
    refine HO.past (past_by rfl rfl c_1) rfl ?_
    refine HO.val (v := .bool false) (want_none) rfl (q_pickK false rfl c_1 rfl) ?_
    refine HO.val (v := .bool false) (want_none) rfl (q_assign rfl) ?_
    refine HO.nil (thenQ_normal (?_))
    refine HW.ret (?_)
    refine ⟨.inr rfl, .bool false, res1 rfl (rt rfl), ?_⟩
    replace hS : St F (fr) h_1 := hS.perm2 [] 1 rfl rfl
    exact ⟨F, false, rfl, hK, hS, hL_s_On, hL_s_Off, hM⟩
end Go.Wk
