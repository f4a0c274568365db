/- Walks and mirrors of Filter laws. -/
import Derived.Test.YtokodpeigafenaaFilW1
set_option linter.unusedSimpArgs false
set_option linter.unusedVariables false
set_option linter.unusedSectionVars false
namespace Go.Wk
open Go.HL
open Go.Proofs hiding encI
variable [DM]

def ref15_Same_W (a_Exclude : Bool) (a_On : List T_api_Addr) (a_Off : List T_api_Addr) (b_Exclude : Bool) (b_On : List T_api_Addr) (b_Off : List T_api_Addr) (Q : Bool → Prop) : Prop :=
  ((a_Exclude == b_Exclude) = true → ref11_Same_W a_On b_On (fun r_2 => (r_2 = true → ref11_Same_W a_Off b_Off (fun r_3 => Q r_3)) ∧ (r_2 = false → Q false))) ∧ ((a_Exclude == b_Exclude) = false → Q false)
set_option maxHeartbeats 40000000 in
set_option maxRecDepth 100000 in
theorem ref15_Same_walk {F : Fz} {fr : List Ow} {h0 : Heap} (a_Exclude : Bool) (a_On : List T_api_Addr) (a_Off : List T_api_Addr) (b_Exclude : Bool) (b_On : List T_api_Addr) (b_Off : List T_api_Addr) (va_On : Value) (va_Off : Value) (vb_On : Value) (vb_Off : Value) (hS : St F (fr) h0) (hL_a_On : SliceF F h0 17 e_api_Addr va_On a_On) (hL_a_Off : SliceF F h0 17 e_api_Addr va_Off a_Off) (hL_b_On : SliceF F h0 17 e_api_Addr vb_On b_On) (hL_b_Off : SliceF F h0 17 e_api_Addr vb_Off b_Off) {Q : Bool → Prop} (hM : ref15_Same_W a_Exclude a_On a_Off b_Exclude b_On b_Off Q) :
    HC Try.prog 21 #[.agg #[.bool a_Exclude, va_On, va_Off], .agg #[.bool b_Exclude, vb_On, vb_Off]] h0 fun u h' => ∃ (F' : Fz) (r_1 : Bool), u = .bool r_1 ∧ Kp F h0 F' h' ∧ St F' (fr) h' ∧ (SliceF F' h' 17 e_api_Addr va_On a_On) ∧ (SliceF F' h' 17 e_api_Addr va_Off a_Off) ∧ (SliceF F' h' 17 e_api_Addr vb_On b_On) ∧ (SliceF F' h' 17 e_api_Addr vb_Off b_Off) ∧ Q r_1 := by
  unfold ref15_Same_W at hM
  have hK := Kp.refl F h0
  refine HC.of_HW (n := 24) Try.func21 rfl rfl (Nat.le_of_ble_eq_true rfl) ?_
  refine HW.seq ?_
  refine HW.region ?_
  refine HO.eff (want_none) rfl (st_box (c := #[.bool a_Exclude, va_On, va_Off]) (k' := 3) hS rfl rfl) ?_
  rintro _ h_1 ⟨b_1, rfl, hS, hk⟩
  replace hK := hK.trans hk
  replace hL_a_On := hL_a_On.kp hk
  replace hL_a_Off := hL_a_Off.kp hk
  replace hL_b_On := hL_b_On.kp hk
  replace hL_b_Off := hL_b_Off.kp hk
  refine HO.eff (want_none) rfl (st_box (c := #[.bool b_Exclude, vb_On, vb_Off]) (k' := 3) hS rfl rfl) ?_
  rintro _ h_2 ⟨b_2, rfl, hS, hk⟩
  replace hK := hK.trans hk
  replace hL_a_On := hL_a_On.kp hk
  replace hL_a_Off := hL_a_Off.kp hk
  replace hL_b_On := hL_b_On.kp hk
  replace hL_b_Off := hL_b_Off.kp hk
  refine HO.val (v := .bool false) (want_none) rfl (q_assign rfl) ?_
  refine HO.nil (thenQ_normal (?_))
  refine HW.seq ?_
  refine HW.region ?_
  refine HO.val (v := .pointer (some ⟨b_1, 0, none⟩)) (want_none) rfl (q_fieldAddr fa_24_0 rfl rfl) ?_
  refine HO.val (v := .bool a_Exclude) (want_none) rfl (q_load to_4 rfl (Blk.cell (hS.box 1 rfl) rfl)) ?_
  refine HO.val (v := .pointer (some ⟨b_2, 0, none⟩)) (want_none) rfl (q_fieldAddr fa_24_0 rfl rfl) ?_
  refine HO.val (v := .bool b_Exclude) (want_none) rfl (q_load to_4 rfl (Blk.cell (hS.box 0 rfl) rfl)) ?_
  refine HO.val (v := .bool (a_Exclude == b_Exclude)) (want_none) rfl (q_eqlB Try.underlying4 rfl rfl) ?_
  refine HO.val (v := .bool (a_Exclude == b_Exclude)) (want_none) rfl (q_move rfl) ?_
  rcases Bool.eq_false_or_eq_true (a_Exclude == b_Exclude) with c_1 | c_1
  · replace hM := hM.1 c_1
    refine HO.val (v := .pointer (some ⟨b_1, 1, none⟩)) (want_by rfl rfl c_1) rfl (q_fieldAddr fa_24_1 rfl rfl) ?_
    refine HO.val (v := va_On) (want_by rfl rfl c_1) rfl (q_load to_22 rfl (Blk.cell (hS.box 1 rfl) rfl)) ?_
    refine HO.val (v := .pointer (some ⟨b_2, 1, none⟩)) (want_by rfl rfl c_1) rfl (q_fieldAddr fa_24_1 rfl rfl) ?_
    refine HO.val (v := vb_On) (want_by rfl rfl c_1) rfl (q_load to_22 rfl (Blk.cell (hS.box 0 rfl) rfl)) ?_
    refine HO.call (want_by rfl rfl c_1) rfl (ec en_35 rfl rfl) (ref11_Same_walk (fr := (Ow.box b_2 24 #[.bool b_Exclude, vb_On, vb_Off] :: Ow.box b_1 24 #[.bool a_Exclude, va_On, va_Off] :: fr)) a_On b_On va_On vb_On hS hL_a_On hL_b_On hM) ?_
    rintro _ h_3 ⟨F_1, r_2, rfl, hk, hS, _, _, hM⟩
    replace hK := hK.trans hk
    replace hL_a_On := hL_a_On.kp hk
    replace hL_a_Off := hL_a_Off.kp hk
    replace hL_b_On := hL_b_On.kp hk
    replace hL_b_Off := hL_b_Off.kp hk
    refine HO.val (v := .bool r_2) (want_none) rfl (q_pickK true rfl c_1 rfl) ?_
    refine HO.val (v := .bool r_2) (want_none) rfl (q_move rfl) ?_
    rcases Bool.eq_false_or_eq_true r_2 with c_2 | c_2
    · replace hM := hM.1 c_2
      refine HO.val (v := .pointer (some ⟨b_1, 2, none⟩)) (want_by rfl rfl c_2) rfl (q_fieldAddr fa_24_2 rfl rfl) ?_
      refine HO.val (v := va_Off) (want_by rfl rfl c_2) rfl (q_load to_22 rfl (Blk.cell (hS.box 1 rfl) rfl)) ?_
      refine HO.val (v := .pointer (some ⟨b_2, 2, none⟩)) (want_by rfl rfl c_2) rfl (q_fieldAddr fa_24_2 rfl rfl) ?_
      refine HO.val (v := vb_Off) (want_by rfl rfl c_2) rfl (q_load to_22 rfl (Blk.cell (hS.box 0 rfl) rfl)) ?_
      refine HO.call (want_by rfl rfl c_2) rfl (ec en_35 rfl rfl) (ref11_Same_walk (fr := (Ow.box b_2 24 #[.bool b_Exclude, vb_On, vb_Off] :: Ow.box b_1 24 #[.bool a_Exclude, va_On, va_Off] :: fr)) a_Off b_Off va_Off vb_Off hS hL_a_Off hL_b_Off hM) ?_
      rintro _ h_4 ⟨F_2, r_3, rfl, hk, hS, _, _, hM⟩
      replace hK := hK.trans hk
      replace hL_a_On := hL_a_On.kp hk
      replace hL_a_Off := hL_a_Off.kp hk
      replace hL_b_On := hL_b_On.kp hk
      replace hL_b_Off := hL_b_Off.kp hk
      refine HO.val (v := .bool r_3) (want_none) rfl (q_pickK true rfl c_2 rfl) ?_
      refine HO.val (v := .bool r_3) (want_none) rfl (q_assign rfl) ?_
      refine HO.nil (thenQ_normal (?_))
      refine HW.ret (?_)
      refine ⟨.inr rfl, .bool r_3, res1 rfl (rt rfl), ?_⟩
      replace hS : St F_2 (fr) h_4 := hS.perm2 [] 2 rfl rfl
      exact ⟨F_2, r_3, rfl, hK, hS, hL_a_On, hL_a_Off, hL_b_On, hL_b_Off, hM⟩
    · replace hM := hM.2 c_2
      refine HO.past (past_by rfl rfl c_2) rfl ?_
      refine HO.past (past_by rfl rfl c_2) rfl ?_
      refine HO.past (past_by rfl rfl c_2) rfl ?_
      refine HO.past (past_by rfl rfl c_2) rfl ?_
      refine HO.past (past_by rfl rfl c_2) rfl ?_
      refine HO.val (v := .bool false) (want_none) rfl (q_pickK false rfl c_2 rfl) ?_
      refine HO.val (v := .bool false) (want_none) rfl (q_assign rfl) ?_
      refine HO.nil (thenQ_normal (?_))
      refine HW.ret (?_)
      refine ⟨.inr rfl, .bool false, res1 rfl (rt rfl), ?_⟩
      replace hS : St F_1 (fr) h_3 := hS.perm2 [] 2 rfl rfl
      exact ⟨F_1, false, rfl, hK, hS, hL_a_On, hL_a_Off, hL_b_On, hL_b_Off, hM⟩
  · replace hM := hM.2 c_1
    refine HO.past (past_by rfl rfl c_1) rfl ?_
    refine HO.past (past_by rfl rfl c_1) rfl ?_
    refine HO.past (past_by rfl rfl c_1) rfl ?_
    refine HO.past (past_by rfl rfl c_1) rfl ?_
    refine HO.past (past_by rfl rfl c_1) rfl ?_
    refine HO.val (v := .bool false) (want_none) rfl (q_pickK false rfl c_1 rfl) ?_
    refine HO.val (v := .bool false) (want_none) rfl (q_move rfl) ?_
    refine HO.past (past_some rfl rfl) rfl ?_
    refine HO.past (past_some rfl rfl) rfl ?_
    refine HO.past (past_some rfl rfl) rfl ?_
    refine HO.past (past_some rfl rfl) rfl ?_
    refine HO.past (past_some rfl rfl) rfl ?_
    refine HO.val (v := .bool false) (want_none) rfl (q_pick rfl rfl) ?_
    refine HO.val (v := .bool false) (want_none) rfl (q_assign rfl) ?_
    refine HO.nil (thenQ_normal (?_))
    refine HW.ret (?_)
    refine ⟨.inr rfl, .bool false, res1 rfl (rt rfl), ?_⟩
    replace hS : St F (fr) h_2 := hS.perm2 [] 2 rfl rfl
    exact ⟨F, false, rfl, hK, hS, hL_a_On, hL_a_Off, hL_b_On, hL_b_Off, hM⟩

def srcs_Good_l1 (l : List T_api_Addr) (Q : Bool → Prop) (K_1 : Int → Prop) (n_1 : Int) : Prop :=
  (n_1 < (l.length : Int) → ((0 : Int) ≤ n_1 ∧ n_1 < (l.length : Int)) ∧ (addr_Good_W (gi l n_1) (fun r_2 => ((!r_2) = true → Q false) ∧ ((!r_2) = false → (0 < n_1 → (I64 (n_1 - 1)) ∧ (((0 : Int) ≤ n_1 - 1 ∧ n_1 - 1 < (l.length : Int)) ∧ (addr_Cmp_W (gi l (n_1 - 1)) (gi l n_1) (fun r_3 => (0 ≤ r_3 → Q false) ∧ (¬ (0 ≤ r_3) → (I64 (n_1 + 1)) ∧ (K_1 (n_1 + 1))))))) ∧ (¬ (0 < n_1) → (I64 (n_1 + 1)) ∧ (K_1 (n_1 + 1))))))) ∧ (¬ (n_1 < (l.length : Int)) → Q true)
def srcs_Good_W (l : List T_api_Addr) (Q : Bool → Prop) : Prop :=
  loopW (fun (K_1 : Int → Prop) (s : Int) => srcs_Good_l1 l Q K_1 s) 0
set_option maxHeartbeats 40000000 in
set_option maxRecDepth 100000 in
theorem srcs_Good_walk {F : Fz} {fr : List Ow} {h0 : Heap} (l : List T_api_Addr) (vl : Value) (hS : St F (fr) h0) (hL_l : SliceF F h0 17 e_api_Addr vl l) {Q : Bool → Prop} (hM : srcs_Good_W l Q) :
    HC Try.prog 36 #[vl] h0 fun u h' => ∃ (F' : Fz) (r_1 : Bool), u = .bool r_1 ∧ Kp F h0 F' h' ∧ St F' (fr) h' ∧ (SliceF F' h' 17 e_api_Addr vl l) ∧ Q r_1 := by
  unfold srcs_Good_W at hM
  have hK := Kp.refl F h0
  refine HC.of_HW (n := 30) Try.func36 rfl rfl (Nat.le_of_ble_eq_true rfl) ?_
  refine HW.seq ?_
  refine HW.region ?_
  refine HO.val (v := .bool false) (want_none) rfl (q_assign rfl) ?_
  refine HO.nil (thenQ_normal (?_))
  refine HW.seq ?_
  refine HW.seq ?_
  refine HW.region ?_
  refine HO.val (v := vl) (want_none) rfl (q_move rfl) ?_
  refine HO.val (v := .int .i64 (l.length : Int)) (want_none) rfl (q_len ts_22 (shp hL_l.is) rfl rfl) ?_
  refine HO.val (v := .int .i64 0) (want_none) rfl (q_move rfl) ?_
  refine HO.nil (thenQ_normal (?_))
  refine HW.block ?_
  obtain ⟨I_1, m_1, hI_1, hR_1⟩ := hM
  refine HW.loop (S := Int) (fun n_1 f h => ∃ (F' : Fz), f 0 = vl ∧ f 2 = .bool false ∧ f 5 = vl ∧ f 6 = .int .i64 (l.length : Int) ∧ f 7 = .int .i64 n_1 ∧ Kp F h0 F' h ∧ St F' (fr) h ∧ (SliceF F' h 17 e_api_Addr vl l) ∧ I_1 n_1) m_1 0 ⟨F, rfl, rfl, rfl, rfl, rfl, hK, hS, hL_l, hI_1⟩ ?_
  rintro n_1 f_1 h_1 ⟨F_1, e0, e2, e5, e6, e7, hK, hS, hL_l, hI0⟩
  obtain ⟨K_1, hKe_1⟩ : ∃ K : Int → Prop, K = fun n_1' => I_1 n_1' ∧ m_1 n_1' < m_1 n_1 := ⟨_, rfl⟩
  have hM : srcs_Good_l1 l Q K_1 n_1 := by rw [hKe_1]; exact hR_1 n_1 hI0
  unfold srcs_Good_l1 at hM
  refine HW.fr [(0, vl), (2, .bool false), (5, vl), (6, .int .i64 (l.length : Int)), (7, .int .i64 n_1)] ⟨e0, e2, e5, e6, e7, trivial⟩ ?_
  refine HW.seq ?_
  refine HW.region ?_
  refine HO.val (v := .bool (decide (n_1 < (l.length : Int)))) (want_none) rfl (q_lss rfl rfl) ?_
  refine HO.nil (thenQ_normal (?_))
  refine HW.seq ?_
  refine HW.cond (decide (n_1 < (l.length : Int))) rfl (fun c_1 => ?_) (fun c_1 => ?_)
  · replace hM := hM.1 (of_decide_eq_true c_1)
    refine HW.skip (thenQ_normal (?_))
    refine HW.seq ?_
    refine HW.block ?_
    refine HW.seq ?_
    refine HW.region ?_
    refine HO.val (v := .int .i64 n_1) (want_none) rfl (q_move rfl) ?_
    obtain ⟨ho_1, hM⟩ := hM
    refine HO.val (v := elemPtr 17 vl (n_1).toNat) (want_none) rfl (q_idx ts_22 hL_l.is rfl rfl ho_1) ?_
    refine HO.val (v := .agg (e_api_Addr (gi l n_1)).toArray) (want_none) rfl (q_ldElemAgg (cs := (e_api_Addr (gi l n_1))) ta_34 hL_l.is rfl ho_1 rfl) ?_
    refine HO.eff (want_none) rfl (st_alloc (c := (e_api_Addr (false, (default : Ba 16))).toArray) hS tz_34 rfl) ?_
    rintro _ h_2 ⟨b_1, rfl, hS, hk⟩
    replace hK := hK.trans hk
    replace hL_l := hL_l.kp hk
    refine HO.val (v := .int .i64 n_1) (want_none) rfl (q_assign rfl) ?_
    refine HO.sto (want_none) rfl (st_storeAgg (c' := (e_api_Addr (gi l n_1)).toArray) hS (i := 0) rfl ta_34 rfl rfl rfl (one_e_api_Addr _) (Nat.le_of_ble_eq_true rfl) rfl) ?_
    rintro h_3 ⟨hS, hk⟩
    replace hS : St F_1 (Ow.box b_1 34 (e_api_Addr (gi l n_1)).toArray :: fr) h_3 := hS
    replace hK := hK.trans hk
    replace hL_l := hL_l.kp hk
    refine HO.nil (thenQ_normal (?_))
    refine HW.seq ?_
    refine HW.regionA 17 mixed (fun h => (SliceIs h 17 e_api_Addr vl l) ∧ (Blk h b_1 (.cells (e_api_Addr (gi l n_1)).toArray 34 (0, 0)))) [] (by kernel_rfl) ?_
    refine HA.val (k := 0) (v := .agg (e_api_Addr (gi l n_1)).toArray) rfl rfl (by kernel_rfl) (by kernel_rfl) (want_none) rfl (fun _ ⟨hL_l, c301⟩ => q_loadAgg (cs := (e_api_Addr (gi l n_1))) ta_34 rfl rfl (Blk.cells (k := 17) c301 rfl)) ?_
    refine HA.one (k := 1) ⟨⟨hL_l.is, (hS.box 0 rfl)⟩, (Go.Wk.at_nil _ _)⟩ (by kernel_rfl) ?_
    refine HS.call rfl (want_none) rfl (ec en_48 rfl rfl) (addr_Good_walk (fr := (Ow.box b_1 34 (e_api_Addr (gi l n_1)).toArray :: fr)) (gi l n_1) hS hM) ?_
    rintro _ h_4 ⟨F_2, r_2, rfl, hk, hS, hM⟩
    replace hK := hK.trans hk
    replace hL_l := hL_l.kp hk
    refine HA.val (k := 2) (v := .bool (!r_2)) rfl rfl (by kernel_rfl) (by kernel_rfl) (want_none) rfl (fun _ ⟨hL_l, c301⟩ => q_not rfl) ?_
    refine HA.val (k := 3) (v := .bool (!r_2)) rfl rfl (by kernel_rfl) (by kernel_rfl) (want_none) rfl (fun _ ⟨hL_l, c301⟩ => q_move rfl) ?_
    rcases Bool.eq_false_or_eq_true (!r_2) with c_2 | c_2
    · replace hM := hM.1 c_2
      refine HA.past (k := 4) rfl rfl (by kernel_rfl) (by kernel_rfl) (past_by rfl rfl c_2) rfl ?_
      refine HA.past (k := 5) rfl rfl (by kernel_rfl) (by kernel_rfl) (past_by rfl rfl c_2) rfl ?_
      refine HA.past (k := 6) rfl rfl (by kernel_rfl) (by kernel_rfl) (past_by rfl rfl c_2) rfl ?_
      refine HA.past (k := 7) rfl rfl (by kernel_rfl) (by kernel_rfl) (past_undef rfl rfl) rfl ?_
      refine HA.past (k := 8) rfl rfl (by kernel_rfl) (by kernel_rfl) (past_undef rfl rfl) rfl ?_
      refine HA.past (k := 9) rfl rfl (by kernel_rfl) (by kernel_rfl) (past_undef rfl rfl) rfl ?_
      refine HA.past (k := 10) rfl rfl (by kernel_rfl) (by kernel_rfl) (past_undef rfl rfl) rfl ?_
      refine HA.past (k := 11) rfl rfl (by kernel_rfl) (by kernel_rfl) (past_undef rfl rfl) rfl ?_
      refine HA.past (k := 12) rfl rfl (by kernel_rfl) (by kernel_rfl) (past_undef rfl rfl) rfl ?_
      refine HA.one (k := 13) ⟨⟨hL_l.is, (hS.box 0 rfl)⟩, (Go.Wk.at_nil _ _)⟩ (by kernel_rfl) ?_
      refine HS.past rfl (past_undef rfl rfl) rfl ?_
      refine HA.past (k := 14) rfl rfl (by kernel_rfl) (by kernel_rfl) (past_undef rfl rfl) rfl ?_
      refine HA.past (k := 15) rfl rfl (by kernel_rfl) (by kernel_rfl) (past_by rfl rfl c_2) rfl ?_
      refine HA.val (k := 16) (v := .bool true) rfl rfl (by kernel_rfl) (by kernel_rfl) (want_none) rfl (fun _ ⟨hL_l, c301⟩ => q_pickK true rfl c_2 rfl) ?_
      refine HA.nil ⟨⟨hL_l.is, (hS.box 0 rfl)⟩, (Go.Wk.at_nil _ _)⟩ (by kernel_rfl) (thenQ_normal (?_))
      refine HW.condT rfl ?_
      refine HW.seq ?_
      refine HW.region ?_
      refine HO.val (v := .bool false) (want_none) rfl (q_assign rfl) ?_
      refine HO.nil (thenQ_normal (?_))
      refine HW.ret (blockQ_ret (thenQ_ret (thenQ_ret (blockQ_ret (thenQ_ret (?_))))))
      refine ⟨.inr rfl, .bool false, res1 rfl (rt rfl), ?_⟩
      replace hS : St F_2 (fr) h_4 := hS.perm2 [] 1 rfl rfl
      exact ⟨F_2, false, rfl, hK, hS, hL_l, hM⟩
    · replace hM := hM.2 c_2
      refine HA.val (k := 4) (v := .int .i64 n_1) rfl rfl (by kernel_rfl) (by kernel_rfl) (want_by rfl rfl c_2) rfl (fun _ ⟨hL_l, c301⟩ => q_move rfl) ?_
      refine HA.val (k := 5) (v := .bool (decide (0 < n_1))) rfl rfl (by kernel_rfl) (by kernel_rfl) (want_by rfl rfl c_2) rfl (fun _ ⟨hL_l, c301⟩ => q_gtr rfl rfl) ?_
      refine HA.val (k := 6) (v := .bool (decide (0 < n_1))) rfl rfl (by kernel_rfl) (by kernel_rfl) (want_by rfl rfl c_2) rfl (fun _ ⟨hL_l, c301⟩ => q_move rfl) ?_
      rcases Bool.eq_false_or_eq_true (decide (0 < n_1)) with c_3 | c_3
      · replace hM := hM.1 (of_decide_eq_true c_3)
        refine HA.val (k := 7) (v := vl) rfl rfl (by kernel_rfl) (by kernel_rfl) (want_by rfl rfl c_3) rfl (fun _ ⟨hL_l, c301⟩ => q_move rfl) ?_
        refine HA.val (k := 8) (v := .int .i64 n_1) rfl rfl (by kernel_rfl) (by kernel_rfl) (want_by rfl rfl c_3) rfl (fun _ ⟨hL_l, c301⟩ => q_move rfl) ?_
        obtain ⟨ho_2, hM⟩ := hM
        refine HA.val (k := 9) (v := .int .i64 (n_1 - 1)) rfl rfl (by kernel_rfl) (by kernel_rfl) (want_by rfl rfl c_3) rfl (fun _ ⟨hL_l, c301⟩ => q_subN _ rfl rfl rfl ho_2.1 ho_2.2) ?_
        obtain ⟨ho_3, hM⟩ := hM
        refine HA.val (k := 10) (v := elemPtr 17 vl (n_1 - 1).toNat) rfl rfl (by kernel_rfl) (by kernel_rfl) (want_by rfl rfl c_3) rfl (fun _ ⟨hL_l, c301⟩ => q_idx ts_22 hL_l rfl rfl ho_3) ?_
        refine HA.val (k := 11) (v := .agg (e_api_Addr (gi l (n_1 - 1))).toArray) rfl rfl (by kernel_rfl) (by kernel_rfl) (want_by rfl rfl c_3) rfl (fun _ ⟨hL_l, c301⟩ => q_ldElemAgg (cs := (e_api_Addr (gi l (n_1 - 1)))) ta_34 hL_l rfl ho_3 rfl) ?_
        refine HA.val (k := 12) (v := .agg (e_api_Addr (gi l n_1)).toArray) rfl rfl (by kernel_rfl) (by kernel_rfl) (want_by rfl rfl c_3) rfl (fun _ ⟨hL_l, c301⟩ => q_loadAgg (cs := (e_api_Addr (gi l n_1))) ta_34 rfl rfl (Blk.cells (k := 17) c301 rfl)) ?_
        refine HA.one (k := 13) ⟨⟨hL_l.is, (hS.box 0 rfl)⟩, (Go.Wk.at_nil _ _)⟩ (by kernel_rfl) ?_
        refine HS.call rfl (want_by rfl rfl c_3) rfl (ec en_50 rfl rfl) (addr_Cmp_walk (fr := (Ow.box b_1 34 (e_api_Addr (gi l n_1)).toArray :: fr)) (gi l (n_1 - 1)) (gi l n_1) hS hM) ?_
        rintro _ h_5 ⟨F_3, r_3, rfl, hk, hS, hM⟩
        replace hK := hK.trans hk
        replace hL_l := hL_l.kp hk
        refine HA.val (k := 14) (v := .bool (decide (0 ≤ r_3))) rfl rfl (by kernel_rfl) (by kernel_rfl) (want_by rfl rfl c_3) rfl (fun _ ⟨hL_l, c301⟩ => q_geq rfl rfl) ?_
        refine HA.val (k := 15) (v := .bool (decide (0 ≤ r_3))) rfl rfl (by kernel_rfl) (by kernel_rfl) (want_by rfl rfl c_2) rfl (fun _ ⟨hL_l, c301⟩ => q_pickK true rfl c_3 rfl) ?_
        refine HA.val (k := 16) (v := .bool (decide (0 ≤ r_3))) rfl rfl (by kernel_rfl) (by kernel_rfl) (want_none) rfl (fun _ ⟨hL_l, c301⟩ => q_pickK false rfl c_2 rfl) ?_
        refine HA.nil ⟨⟨hL_l.is, (hS.box 0 rfl)⟩, (Go.Wk.at_nil _ _)⟩ (by kernel_rfl) (thenQ_normal (?_))
        refine HW.cond (decide (0 ≤ r_3)) rfl (fun c_4 => ?_) (fun c_4 => ?_)
        · replace hM := hM.1 (of_decide_eq_true c_4)
          refine HW.seq ?_
          refine HW.region ?_
          refine HO.val (v := .bool false) (want_none) rfl (q_assign rfl) ?_
          refine HO.nil (thenQ_normal (?_))
          refine HW.ret (blockQ_ret (thenQ_ret (thenQ_ret (blockQ_ret (thenQ_ret (?_))))))
          refine ⟨.inr rfl, .bool false, res1 rfl (rt rfl), ?_⟩
          replace hS : St F_3 (fr) h_5 := hS.perm2 [] 1 rfl rfl
          exact ⟨F_3, false, rfl, hK, hS, hL_l, hM⟩
        · replace hM := hM.2 (of_decide_eq_false c_4)
          refine HW.skip (blockQ_normal (thenQ_normal (?_)))
          refine HW.region ?_
          obtain ⟨ho_4, hM⟩ := hM
          refine HO.val (v := .int .i64 (n_1 + 1)) (want_none) rfl (q_addN _ rfl rfl rfl ho_4.1 ho_4.2) ?_
          refine HO.val (v := .int .i64 (n_1 + 1)) (want_none) rfl (q_move rfl) ?_
          refine HO.nil (thenQ_normal (?_))
          replace hS : St F_3 (fr) h_5 := hS.perm2 [] 1 rfl rfl
          rw [hKe_1] at hM
          exact ⟨n_1 + 1, ⟨F_3, rfl, rfl, rfl, rfl, rfl, hK, hS, hL_l, hM.1⟩, hM.2⟩
      · replace hM := hM.2 (of_decide_eq_false c_3)
        refine HA.past (k := 7) rfl rfl (by kernel_rfl) (by kernel_rfl) (past_by rfl rfl c_3) rfl ?_
        refine HA.past (k := 8) rfl rfl (by kernel_rfl) (by kernel_rfl) (past_by rfl rfl c_3) rfl ?_
        refine HA.past (k := 9) rfl rfl (by kernel_rfl) (by kernel_rfl) (past_by rfl rfl c_3) rfl ?_
        refine HA.past (k := 10) rfl rfl (by kernel_rfl) (by kernel_rfl) (past_by rfl rfl c_3) rfl ?_
        refine HA.past (k := 11) rfl rfl (by kernel_rfl) (by kernel_rfl) (past_by rfl rfl c_3) rfl ?_
        refine HA.past (k := 12) rfl rfl (by kernel_rfl) (by kernel_rfl) (past_by rfl rfl c_3) rfl ?_
        refine HA.one (k := 13) ⟨⟨hL_l.is, (hS.box 0 rfl)⟩, (Go.Wk.at_nil _ _)⟩ (by kernel_rfl) ?_
        refine HS.past rfl (past_by rfl rfl c_3) rfl ?_
        refine HA.past (k := 14) rfl rfl (by kernel_rfl) (by kernel_rfl) (past_by rfl rfl c_3) rfl ?_
        refine HA.val (k := 15) (v := .bool false) rfl rfl (by kernel_rfl) (by kernel_rfl) (want_by rfl rfl c_2) rfl (fun _ ⟨hL_l, c301⟩ => q_pickK false rfl c_3 rfl) ?_
        refine HA.val (k := 16) (v := .bool false) rfl rfl (by kernel_rfl) (by kernel_rfl) (want_none) rfl (fun _ ⟨hL_l, c301⟩ => q_pickK false rfl c_2 rfl) ?_
        refine HA.nil ⟨⟨hL_l.is, (hS.box 0 rfl)⟩, (Go.Wk.at_nil _ _)⟩ (by kernel_rfl) (thenQ_normal (?_))
        refine HW.condF rfl ?_
        refine HW.skip (blockQ_normal (thenQ_normal (?_)))
        refine HW.region ?_
        obtain ⟨ho_5, hM⟩ := hM
        refine HO.val (v := .int .i64 (n_1 + 1)) (want_none) rfl (q_addN _ rfl rfl rfl ho_5.1 ho_5.2) ?_
        refine HO.val (v := .int .i64 (n_1 + 1)) (want_none) rfl (q_move rfl) ?_
        refine HO.nil (thenQ_normal (?_))
        replace hS : St F_2 (fr) h_4 := hS.perm2 [] 1 rfl rfl
        rw [hKe_1] at hM
        exact ⟨n_1 + 1, ⟨F_2, rfl, rfl, rfl, rfl, rfl, hK, hS, hL_l, hM.1⟩, hM.2⟩
  · replace hM := hM.2 (of_decide_eq_false c_1)
    refine HW.exit (thenQ_exit (thenQ_exit (blockQ_exit (thenQ_normal (?_)))))
    refine HW.seq ?_
    refine HW.region ?_
    refine HO.val (v := .bool true) (want_none) rfl (q_assign rfl) ?_
    refine HO.nil (thenQ_normal (?_))
    refine HW.ret (?_)
    refine ⟨.inr rfl, .bool true, res1 rfl (rt rfl), ?_⟩
    exact ⟨F_1, true, rfl, hK, hS, hL_l, hM⟩

def filter_Good_W (s_Exclude : Bool) (s_On : List T_api_Addr) (s_Off : List T_api_Addr) (Q : Bool → Prop) : Prop :=
  srcs_Good_W s_On (fun r_2 => (r_2 = true → srcs_Good_W s_Off (fun r_3 => (r_3 = true → srcs_And_W s_On s_Off (fun r_4 => ((r_4.length : Int) = 0 → (s_Exclude = true → Q true) ∧ (s_Exclude = false → Q (decide ((s_Off.length : Int) = 0)))) ∧ (¬ ((r_4.length : Int) = 0) → Q false))) ∧ (r_3 = false → Q false))) ∧ (r_2 = false → Q false))
set_option maxHeartbeats 40000000 in
set_option maxRecDepth 100000 in
theorem filter_Good_walk {F : Fz} {fr : List Ow} {h0 : Heap} (s_Exclude : Bool) (s_On : List T_api_Addr) (s_Off : List T_api_Addr) (vs_On : Value) (vs_Off : Value) (hS : St F (fr) h0) (hL_s_On : SliceF F h0 17 e_api_Addr vs_On s_On) (hL_s_Off : SliceF F h0 17 e_api_Addr vs_Off s_Off) {Q : Bool → Prop} (hM : filter_Good_W s_Exclude s_On s_Off Q) :
    HC Try.prog 18 #[.agg #[.bool s_Exclude, vs_On, vs_Off]] h0 fun u h' => ∃ (F' : Fz) (r_1 : Bool), u = .bool r_1 ∧ Kp F h0 F' h' ∧ St F' (fr) h' ∧ (SliceF F' h' 17 e_api_Addr vs_On s_On) ∧ (SliceF F' h' 17 e_api_Addr vs_Off s_Off) ∧ Q r_1 := by
  unfold filter_Good_W at hM
  have hK := Kp.refl F h0
  refine HC.of_HW (n := 30) Try.func18 rfl rfl (Nat.le_of_ble_eq_true rfl) ?_
  refine HW.seq ?_
  refine HW.region ?_
  refine HO.eff (want_none) rfl (st_box (c := #[.bool s_Exclude, vs_On, vs_Off]) (k' := 3) hS rfl rfl) ?_
  rintro _ h_1 ⟨b_1, rfl, hS, hk⟩
  replace hK := hK.trans hk
  replace hL_s_On := hL_s_On.kp hk
  replace hL_s_Off := hL_s_Off.kp hk
  refine HO.val (v := .bool false) (want_none) rfl (q_assign rfl) ?_
  refine HO.nil (thenQ_normal (?_))
  refine HW.seq ?_
  refine HW.region ?_
  refine HO.val (v := .pointer (some ⟨b_1, 1, none⟩)) (want_none) rfl (q_fieldAddr fa_24_1 rfl rfl) ?_
  refine HO.val (v := vs_On) (want_none) rfl (q_load to_22 rfl (Blk.cell (hS.box 0 rfl) rfl)) ?_
  refine HO.call (want_none) rfl (ec en_36 rfl rfl) (srcs_Good_walk (fr := (Ow.box b_1 24 #[.bool s_Exclude, vs_On, vs_Off] :: fr)) s_On vs_On hS hL_s_On hM) ?_
  rintro _ h_2 ⟨F_1, r_2, rfl, hk, hS, _, hM⟩
  replace hK := hK.trans hk
  replace hL_s_On := hL_s_On.kp hk
  replace hL_s_Off := hL_s_Off.kp hk
  refine HO.val (v := .bool r_2) (want_none) rfl (q_move rfl) ?_
  rcases Bool.eq_false_or_eq_true r_2 with c_1 | c_1
  · replace hM := hM.1 c_1
    refine HO.val (v := .pointer (some ⟨b_1, 2, none⟩)) (want_by rfl rfl c_1) rfl (q_fieldAddr fa_24_2 rfl rfl) ?_
    refine HO.val (v := vs_Off) (want_by rfl rfl c_1) rfl (q_load to_22 rfl (Blk.cell (hS.box 0 rfl) rfl)) ?_
    refine HO.call (want_by rfl rfl c_1) rfl (ec en_36 rfl rfl) (srcs_Good_walk (fr := (Ow.box b_1 24 #[.bool s_Exclude, vs_On, vs_Off] :: fr)) s_Off vs_Off hS hL_s_Off hM) ?_
    rintro _ h_3 ⟨F_2, r_3, rfl, hk, hS, _, hM⟩
    replace hK := hK.trans hk
    replace hL_s_On := hL_s_On.kp hk
    replace hL_s_Off := hL_s_Off.kp hk
    refine HO.val (v := .bool r_3) (want_none) rfl (q_pickK true rfl c_1 rfl) ?_
    refine HO.val (v := .bool r_3) (want_none) rfl (q_move rfl) ?_
    rcases Bool.eq_false_or_eq_true r_3 with c_2 | c_2
    · replace hM := hM.1 c_2
      refine HO.val (v := .pointer (some ⟨b_1, 1, none⟩)) (want_by rfl rfl c_2) rfl (q_fieldAddr fa_24_1 rfl rfl) ?_
      refine HO.val (v := vs_On) (want_by rfl rfl c_2) rfl (q_load to_22 rfl (Blk.cell (hS.box 0 rfl) rfl)) ?_
      refine HO.val (v := .pointer (some ⟨b_1, 2, none⟩)) (want_by rfl rfl c_2) rfl (q_fieldAddr fa_24_2 rfl rfl) ?_
      refine HO.val (v := vs_Off) (want_by rfl rfl c_2) rfl (q_load to_22 rfl (Blk.cell (hS.box 0 rfl) rfl)) ?_
      refine HO.call (want_by rfl rfl c_2) rfl (ec en_37 rfl rfl) (srcs_And_walk (fr := (Ow.box b_1 24 #[.bool s_Exclude, vs_On, vs_Off] :: fr)) s_On s_Off vs_On vs_Off hS hL_s_On hL_s_Off hM) ?_
      rintro vr_1 h_4 ⟨F_3, r_4, _, rfl, hk, hS, _, _, hM⟩
      replace hK := hK.trans hk
      replace hL_s_On := hL_s_On.kp hk
      replace hL_s_Off := hL_s_Off.kp hk
      refine HO.val (v := .int .i64 (r_4.length : Int)) (want_by rfl rfl c_2) rfl (q_len ts_22 (shp (hS.own 0 rfl).slice) rfl rfl) ?_
      refine HO.val (v := .bool (decide ((r_4.length : Int) = 0))) (want_by rfl rfl c_2) rfl (q_eql rfl rfl) ?_
      refine HO.val (v := .bool (decide ((r_4.length : Int) = 0))) (want_none) rfl (q_pickK true rfl c_2 rfl) ?_
      refine HO.val (v := .bool (decide ((r_4.length : Int) = 0))) (want_none) rfl (q_move rfl) ?_
      rcases Bool.eq_false_or_eq_true (decide ((r_4.length : Int) = 0)) with c_3 | c_3
      · replace hM := hM.1 (of_decide_eq_true c_3)
        refine HO.val (v := .pointer (some ⟨b_1, 0, none⟩)) (want_by rfl rfl c_3) rfl (q_fieldAddr fa_24_0 rfl rfl) ?_
        refine HO.val (v := .bool s_Exclude) (want_by rfl rfl c_3) rfl (q_load to_4 rfl (Blk.cell (hS.box 1 rfl) rfl)) ?_
        refine HO.val (v := .bool s_Exclude) (want_by rfl rfl c_3) rfl (q_move rfl) ?_
        rcases Bool.eq_false_or_eq_true s_Exclude with c_4 | c_4
        · replace hM := hM.1 c_4
          refine HO.past (past_by rfl rfl c_4) rfl ?_
          refine HO.past (past_by rfl rfl c_4) rfl ?_
          refine HO.past (past_by rfl rfl c_4) rfl ?_
          refine HO.past (past_by rfl rfl c_4) rfl ?_
          refine HO.val (v := .bool true) (want_by rfl rfl c_3) rfl (q_pickK true rfl c_4 rfl) ?_
          refine HO.val (v := .bool true) (want_none) rfl (q_pickK true rfl c_3 rfl) ?_
          refine HO.val (v := .bool true) (want_none) rfl (q_assign rfl) ?_
          refine HO.nil (thenQ_normal (?_))
          refine HW.ret (?_)
          refine ⟨.inr rfl, .bool true, res1 rfl (rt rfl), ?_⟩
          replace hS : St F_3 (fr) h_4 := hS.perm2 [] 2 rfl rfl
          exact ⟨F_3, true, rfl, hK, hS, hL_s_On, hL_s_Off, hM⟩
        · replace hM := hM.2 c_4
          refine HO.val (v := .pointer (some ⟨b_1, 2, none⟩)) (want_by rfl rfl c_4) rfl (q_fieldAddr fa_24_2 rfl rfl) ?_
          refine HO.val (v := vs_Off) (want_by rfl rfl c_4) rfl (q_load to_22 rfl (Blk.cell (hS.box 1 rfl) rfl)) ?_
          refine HO.val (v := .int .i64 (s_Off.length : Int)) (want_by rfl rfl c_4) rfl (q_len ts_22 (shp hL_s_Off.is) rfl rfl) ?_
          refine HO.val (v := .bool (decide ((s_Off.length : Int) = 0))) (want_by rfl rfl c_4) rfl (q_eql rfl rfl) ?_
          refine HO.val (v := .bool (decide ((s_Off.length : Int) = 0))) (want_by rfl rfl c_3) rfl (q_pickK false rfl c_4 rfl) ?_
          refine HO.val (v := .bool (decide ((s_Off.length : Int) = 0))) (want_none) rfl (q_pickK true rfl c_3 rfl) ?_
          refine HO.val (v := .bool (decide ((s_Off.length : Int) = 0))) (want_none) rfl (q_assign rfl) ?_
          refine HO.nil (thenQ_normal (?_))
          refine HW.ret (?_)
          refine ⟨.inr rfl, .bool (decide ((s_Off.length : Int) = 0)), res1 rfl (rt rfl), ?_⟩
          replace hS : St F_3 (fr) h_4 := hS.perm2 [] 2 rfl rfl
          exact ⟨F_3, decide ((s_Off.length : Int) = 0), rfl, hK, hS, hL_s_On, hL_s_Off, hM⟩
      · replace hM := hM.2 (of_decide_eq_false c_3)
        refine HO.past (past_by rfl rfl c_3) rfl ?_
        refine HO.past (past_by rfl rfl c_3) rfl ?_
        refine HO.past (past_by rfl rfl c_3) rfl ?_
        refine HO.past (past_undef rfl rfl) rfl ?_
        refine HO.past (past_undef rfl rfl) rfl ?_
        refine HO.past (past_undef rfl rfl) rfl ?_
        refine HO.past (past_undef rfl rfl) rfl ?_
        refine HO.past (past_by rfl rfl c_3) rfl ?_
        refine HO.val (v := .bool false) (want_none) rfl (q_pickK false rfl c_3 rfl) ?_
        refine HO.val (v := .bool false) (want_none) rfl (q_assign rfl) ?_
        refine HO.nil (thenQ_normal (?_))
        refine HW.ret (?_)
        refine ⟨.inr rfl, .bool false, res1 rfl (rt rfl), ?_⟩
        replace hS : St F_3 (fr) h_4 := hS.perm2 [] 2 rfl rfl
        exact ⟨F_3, false, rfl, hK, hS, hL_s_On, hL_s_Off, hM⟩
    · replace hM := hM.2 c_2
      refine HO.past (past_by rfl rfl c_2) rfl ?_
      refine HO.past (past_by rfl rfl c_2) rfl ?_
      refine HO.past (past_by rfl rfl c_2) rfl ?_
      refine HO.past (past_by rfl rfl c_2) rfl ?_
      refine HO.past (past_by rfl rfl c_2) rfl ?_
      refine HO.past (past_by rfl rfl c_2) rfl ?_
      refine HO.past (past_by rfl rfl c_2) rfl ?_
      refine HO.val (v := .bool false) (want_none) rfl (q_pickK false rfl c_2 rfl) ?_
      refine HO.val (v := .bool false) (want_none) rfl (q_move rfl) ?_
      refine HO.past (past_some rfl rfl) rfl ?_
      refine HO.past (past_some rfl rfl) rfl ?_
      refine HO.past (past_some rfl rfl) rfl ?_
      refine HO.past (past_undef rfl rfl) rfl ?_
      refine HO.past (past_undef rfl rfl) rfl ?_
      refine HO.past (past_undef rfl rfl) rfl ?_
      refine HO.past (past_undef rfl rfl) rfl ?_
      refine HO.past (past_some rfl rfl) rfl ?_
      refine HO.val (v := .bool false) (want_none) rfl (q_pick rfl rfl) ?_
      refine HO.val (v := .bool false) (want_none) rfl (q_assign rfl) ?_
      refine HO.nil (thenQ_normal (?_))
      refine HW.ret (?_)
      refine ⟨.inr rfl, .bool false, res1 rfl (rt rfl), ?_⟩
      replace hS : St F_2 (fr) h_3 := hS.perm2 [] 1 rfl rfl
      exact ⟨F_2, false, rfl, hK, hS, hL_s_On, hL_s_Off, hM⟩
  · replace hM := hM.2 c_1
    refine HO.past (past_by rfl rfl c_1) rfl ?_
    refine HO.past (past_by rfl rfl c_1) rfl ?_
    refine HO.past (past_by rfl rfl c_1) rfl ?_
    refine HO.val (v := .bool false) (want_none) rfl (q_pickK false rfl c_1 rfl) ?_
    refine HO.val (v := .bool false) (want_none) rfl (q_move rfl) ?_
    refine HO.past (past_some rfl rfl) rfl ?_
    refine HO.past (past_some rfl rfl) rfl ?_
    refine HO.past (past_some rfl rfl) rfl ?_
    refine HO.past (past_some rfl rfl) rfl ?_
    refine HO.past (past_some rfl rfl) rfl ?_
    refine HO.past (past_some rfl rfl) rfl ?_
    refine HO.past (past_some rfl rfl) rfl ?_
    refine HO.val (v := .bool false) (want_none) rfl (q_pick rfl rfl) ?_
    refine HO.val (v := .bool false) (want_none) rfl (q_move rfl) ?_
    refine HO.past (past_some rfl rfl) rfl ?_
    refine HO.past (past_some rfl rfl) rfl ?_
    refine HO.past (past_some rfl rfl) rfl ?_
    refine HO.past (past_undef rfl rfl) rfl ?_
    refine HO.past (past_undef rfl rfl) rfl ?_
    refine HO.past (past_undef rfl rfl) rfl ?_
    refine HO.past (past_undef rfl rfl) rfl ?_
    refine HO.past (past_some rfl rfl) rfl ?_
    refine HO.val (v := .bool false) (want_none) rfl (q_pick rfl rfl) ?_
    refine HO.val (v := .bool false) (want_none) rfl (q_assign rfl) ?_
    refine HO.nil (thenQ_normal (?_))
    refine HW.ret (?_)
    refine ⟨.inr rfl, .bool false, res1 rfl (rt rfl), ?_⟩
    replace hS : St F_1 (fr) h_2 := hS.perm2 [] 1 rfl rfl
    exact ⟨F_1, false, rfl, hK, hS, hL_s_On, hL_s_Off, hM⟩

def law15_four_W (last : Int) (Q : T_api_Addr → Prop) : Prop :=
  ((0 : Int) ≤ last ∧ last < 256) ∧ (Q (false, mkB 16 [10, 0, 0, last, 0, 0, 0, 0, 0, 0, 0, 0, 0, 0, 0, 0]))
set_option maxHeartbeats 40000000 in
set_option maxRecDepth 100000 in
theorem law15_four_walk {F : Fz} {fr : List Ow} {h0 : Heap} (last : Int) (hS : St F (fr) h0)  {Q : T_api_Addr → Prop} (hM : law15_four_W last Q) :
    HC Try.prog 34 #[.int .u8 last] h0 fun u h' => ∃ (F' : Fz) (r_1 : T_api_Addr), u = .agg (e_api_Addr r_1).toArray ∧ Kp F h0 F' h' ∧ St F' (fr) h' ∧ Q r_1 := by
  unfold law15_four_W at hM
  have hK := Kp.refl F h0
  refine HC.of_HW (n := 6) Try.func34 rfl rfl (Nat.le_of_ble_eq_true rfl) ?_
  refine HW.seq ?_
  refine HW.region ?_
  refine HO.eff (want_none) rfl (st_alloc (c := (e_api_Addr (false, (default : Ba 16))).toArray) hS tz_34 rfl) ?_
  rintro _ h_1 ⟨b_1, rfl, hS, hk⟩
  replace hK := hK.trans hk
  refine HO.nil (thenQ_normal (?_))
  refine HW.seq ?_
  refine HW.region ?_
  refine HO.val (v := .int .u8 last) (want_none) rfl (q_move rfl) ?_
  obtain ⟨ho_1, hM⟩ := hM
  refine HO.val (v := .agg (arrCells (mkB 16 [10, 0, 0, last, 0, 0, 0, 0, 0, 0, 0, 0, 0, 0, 0, 0])).toArray) (want_none) rfl ((q_buildA (cells := #[.int .u8 10, .int .u8 0, .int .u8 0, .int .u8 last, .int .u8 0, .int .u8 0, .int .u8 0, .int .u8 0, .int .u8 0, .int .u8 0, .int .u8 0, .int .u8 0, .int .u8 0, .int .u8 0, .int .u8 0, .int .u8 0]) tb_32 rfl).of_eq (mkB_agg (n := 16) (l := [10, 0, 0, last, 0, 0, 0, 0, 0, 0, 0, 0, 0, 0, 0, 0]) rfl ⟨⟨by decide, by decide⟩, ⟨⟨by decide, by decide⟩, ⟨⟨by decide, by decide⟩, ⟨ho_1, ⟨⟨by decide, by decide⟩, ⟨⟨by decide, by decide⟩, ⟨⟨by decide, by decide⟩, ⟨⟨by decide, by decide⟩, ⟨⟨by decide, by decide⟩, ⟨⟨by decide, by decide⟩, ⟨⟨by decide, by decide⟩, ⟨⟨by decide, by decide⟩, ⟨⟨by decide, by decide⟩, ⟨⟨by decide, by decide⟩, ⟨⟨by decide, by decide⟩, ⟨⟨by decide, by decide⟩, trivial⟩⟩⟩⟩⟩⟩⟩⟩⟩⟩⟩⟩⟩⟩⟩⟩)) ?_
  refine HO.val (v := .agg (e_api_Addr (false, mkB 16 [10, 0, 0, last, 0, 0, 0, 0, 0, 0, 0, 0, 0, 0, 0, 0])).toArray) (want_none) rfl (q_build tp_34 (fill_cons (cs' := (e_api_Addr (false, mkB 16 [10, 0, 0, last, 0, 0, 0, 0, 0, 0, 0, 0, 0, 0, 0, 0])).toArray) (vc := (arrCells (mkB 16 [10, 0, 0, last, 0, 0, 0, 0, 0, 0, 0, 0, 0, 0, 0, 0])).toArray) rfl rfl rfl (Nat.le_of_ble_eq_true rfl) rfl rfl)) ?_
  refine HO.sto (want_none) rfl (st_storeAgg (c' := (e_api_Addr (false, mkB 16 [10, 0, 0, last, 0, 0, 0, 0, 0, 0, 0, 0, 0, 0, 0, 0])).toArray) hS (i := 0) rfl ta_34 rfl rfl rfl (one_e_api_Addr _) (Nat.le_of_ble_eq_true rfl) rfl) ?_
  rintro h_2 ⟨hS, hk⟩
  replace hS : St F (Ow.box b_1 34 (e_api_Addr (false, mkB 16 [10, 0, 0, last, 0, 0, 0, 0, 0, 0, 0, 0, 0, 0, 0, 0])).toArray :: fr) h_2 := hS
  replace hK := hK.trans hk
  refine HO.nil (thenQ_normal (?_))
  refine HW.ret (?_)
  refine ⟨.inr rfl, .agg (e_api_Addr (false, mkB 16 [10, 0, 0, last, 0, 0, 0, 0, 0, 0, 0, 0, 0, 0, 0, 0])).toArray, res1 rfl (rca (cs := (e_api_Addr (false, mkB 16 [10, 0, 0, last, 0, 0, 0, 0, 0, 0, 0, 0, 0, 0, 0, 0]))) ta_34 rfl rfl (Blk.cells (k := 17) (hS.box 0 rfl) rfl)), ?_⟩
  replace hS : St F (fr) h_2 := hS.perm2 [] 1 rfl rfl
  exact ⟨F, (false, mkB 16 [10, 0, 0, last, 0, 0, 0, 0, 0, 0, 0, 0, 0, 0, 0, 0]), rfl, hK, hS, hM⟩

def filter_exclude_j1 (x : List T_api_Addr) (y : List T_api_Addr) (kind : Int) (b : List T_api_Addr) (Q : Bool → (List T_api_Addr) → (List T_api_Addr) → (List T_api_Addr) → (List T_api_Addr) → Bool → (List T_api_Addr) → Bool → Prop) (r_2 : List T_api_Addr) (r_3 : List T_api_Addr) (b_3 : Bool) : Prop :=
  (b_3 = true → srcs_Or_W x b (fun r_4 => srcs_Minus_W y b (fun r_5 => (kind = 3 → srcs_Minus_W x b (fun r_6 => Q true r_4 r_5 b [] false r_6 true)) ∧ (¬ (kind = 3) → Q true r_4 r_5 b [] false [] false)))) ∧ (b_3 = false → (kind = 2 → srcs_And_W y b (fun r_7 => Q true r_3 r_7 r_2 [] true [] false)) ∧ (¬ (kind = 2) → (kind = 4 → srcs_And_W y b (fun r_8 => slices_Clone_s_api_Addr_api_Addr_W r_3 (fun r_9 => Q true r_3 r_8 [] r_2 true r_9 false))) ∧ (¬ (kind = 4) → (kind = 6 → srcs_Or_W x r_3 (fun r_10 => slices_Clone_s_api_Addr_api_Addr_W y (fun r_11 => Q true r_10 r_11 [] r_2 false r_3 false))) ∧ (¬ (kind = 6) → slices_Clone_s_api_Addr_api_Addr_W x (fun r_12 => slices_Clone_s_api_Addr_api_Addr_W y (fun r_13 => Q true r_12 r_13 [] [] false [] false))))))
def filter_exclude_W (x : List T_api_Addr) (y : List T_api_Addr) (kind : Int) (b : List T_api_Addr) (Q : Bool → (List T_api_Addr) → (List T_api_Addr) → (List T_api_Addr) → (List T_api_Addr) → Bool → (List T_api_Addr) → Bool → Prop) : Prop :=
  srcs_Minus_W b x (fun r_1 => srcs_Minus_W r_1 y (fun r_2 => srcs_Minus_W b y (fun r_3 => (kind = 1 → filter_exclude_j1 x y kind b Q r_2 r_3 (decide (kind = 1))) ∧ (¬ (kind = 1) → (kind = 5 → filter_exclude_j1 x y kind b Q r_2 r_3 (decide (kind = 5))) ∧ (¬ (kind = 5) → filter_exclude_j1 x y kind b Q r_2 r_3 (decide (kind = 3)))))))
set_option maxHeartbeats 40000000 in
set_option maxRecDepth 100000 in
theorem filter_exclude_walk {F : Fz} {fr : List Ow} {h0 : Heap} (x : List T_api_Addr) (y : List T_api_Addr) (kind : Int) (b : List T_api_Addr) (vx : Value) (vy : Value) (vb : Value) (hS : St F (fr) h0) (hL_x : SliceF F h0 17 e_api_Addr vx x) (hL_y : SliceF F h0 17 e_api_Addr vy y) (hL_b : SliceF F h0 17 e_api_Addr vb b) {Q : Bool → (List T_api_Addr) → (List T_api_Addr) → (List T_api_Addr) → (List T_api_Addr) → Bool → (List T_api_Addr) → Bool → Prop} (hM : filter_exclude_W x y kind b Q) :
    HC Try.prog 31 #[vx, vy, .int .i64 kind, vb] h0 fun u h' => ∃ (F' : Fz) (r_0_1 : Bool) (r_1_1 : List T_api_Addr) (r_2_1 : List T_api_Addr) (r_3_1 : List T_api_Addr) (r_4_1 : List T_api_Addr) (r_5_1 : Bool) (r_6_1 : List T_api_Addr) (r_7_1 : Bool) (vr_1_1 : Value) (vr_2_1 : Value) (vr_3_1 : Value) (vr_4_1 : Value) (vr_6_1 : Value), u = .agg #[.bool r_0_1, vr_1_1, vr_2_1, vr_3_1, vr_4_1, .bool r_5_1, vr_6_1, .bool r_7_1] ∧ Kp F h0 F' h' ∧ St F' (Ow.own 34 17 e_api_Addr vr_1_1 r_1_1 :: Ow.own 34 17 e_api_Addr vr_2_1 r_2_1 :: Ow.own 34 17 e_api_Addr vr_4_1 r_4_1 :: Ow.own 34 17 e_api_Addr vr_6_1 r_6_1 :: fr) h' ∧ (SliceF F' h' 17 e_api_Addr vx x) ∧ (SliceF F' h' 17 e_api_Addr vy y) ∧ (SliceF F' h' 17 e_api_Addr vb b) ∧ (SliceF F' h' 17 e_api_Addr vr_3_1 r_3_1) ∧ Q r_0_1 r_1_1 r_2_1 r_3_1 r_4_1 r_5_1 r_6_1 r_7_1 := by
  unfold filter_exclude_W at hM
  have hK := Kp.refl F h0
  refine HC.of_HW (n := 99) Try.func31 rfl rfl (Nat.le_of_ble_eq_true rfl) ?_
  refine HW.seq ?_
  refine HW.region ?_
  refine HO.eff (want_none) rfl (st_alloc (c := #[.bool false, .slice none 0 0, .slice none 0 0, .slice none 0 0, .slice none 0 0, .bool false, .slice none 0 0, .bool false]) hS tz_29 rfl) ?_
  rintro _ h_1 ⟨b_1, rfl, hS, hk⟩
  replace hK := hK.trans hk
  replace hL_x := hL_x.kp hk
  replace hL_y := hL_y.kp hk
  replace hL_b := hL_b.kp hk
  refine HO.nil (thenQ_normal (?_))
  refine HW.seq ?_
  refine HW.region ?_
  refine HO.val (v := vb) (want_none) rfl (q_move rfl) ?_
  refine HO.val (v := vx) (want_none) rfl (q_move rfl) ?_
  refine HO.call (want_none) rfl (ec en_39 rfl rfl) (srcs_Minus_walk (fr := (Ow.box b_1 29 #[.bool false, .slice none 0 0, .slice none 0 0, .slice none 0 0, .slice none 0 0, .bool false, .slice none 0 0, .bool false] :: fr)) b x vb vx hS hL_b hL_x hM) ?_
  rintro vr_1 h_2 ⟨F_1, r_1, _, rfl, hk, hS, _, _, hM⟩
  replace hK := hK.trans hk
  replace hL_x := hL_x.kp hk
  replace hL_y := hL_y.kp hk
  replace hL_b := hL_b.kp hk
  refine HO.val (v := vy) (want_none) rfl (q_move rfl) ?_
  have hZ_1 := hS
  have hkz_1 := (hS.freeze).2
  replace hS := hS.freeze.1
  have hL_2 : SliceF (fun b => F_1 b ∨ (Ow.own 34 17 e_api_Addr vr_1 r_1).foot b) h_2 17 e_api_Addr vr_1 r_1 := ⟨(hZ_1.own 0 rfl).slice, fun _ b hb => .inr hb⟩
  refine HO.call (want_none) rfl (ec en_39 rfl rfl) (srcs_Minus_walk (fr := (Ow.box b_1 29 #[.bool false, .slice none 0 0, .slice none 0 0, .slice none 0 0, .slice none 0 0, .bool false, .slice none 0 0, .bool false] :: fr)) r_1 y vr_1 vy hS hL_2 (hL_y.kp hkz_1) hM) ?_
  rintro vr_2 h_3 ⟨F_2, r_2, _, rfl, hk, hS, _, _, hM⟩
  obtain ⟨hS, hk⟩ := hZ_1.back hk hS
  generalize (fun b => F_2 b ∧ ¬ (Ow.own 34 17 e_api_Addr vr_1 r_1).foot b) = F_3 at hS hk
  replace hK := hK.trans hk
  replace hL_x := hL_x.kp hk
  replace hL_y := hL_y.kp hk
  replace hL_b := hL_b.kp hk
  refine HO.val (v := vr_2) (want_none) rfl (q_assign rfl) ?_
  refine HO.nil (thenQ_normal (?_))
  refine HW.seq ?_
  refine HW.region ?_
  refine HO.val (v := vb) (want_none) rfl (q_move rfl) ?_
  refine HO.val (v := vy) (want_none) rfl (q_move rfl) ?_
  refine HO.call (want_none) rfl (ec en_39 rfl rfl) (srcs_Minus_walk (fr := (Ow.own 34 17 e_api_Addr vr_1 r_1 :: Ow.own 34 17 e_api_Addr vr_2 r_2 :: Ow.box b_1 29 #[.bool false, .slice none 0 0, .slice none 0 0, .slice none 0 0, .slice none 0 0, .bool false, .slice none 0 0, .bool false] :: fr)) b y vb vy hS hL_b hL_y hM) ?_
  rintro vr_3 h_4 ⟨F_4, r_3, _, rfl, hk, hS, _, _, hM⟩
  replace hK := hK.trans hk
  replace hL_x := hL_x.kp hk
  replace hL_y := hL_y.kp hk
  replace hL_b := hL_b.kp hk
  refine HO.val (v := vr_3) (want_none) rfl (q_assign rfl) ?_
  refine HO.nil (thenQ_normal (?_))
  refine HW.seq ?_
  refine HW.region ?_
  refine HO.val (v := .agg #[.bool true, .slice none 0 0, .slice none 0 0]) (want_none) rfl (q_build tp_24 rfl) ?_
  refine HO.val (v := .agg #[.bool true, .slice none 0 0, .slice none 0 0, .slice none 0 0, .slice none 0 0, .bool false, .slice none 0 0, .bool false]) (want_none) rfl (q_build tp_29 (fill_cons (cs' := #[.bool true, .slice none 0 0, .slice none 0 0, .slice none 0 0, .slice none 0 0, .bool false, .slice none 0 0, .bool false]) (vc := #[.bool true, .slice none 0 0, .slice none 0 0]) rfl rfl rfl (Nat.le_of_ble_eq_true rfl) rfl rfl)) ?_
  refine HO.eff (want_none) rfl (st_alloc (c := #[.bool false, .slice none 0 0, .slice none 0 0, .slice none 0 0, .slice none 0 0, .bool false, .slice none 0 0, .bool false]) hS tz_29 rfl) ?_
  rintro _ h_5 ⟨b_2, rfl, hS, hk⟩
  replace hK := hK.trans hk
  replace hL_x := hL_x.kp hk
  replace hL_y := hL_y.kp hk
  replace hL_b := hL_b.kp hk
  refine HO.sto (want_none) rfl (st_storeAgg (c' := #[.bool true, .slice none 0 0, .slice none 0 0, .slice none 0 0, .slice none 0 0, .bool false, .slice none 0 0, .bool false]) hS (i := 0) rfl ta_29 rfl rfl rfl (by simp [Value.oneCell']) (Nat.le_of_ble_eq_true rfl) rfl) ?_
  rintro h_6 ⟨hS, hk⟩
  replace hS : St F_4 (Ow.box b_2 29 #[.bool true, .slice none 0 0, .slice none 0 0, .slice none 0 0, .slice none 0 0, .bool false, .slice none 0 0, .bool false] :: Ow.own 34 17 e_api_Addr vr_3 r_3 :: Ow.own 34 17 e_api_Addr vr_1 r_1 :: Ow.own 34 17 e_api_Addr vr_2 r_2 :: Ow.box b_1 29 #[.bool false, .slice none 0 0, .slice none 0 0, .slice none 0 0, .slice none 0 0, .bool false, .slice none 0 0, .bool false] :: fr) h_6 := hS
  replace hK := hK.trans hk
  replace hL_x := hL_x.kp hk
  replace hL_y := hL_y.kp hk
  replace hL_b := hL_b.kp hk
  refine HO.nil (thenQ_normal (?_))
  refine HW.seq ?_
  refine HW.seq ?_
  refine HW.region ?_
  refine HO.val (v := .int .i64 kind) (want_none) rfl (q_move rfl) ?_
  refine HO.nil (thenQ_normal (?_))
  refine HW.block ?_
  refine HW.seq_mid (fun f h => ∃ (F' : Fz) (b_3 : Bool), f 0 = vx ∧ f 1 = vy ∧ f 2 = .int .i64 kind ∧ f 3 = vb ∧ f 8 = .pointer (some ⟨b_1, 0, none⟩) ∧ f 9 = vr_2 ∧ f 10 = vr_3 ∧ f 11 = .pointer (some ⟨b_2, 0, none⟩) ∧ f 22 = .int .i64 kind ∧ f 31 = .bool b_3 ∧ Kp F h0 F' h ∧ St F' (Ow.box b_1 29 #[.bool false, .slice none 0 0, .slice none 0 0, .slice none 0 0, .slice none 0 0, .bool false, .slice none 0 0, .bool false] :: Ow.own 34 17 e_api_Addr vr_2 r_2 :: Ow.own 34 17 e_api_Addr vr_3 r_3 :: Ow.box b_2 29 #[.bool true, .slice none 0 0, .slice none 0 0, .slice none 0 0, .slice none 0 0, .bool false, .slice none 0 0, .bool false] :: fr) h ∧ (SliceF F' h 17 e_api_Addr vx x) ∧ (SliceF F' h 17 e_api_Addr vy y) ∧ (SliceF F' h 17 e_api_Addr vb b) ∧ filter_exclude_j1 x y kind b Q r_2 r_3 b_3) ?_ ?_
  · refine HW.seq ?_
    refine HW.region ?_
    refine HO.val (v := .bool (decide (kind = 1))) (want_none) rfl (q_eql rfl rfl) ?_
    refine HO.val (v := .bool (decide (kind = 1))) (want_none) rfl (q_assign rfl) ?_
    refine HO.nil (thenQ_normal (?_))
    refine HW.cond (decide (kind = 1)) rfl (fun c_1 => ?_) (fun c_1 => ?_)
    · replace hM := hM.1 (of_decide_eq_true c_1)
      refine HW.skip (thenQ_normal (?_))
      replace hS : St F_4 (Ow.box b_1 29 #[.bool false, .slice none 0 0, .slice none 0 0, .slice none 0 0, .slice none 0 0, .bool false, .slice none 0 0, .bool false] :: Ow.own 34 17 e_api_Addr vr_2 r_2 :: Ow.own 34 17 e_api_Addr vr_3 r_3 :: Ow.box b_2 29 #[.bool true, .slice none 0 0, .slice none 0 0, .slice none 0 0, .slice none 0 0, .bool false, .slice none 0 0, .bool false] :: fr) h_6 := hS.perm2 [4, 3, 1, 0] 5 rfl rfl
      exact ⟨F_4, decide (kind = 1), rfl, rfl, rfl, rfl, rfl, rfl, rfl, rfl, rfl, rfl, hK, hS, hL_x, hL_y, hL_b, hM⟩
    · replace hM := hM.2 (of_decide_eq_false c_1)
      refine HW.seq ?_
      refine HW.region ?_
      refine HO.val (v := .bool (decide (kind = 5))) (want_none) rfl (q_eql rfl rfl) ?_
      refine HO.val (v := .bool (decide (kind = 5))) (want_none) rfl (q_assign rfl) ?_
      refine HO.nil (thenQ_normal (?_))
      refine HW.cond (decide (kind = 5)) rfl (fun c_2 => ?_) (fun c_2 => ?_)
      · replace hM := hM.1 (of_decide_eq_true c_2)
        refine HW.skip (thenQ_normal (?_))
        replace hS : St F_4 (Ow.box b_1 29 #[.bool false, .slice none 0 0, .slice none 0 0, .slice none 0 0, .slice none 0 0, .bool false, .slice none 0 0, .bool false] :: Ow.own 34 17 e_api_Addr vr_2 r_2 :: Ow.own 34 17 e_api_Addr vr_3 r_3 :: Ow.box b_2 29 #[.bool true, .slice none 0 0, .slice none 0 0, .slice none 0 0, .slice none 0 0, .bool false, .slice none 0 0, .bool false] :: fr) h_6 := hS.perm2 [4, 3, 1, 0] 5 rfl rfl
        exact ⟨F_4, decide (kind = 5), rfl, rfl, rfl, rfl, rfl, rfl, rfl, rfl, rfl, rfl, hK, hS, hL_x, hL_y, hL_b, hM⟩
      · replace hM := hM.2 (of_decide_eq_false c_2)
        refine HW.region ?_
        refine HO.val (v := .bool (decide (kind = 3))) (want_none) rfl (q_eql rfl rfl) ?_
        refine HO.val (v := .bool (decide (kind = 3))) (want_none) rfl (q_assign rfl) ?_
        refine HO.nil (thenQ_normal (?_))
        replace hS : St F_4 (Ow.box b_1 29 #[.bool false, .slice none 0 0, .slice none 0 0, .slice none 0 0, .slice none 0 0, .bool false, .slice none 0 0, .bool false] :: Ow.own 34 17 e_api_Addr vr_2 r_2 :: Ow.own 34 17 e_api_Addr vr_3 r_3 :: Ow.box b_2 29 #[.bool true, .slice none 0 0, .slice none 0 0, .slice none 0 0, .slice none 0 0, .bool false, .slice none 0 0, .bool false] :: fr) h_6 := hS.perm2 [4, 3, 1, 0] 5 rfl rfl
        exact ⟨F_4, decide (kind = 3), rfl, rfl, rfl, rfl, rfl, rfl, rfl, rfl, rfl, rfl, hK, hS, hL_x, hL_y, hL_b, hM⟩
  · rintro f_1 h_7 ⟨F_5, b_3, e0, e1, e2, e3, e8, e9, e10, e11, e22, e31, hK, hS, hL_x, hL_y, hL_b, hM⟩
    unfold filter_exclude_j1 at hM
    refine HW.fr [(0, vx), (1, vy), (2, .int .i64 kind), (3, vb), (8, .pointer (some ⟨b_1, 0, none⟩)), (9, vr_2), (10, vr_3), (11, .pointer (some ⟨b_2, 0, none⟩)), (22, .int .i64 kind), (31, .bool b_3)] ⟨e0, e1, e2, e3, e8, e9, e10, e11, e22, e31, trivial⟩ ?_
    refine HW.cond b_3 rfl (fun c_3 => ?_) (fun c_3 => ?_)
    · replace hM := hM.1 c_3
      refine HW.seq ?_
      refine HW.region ?_
      refine HO.val (v := vx) (want_none) rfl (q_move rfl) ?_
      refine HO.val (v := vb) (want_none) rfl (q_move rfl) ?_
      refine HO.call (want_none) rfl (ec en_40 rfl rfl) (srcs_Or_walk (fr := (Ow.box b_1 29 #[.bool false, .slice none 0 0, .slice none 0 0, .slice none 0 0, .slice none 0 0, .bool false, .slice none 0 0, .bool false] :: Ow.own 34 17 e_api_Addr vr_2 r_2 :: Ow.own 34 17 e_api_Addr vr_3 r_3 :: Ow.box b_2 29 #[.bool true, .slice none 0 0, .slice none 0 0, .slice none 0 0, .slice none 0 0, .bool false, .slice none 0 0, .bool false] :: fr)) x b vx vb hS hL_x hL_b hM) ?_
      rintro vr_4 h_8 ⟨F_6, r_4, _, rfl, hk, hS, _, _, hM⟩
      replace hK := hK.trans hk
      replace hL_x := hL_x.kp hk
      replace hL_y := hL_y.kp hk
      replace hL_b := hL_b.kp hk
      refine HO.val (v := vy) (want_none) rfl (q_move rfl) ?_
      refine HO.val (v := vb) (want_none) rfl (q_move rfl) ?_
      refine HO.call (want_none) rfl (ec en_39 rfl rfl) (srcs_Minus_walk (fr := (Ow.own 34 17 e_api_Addr vr_4 r_4 :: Ow.box b_1 29 #[.bool false, .slice none 0 0, .slice none 0 0, .slice none 0 0, .slice none 0 0, .bool false, .slice none 0 0, .bool false] :: Ow.own 34 17 e_api_Addr vr_2 r_2 :: Ow.own 34 17 e_api_Addr vr_3 r_3 :: Ow.box b_2 29 #[.bool true, .slice none 0 0, .slice none 0 0, .slice none 0 0, .slice none 0 0, .bool false, .slice none 0 0, .bool false] :: fr)) y b vy vb hS hL_y hL_b hM) ?_
      rintro vr_5 h_9 ⟨F_7, r_5, _, rfl, hk, hS, _, _, hM⟩
      replace hK := hK.trans hk
      replace hL_x := hL_x.kp hk
      replace hL_y := hL_y.kp hk
      replace hL_b := hL_b.kp hk
      refine HO.val (v := vb) (want_none) rfl (q_move rfl) ?_
      refine HO.val (v := .pointer (some ⟨b_2, 0, none⟩)) (want_none) rfl (q_fieldAddr fa_29_0 rfl rfl) ?_
      refine HO.val (v := .pointer (some ⟨b_2, 1, none⟩)) (want_none) rfl (q_fieldAddr fa_24_1 rfl rfl) ?_
      refine HO.sto (want_none) rfl (st_store (c' := #[.bool true, vr_4, .slice none 0 0, .slice none 0 0, .slice none 0 0, .bool false, .slice none 0 0, .bool false]) hS (i := 5) rfl to_22 rfl rfl (shp (hS.own 1 rfl).slice).cells (shp (hS.own 1 rfl).slice).one (Nat.le_of_ble_eq_true rfl) rfl) ?_
      rintro h_10 ⟨hS, hk⟩
      replace hS : St F_7 (Ow.own 34 17 e_api_Addr vr_5 r_5 :: Ow.own 34 17 e_api_Addr vr_4 r_4 :: Ow.box b_1 29 #[.bool false, .slice none 0 0, .slice none 0 0, .slice none 0 0, .slice none 0 0, .bool false, .slice none 0 0, .bool false] :: Ow.own 34 17 e_api_Addr vr_2 r_2 :: Ow.own 34 17 e_api_Addr vr_3 r_3 :: Ow.box b_2 29 #[.bool true, vr_4, .slice none 0 0, .slice none 0 0, .slice none 0 0, .bool false, .slice none 0 0, .bool false] :: fr) h_10 := hS
      replace hK := hK.trans hk
      replace hL_x := hL_x.kp hk
      replace hL_y := hL_y.kp hk
      replace hL_b := hL_b.kp hk
      refine HO.val (v := .pointer (some ⟨b_2, 0, none⟩)) (want_none) rfl (q_fieldAddr fa_29_0 rfl rfl) ?_
      refine HO.val (v := .pointer (some ⟨b_2, 2, none⟩)) (want_none) rfl (q_fieldAddr fa_24_2 rfl rfl) ?_
      refine HO.sto (want_none) rfl (st_store (c' := #[.bool true, vr_4, vr_5, .slice none 0 0, .slice none 0 0, .bool false, .slice none 0 0, .bool false]) hS (i := 5) rfl to_22 rfl rfl (shp (hS.own 0 rfl).slice).cells (shp (hS.own 0 rfl).slice).one (Nat.le_of_ble_eq_true rfl) rfl) ?_
      rintro h_11 ⟨hS, hk⟩
      replace hS : St F_7 (Ow.own 34 17 e_api_Addr vr_5 r_5 :: Ow.own 34 17 e_api_Addr vr_4 r_4 :: Ow.box b_1 29 #[.bool false, .slice none 0 0, .slice none 0 0, .slice none 0 0, .slice none 0 0, .bool false, .slice none 0 0, .bool false] :: Ow.own 34 17 e_api_Addr vr_2 r_2 :: Ow.own 34 17 e_api_Addr vr_3 r_3 :: Ow.box b_2 29 #[.bool true, vr_4, vr_5, .slice none 0 0, .slice none 0 0, .bool false, .slice none 0 0, .bool false] :: fr) h_11 := hS
      replace hK := hK.trans hk
      replace hL_x := hL_x.kp hk
      replace hL_y := hL_y.kp hk
      replace hL_b := hL_b.kp hk
      refine HO.val (v := .pointer (some ⟨b_2, 3, none⟩)) (want_none) rfl (q_fieldAddr fa_29_1 rfl rfl) ?_
      refine HO.sto (want_none) rfl (st_store (c' := #[.bool true, vr_4, vr_5, vb, .slice none 0 0, .bool false, .slice none 0 0, .bool false]) hS (i := 5) rfl to_22 rfl rfl (shp hL_b.is).cells (shp hL_b.is).one (Nat.le_of_ble_eq_true rfl) rfl) ?_
      rintro h_12 ⟨hS, hk⟩
      replace hS : St F_7 (Ow.own 34 17 e_api_Addr vr_5 r_5 :: Ow.own 34 17 e_api_Addr vr_4 r_4 :: Ow.box b_1 29 #[.bool false, .slice none 0 0, .slice none 0 0, .slice none 0 0, .slice none 0 0, .bool false, .slice none 0 0, .bool false] :: Ow.own 34 17 e_api_Addr vr_2 r_2 :: Ow.own 34 17 e_api_Addr vr_3 r_3 :: Ow.box b_2 29 #[.bool true, vr_4, vr_5, vb, .slice none 0 0, .bool false, .slice none 0 0, .bool false] :: fr) h_12 := hS
      replace hK := hK.trans hk
      replace hL_x := hL_x.kp hk
      replace hL_y := hL_y.kp hk
      replace hL_b := hL_b.kp hk
      refine HO.nil (thenQ_normal (?_))
      refine HW.seq ?_
      refine HW.region ?_
      refine HO.val (v := .int .i64 kind) (want_none) rfl (q_move rfl) ?_
      refine HO.val (v := .bool (decide (kind = 3))) (want_none) rfl (q_eql rfl rfl) ?_
      refine HO.nil (thenQ_normal (?_))
      refine HW.cond (decide (kind = 3)) rfl (fun c_4 => ?_) (fun c_4 => ?_)
      · replace hM := hM.1 (of_decide_eq_true c_4)
        refine HW.region ?_
        refine HO.val (v := vx) (want_none) rfl (q_move rfl) ?_
        refine HO.val (v := vb) (want_none) rfl (q_move rfl) ?_
        refine HO.call (want_none) rfl (ec en_39 rfl rfl) (srcs_Minus_walk (fr := (Ow.own 34 17 e_api_Addr vr_5 r_5 :: Ow.own 34 17 e_api_Addr vr_4 r_4 :: Ow.box b_1 29 #[.bool false, .slice none 0 0, .slice none 0 0, .slice none 0 0, .slice none 0 0, .bool false, .slice none 0 0, .bool false] :: Ow.own 34 17 e_api_Addr vr_2 r_2 :: Ow.own 34 17 e_api_Addr vr_3 r_3 :: Ow.box b_2 29 #[.bool true, vr_4, vr_5, vb, .slice none 0 0, .bool false, .slice none 0 0, .bool false] :: fr)) x b vx vb hS hL_x hL_b hM) ?_
        rintro vr_6 h_13 ⟨F_8, r_6, _, rfl, hk, hS, _, _, hM⟩
        replace hK := hK.trans hk
        replace hL_x := hL_x.kp hk
        replace hL_y := hL_y.kp hk
        replace hL_b := hL_b.kp hk
        refine HO.val (v := .pointer (some ⟨b_2, 6, none⟩)) (want_none) rfl (q_fieldAddr fa_29_4 rfl rfl) ?_
        refine HO.sto (want_none) rfl (st_store (c' := #[.bool true, vr_4, vr_5, vb, .slice none 0 0, .bool false, vr_6, .bool false]) hS (i := 6) rfl to_22 rfl rfl (shp (hS.own 0 rfl).slice).cells (shp (hS.own 0 rfl).slice).one (Nat.le_of_ble_eq_true rfl) rfl) ?_
        rintro h_14 ⟨hS, hk⟩
        replace hS : St F_8 (Ow.own 34 17 e_api_Addr vr_6 r_6 :: Ow.own 34 17 e_api_Addr vr_5 r_5 :: Ow.own 34 17 e_api_Addr vr_4 r_4 :: Ow.box b_1 29 #[.bool false, .slice none 0 0, .slice none 0 0, .slice none 0 0, .slice none 0 0, .bool false, .slice none 0 0, .bool false] :: Ow.own 34 17 e_api_Addr vr_2 r_2 :: Ow.own 34 17 e_api_Addr vr_3 r_3 :: Ow.box b_2 29 #[.bool true, vr_4, vr_5, vb, .slice none 0 0, .bool false, vr_6, .bool false] :: fr) h_14 := hS
        replace hK := hK.trans hk
        replace hL_x := hL_x.kp hk
        replace hL_y := hL_y.kp hk
        replace hL_b := hL_b.kp hk
        refine HO.val (v := .pointer (some ⟨b_2, 7, none⟩)) (want_none) rfl (q_fieldAddr fa_29_5 rfl rfl) ?_
        refine HO.sto (want_none) rfl (st_store (c' := #[.bool true, vr_4, vr_5, vb, .slice none 0 0, .bool false, vr_6, .bool true]) hS (i := 6) rfl to_4 rfl rfl rfl rfl (Nat.le_of_ble_eq_true rfl) rfl) ?_
        rintro h_15 ⟨hS, hk⟩
        replace hS : St F_8 (Ow.own 34 17 e_api_Addr vr_6 r_6 :: Ow.own 34 17 e_api_Addr vr_5 r_5 :: Ow.own 34 17 e_api_Addr vr_4 r_4 :: Ow.box b_1 29 #[.bool false, .slice none 0 0, .slice none 0 0, .slice none 0 0, .slice none 0 0, .bool false, .slice none 0 0, .bool false] :: Ow.own 34 17 e_api_Addr vr_2 r_2 :: Ow.own 34 17 e_api_Addr vr_3 r_3 :: Ow.box b_2 29 #[.bool true, vr_4, vr_5, vb, .slice none 0 0, .bool false, vr_6, .bool true] :: fr) h_15 := hS
        replace hK := hK.trans hk
        replace hL_x := hL_x.kp hk
        replace hL_y := hL_y.kp hk
        replace hL_b := hL_b.kp hk
        refine HO.nil (blockQ_normal (thenQ_normal (?_)))
        refine HW.seq ?_
        refine HW.region ?_
        refine HO.val (v := .agg #[.bool true, vr_4, vr_5, vb, .slice none 0 0, .bool false, vr_6, .bool true]) (want_none) rfl (q_loadAgg (cs := [.bool true, vr_4, vr_5, vb, .slice none 0 0, .bool false, vr_6, .bool true]) ta_29 rfl rfl (Blk.cells (k := 8) (hS.box 6 rfl) rfl)) ?_
        refine HO.sto (want_none) rfl (st_storeAgg (c' := #[.bool true, vr_4, vr_5, vb, .slice none 0 0, .bool false, vr_6, .bool true]) hS (i := 3) rfl ta_29 rfl rfl rfl (List.forall_mem_cons.2 ⟨rfl, (List.forall_mem_cons.2 ⟨(shp (hS.own 2 rfl).slice).one, (List.forall_mem_cons.2 ⟨(shp (hS.own 1 rfl).slice).one, (List.forall_mem_cons.2 ⟨(shp hL_b.is).one, (List.forall_mem_cons.2 ⟨rfl, (List.forall_mem_cons.2 ⟨rfl, (List.forall_mem_cons.2 ⟨(shp (hS.own 0 rfl).slice).one, (List.forall_mem_cons.2 ⟨rfl, (fun _ h => by cases h)⟩)⟩)⟩)⟩)⟩)⟩)⟩)⟩) (Nat.le_of_ble_eq_true rfl) rfl) ?_
        rintro h_16 ⟨hS, hk⟩
        replace hS : St F_8 (Ow.own 34 17 e_api_Addr vr_6 r_6 :: Ow.own 34 17 e_api_Addr vr_5 r_5 :: Ow.own 34 17 e_api_Addr vr_4 r_4 :: Ow.box b_1 29 #[.bool true, vr_4, vr_5, vb, .slice none 0 0, .bool false, vr_6, .bool true] :: Ow.own 34 17 e_api_Addr vr_2 r_2 :: Ow.own 34 17 e_api_Addr vr_3 r_3 :: Ow.box b_2 29 #[.bool true, vr_4, vr_5, vb, .slice none 0 0, .bool false, vr_6, .bool true] :: fr) h_16 := hS
        replace hK := hK.trans hk
        replace hL_x := hL_x.kp hk
        replace hL_y := hL_y.kp hk
        replace hL_b := hL_b.kp hk
        refine HO.nil (thenQ_normal (?_))
        refine HW.ret (?_)
        refine ⟨.inr rfl, .agg #[.bool true, vr_4, vr_5, vb, .slice none 0 0, .bool false, vr_6, .bool true], res1 rfl (rca (cs := [.bool true, vr_4, vr_5, vb, .slice none 0 0, .bool false, vr_6, .bool true]) ta_29 rfl rfl (Blk.cells (k := 8) (hS.box 3 rfl) rfl)), ?_⟩
        replace hS := hS.nilOwn 34 17 e_api_Addr
        replace hS : St F_8 (Ow.own 34 17 e_api_Addr vr_4 r_4 :: Ow.own 34 17 e_api_Addr vr_5 r_5 :: Ow.own 34 17 e_api_Addr (.slice none 0 0) ([] : List T_api_Addr) :: Ow.own 34 17 e_api_Addr vr_6 r_6 :: fr) h_16 := hS.perm2 [3, 2, 0, 1] 8 rfl rfl
        exact ⟨F_8, true, r_4, r_5, b, [], false, r_6, true, vr_4, vr_5, vb, .slice none 0 0, vr_6, rfl, hK, hS, hL_x, hL_y, hL_b, hL_b, hM⟩
      · replace hM := hM.2 (of_decide_eq_false c_4)
        refine HW.skip (blockQ_normal (thenQ_normal (?_)))
        refine HW.seq ?_
        refine HW.region ?_
        refine HO.val (v := .agg #[.bool true, vr_4, vr_5, vb, .slice none 0 0, .bool false, .slice none 0 0, .bool false]) (want_none) rfl (q_loadAgg (cs := [.bool true, vr_4, vr_5, vb, .slice none 0 0, .bool false, .slice none 0 0, .bool false]) ta_29 rfl rfl (Blk.cells (k := 8) (hS.box 5 rfl) rfl)) ?_
        refine HO.sto (want_none) rfl (st_storeAgg (c' := #[.bool true, vr_4, vr_5, vb, .slice none 0 0, .bool false, .slice none 0 0, .bool false]) hS (i := 2) rfl ta_29 rfl rfl rfl (List.forall_mem_cons.2 ⟨rfl, (List.forall_mem_cons.2 ⟨(shp (hS.own 1 rfl).slice).one, (List.forall_mem_cons.2 ⟨(shp (hS.own 0 rfl).slice).one, (List.forall_mem_cons.2 ⟨(shp hL_b.is).one, (List.forall_mem_cons.2 ⟨rfl, (List.forall_mem_cons.2 ⟨rfl, (List.forall_mem_cons.2 ⟨rfl, (List.forall_mem_cons.2 ⟨rfl, (fun _ h => by cases h)⟩)⟩)⟩)⟩)⟩)⟩)⟩)⟩) (Nat.le_of_ble_eq_true rfl) rfl) ?_
        rintro h_17 ⟨hS, hk⟩
        replace hS : St F_7 (Ow.own 34 17 e_api_Addr vr_5 r_5 :: Ow.own 34 17 e_api_Addr vr_4 r_4 :: Ow.box b_1 29 #[.bool true, vr_4, vr_5, vb, .slice none 0 0, .bool false, .slice none 0 0, .bool false] :: Ow.own 34 17 e_api_Addr vr_2 r_2 :: Ow.own 34 17 e_api_Addr vr_3 r_3 :: Ow.box b_2 29 #[.bool true, vr_4, vr_5, vb, .slice none 0 0, .bool false, .slice none 0 0, .bool false] :: fr) h_17 := hS
        replace hK := hK.trans hk
        replace hL_x := hL_x.kp hk
        replace hL_y := hL_y.kp hk
        replace hL_b := hL_b.kp hk
        refine HO.nil (thenQ_normal (?_))
        refine HW.ret (?_)
        refine ⟨.inr rfl, .agg #[.bool true, vr_4, vr_5, vb, .slice none 0 0, .bool false, .slice none 0 0, .bool false], res1 rfl (rca (cs := [.bool true, vr_4, vr_5, vb, .slice none 0 0, .bool false, .slice none 0 0, .bool false]) ta_29 rfl rfl (Blk.cells (k := 8) (hS.box 2 rfl) rfl)), ?_⟩
        replace hS := hS.nilOwn 34 17 e_api_Addr
        replace hS := hS.nilOwn 34 17 e_api_Addr
        replace hS : St F_7 (Ow.own 34 17 e_api_Addr vr_4 r_4 :: Ow.own 34 17 e_api_Addr vr_5 r_5 :: Ow.own 34 17 e_api_Addr (.slice none 0 0) ([] : List T_api_Addr) :: Ow.own 34 17 e_api_Addr (.slice none 0 0) ([] : List T_api_Addr) :: fr) h_17 := hS.perm2 [3, 2, 1, 0] 8 rfl rfl
        exact ⟨F_7, true, r_4, r_5, b, [], false, [], false, vr_4, vr_5, vb, .slice none 0 0, .slice none 0 0, rfl, hK, hS, hL_x, hL_y, hL_b, hL_b, hM⟩
    · replace hM := hM.2 c_3
      refine HW.seq ?_
      refine HW.region ?_
      refine HO.val (v := .bool (decide (kind = 2))) (want_none) rfl (q_eql rfl rfl) ?_
      refine HO.val (v := .bool (decide (kind = 2))) (want_none) rfl (q_assign rfl) ?_
      refine HO.nil (thenQ_normal (?_))
      refine HW.cond (decide (kind = 2)) rfl (fun c_5 => ?_) (fun c_5 => ?_)
      · replace hM := hM.1 (of_decide_eq_true c_5)
        refine HW.region ?_
        refine HO.val (v := vr_3) (want_none) rfl (q_move rfl) ?_
        refine HO.val (v := vy) (want_none) rfl (q_move rfl) ?_
        refine HO.val (v := vb) (want_none) rfl (q_move rfl) ?_
        refine HO.call (want_none) rfl (ec en_37 rfl rfl) (srcs_And_walk (fr := (Ow.box b_1 29 #[.bool false, .slice none 0 0, .slice none 0 0, .slice none 0 0, .slice none 0 0, .bool false, .slice none 0 0, .bool false] :: Ow.own 34 17 e_api_Addr vr_2 r_2 :: Ow.own 34 17 e_api_Addr vr_3 r_3 :: Ow.box b_2 29 #[.bool true, .slice none 0 0, .slice none 0 0, .slice none 0 0, .slice none 0 0, .bool false, .slice none 0 0, .bool false] :: fr)) y b vy vb hS hL_y hL_b hM) ?_
        rintro vr_7 h_18 ⟨F_9, r_7, _, rfl, hk, hS, _, _, hM⟩
        replace hK := hK.trans hk
        replace hL_x := hL_x.kp hk
        replace hL_y := hL_y.kp hk
        replace hL_b := hL_b.kp hk
        refine HO.val (v := vr_2) (want_none) rfl (q_move rfl) ?_
        refine HO.val (v := .pointer (some ⟨b_2, 0, none⟩)) (want_none) rfl (q_fieldAddr fa_29_0 rfl rfl) ?_
        refine HO.val (v := .pointer (some ⟨b_2, 1, none⟩)) (want_none) rfl (q_fieldAddr fa_24_1 rfl rfl) ?_
        refine HO.sto (want_none) rfl (st_store (c' := #[.bool true, vr_3, .slice none 0 0, .slice none 0 0, .slice none 0 0, .bool false, .slice none 0 0, .bool false]) hS (i := 4) rfl to_22 rfl rfl (shp (hS.own 3 rfl).slice).cells (shp (hS.own 3 rfl).slice).one (Nat.le_of_ble_eq_true rfl) rfl) ?_
        rintro h_19 ⟨hS, hk⟩
        replace hS : St F_9 (Ow.own 34 17 e_api_Addr vr_7 r_7 :: Ow.box b_1 29 #[.bool false, .slice none 0 0, .slice none 0 0, .slice none 0 0, .slice none 0 0, .bool false, .slice none 0 0, .bool false] :: Ow.own 34 17 e_api_Addr vr_2 r_2 :: Ow.own 34 17 e_api_Addr vr_3 r_3 :: Ow.box b_2 29 #[.bool true, vr_3, .slice none 0 0, .slice none 0 0, .slice none 0 0, .bool false, .slice none 0 0, .bool false] :: fr) h_19 := hS
        replace hK := hK.trans hk
        replace hL_x := hL_x.kp hk
        replace hL_y := hL_y.kp hk
        replace hL_b := hL_b.kp hk
        refine HO.val (v := .pointer (some ⟨b_2, 0, none⟩)) (want_none) rfl (q_fieldAddr fa_29_0 rfl rfl) ?_
        refine HO.val (v := .pointer (some ⟨b_2, 2, none⟩)) (want_none) rfl (q_fieldAddr fa_24_2 rfl rfl) ?_
        refine HO.sto (want_none) rfl (st_store (c' := #[.bool true, vr_3, vr_7, .slice none 0 0, .slice none 0 0, .bool false, .slice none 0 0, .bool false]) hS (i := 4) rfl to_22 rfl rfl (shp (hS.own 0 rfl).slice).cells (shp (hS.own 0 rfl).slice).one (Nat.le_of_ble_eq_true rfl) rfl) ?_
        rintro h_20 ⟨hS, hk⟩
        replace hS : St F_9 (Ow.own 34 17 e_api_Addr vr_7 r_7 :: Ow.box b_1 29 #[.bool false, .slice none 0 0, .slice none 0 0, .slice none 0 0, .slice none 0 0, .bool false, .slice none 0 0, .bool false] :: Ow.own 34 17 e_api_Addr vr_2 r_2 :: Ow.own 34 17 e_api_Addr vr_3 r_3 :: Ow.box b_2 29 #[.bool true, vr_3, vr_7, .slice none 0 0, .slice none 0 0, .bool false, .slice none 0 0, .bool false] :: fr) h_20 := hS
        replace hK := hK.trans hk
        replace hL_x := hL_x.kp hk
        replace hL_y := hL_y.kp hk
        replace hL_b := hL_b.kp hk
        refine HO.val (v := .pointer (some ⟨b_2, 3, none⟩)) (want_none) rfl (q_fieldAddr fa_29_1 rfl rfl) ?_
        refine HO.sto (want_none) rfl (st_store (c' := #[.bool true, vr_3, vr_7, vr_2, .slice none 0 0, .bool false, .slice none 0 0, .bool false]) hS (i := 4) rfl to_22 rfl rfl (shp (hS.own 2 rfl).slice).cells (shp (hS.own 2 rfl).slice).one (Nat.le_of_ble_eq_true rfl) rfl) ?_
        rintro h_21 ⟨hS, hk⟩
        replace hS : St F_9 (Ow.own 34 17 e_api_Addr vr_7 r_7 :: Ow.box b_1 29 #[.bool false, .slice none 0 0, .slice none 0 0, .slice none 0 0, .slice none 0 0, .bool false, .slice none 0 0, .bool false] :: Ow.own 34 17 e_api_Addr vr_2 r_2 :: Ow.own 34 17 e_api_Addr vr_3 r_3 :: Ow.box b_2 29 #[.bool true, vr_3, vr_7, vr_2, .slice none 0 0, .bool false, .slice none 0 0, .bool false] :: fr) h_21 := hS
        replace hK := hK.trans hk
        replace hL_x := hL_x.kp hk
        replace hL_y := hL_y.kp hk
        replace hL_b := hL_b.kp hk
        refine HO.val (v := .pointer (some ⟨b_2, 5, none⟩)) (want_none) rfl (q_fieldAddr fa_29_3 rfl rfl) ?_
        refine HO.sto (want_none) rfl (st_store (c' := #[.bool true, vr_3, vr_7, vr_2, .slice none 0 0, .bool true, .slice none 0 0, .bool false]) hS (i := 4) rfl to_4 rfl rfl rfl rfl (Nat.le_of_ble_eq_true rfl) rfl) ?_
        rintro h_22 ⟨hS, hk⟩
        replace hS : St F_9 (Ow.own 34 17 e_api_Addr vr_7 r_7 :: Ow.box b_1 29 #[.bool false, .slice none 0 0, .slice none 0 0, .slice none 0 0, .slice none 0 0, .bool false, .slice none 0 0, .bool false] :: Ow.own 34 17 e_api_Addr vr_2 r_2 :: Ow.own 34 17 e_api_Addr vr_3 r_3 :: Ow.box b_2 29 #[.bool true, vr_3, vr_7, vr_2, .slice none 0 0, .bool true, .slice none 0 0, .bool false] :: fr) h_22 := hS
        replace hK := hK.trans hk
        replace hL_x := hL_x.kp hk
        replace hL_y := hL_y.kp hk
        replace hL_b := hL_b.kp hk
        refine HO.nil (blockQ_normal (thenQ_normal (?_)))
        refine HW.seq ?_
        refine HW.region ?_
        refine HO.val (v := .agg #[.bool true, vr_3, vr_7, vr_2, .slice none 0 0, .bool true, .slice none 0 0, .bool false]) (want_none) rfl (q_loadAgg (cs := [.bool true, vr_3, vr_7, vr_2, .slice none 0 0, .bool true, .slice none 0 0, .bool false]) ta_29 rfl rfl (Blk.cells (k := 8) (hS.box 4 rfl) rfl)) ?_
        refine HO.sto (want_none) rfl (st_storeAgg (c' := #[.bool true, vr_3, vr_7, vr_2, .slice none 0 0, .bool true, .slice none 0 0, .bool false]) hS (i := 1) rfl ta_29 rfl rfl rfl (List.forall_mem_cons.2 ⟨rfl, (List.forall_mem_cons.2 ⟨(shp (hS.own 3 rfl).slice).one, (List.forall_mem_cons.2 ⟨(shp (hS.own 0 rfl).slice).one, (List.forall_mem_cons.2 ⟨(shp (hS.own 2 rfl).slice).one, (List.forall_mem_cons.2 ⟨rfl, (List.forall_mem_cons.2 ⟨rfl, (List.forall_mem_cons.2 ⟨rfl, (List.forall_mem_cons.2 ⟨rfl, (fun _ h => by cases h)⟩)⟩)⟩)⟩)⟩)⟩)⟩)⟩) (Nat.le_of_ble_eq_true rfl) rfl) ?_
        rintro h_23 ⟨hS, hk⟩
        replace hS : St F_9 (Ow.own 34 17 e_api_Addr vr_7 r_7 :: Ow.box b_1 29 #[.bool true, vr_3, vr_7, vr_2, .slice none 0 0, .bool true, .slice none 0 0, .bool false] :: Ow.own 34 17 e_api_Addr vr_2 r_2 :: Ow.own 34 17 e_api_Addr vr_3 r_3 :: Ow.box b_2 29 #[.bool true, vr_3, vr_7, vr_2, .slice none 0 0, .bool true, .slice none 0 0, .bool false] :: fr) h_23 := hS
        replace hK := hK.trans hk
        replace hL_x := hL_x.kp hk
        replace hL_y := hL_y.kp hk
        replace hL_b := hL_b.kp hk
        refine HO.nil (thenQ_normal (?_))
        refine HW.ret (?_)
        refine ⟨.inr rfl, .agg #[.bool true, vr_3, vr_7, vr_2, .slice none 0 0, .bool true, .slice none 0 0, .bool false], res1 rfl (rca (cs := [.bool true, vr_3, vr_7, vr_2, .slice none 0 0, .bool true, .slice none 0 0, .bool false]) ta_29 rfl rfl (Blk.cells (k := 8) (hS.box 1 rfl) rfl)), ?_⟩
        replace hS : St F_9 (Ow.own 34 17 e_api_Addr vr_2 r_2 :: Ow.own 34 17 e_api_Addr vr_7 r_7 :: Ow.box b_1 29 #[.bool true, vr_3, vr_7, vr_2, .slice none 0 0, .bool true, .slice none 0 0, .bool false] :: Ow.own 34 17 e_api_Addr vr_3 r_3 :: Ow.box b_2 29 #[.bool true, vr_3, vr_7, vr_2, .slice none 0 0, .bool true, .slice none 0 0, .bool false] :: fr) h_23 := hS.perm2 [2, 0, 1, 3, 4] 5 rfl rfl
        obtain ⟨F_10, hS, hk, hL_3⟩ := hS.freezeOwn
        replace hK := hK.trans hk
        replace hL_x := hL_x.kp hk
        replace hL_y := hL_y.kp hk
        replace hL_b := hL_b.kp hk
        replace hS := hS.nilOwn 34 17 e_api_Addr
        replace hS := hS.nilOwn 34 17 e_api_Addr
        replace hS : St F_10 (Ow.own 34 17 e_api_Addr vr_3 r_3 :: Ow.own 34 17 e_api_Addr vr_7 r_7 :: Ow.own 34 17 e_api_Addr (.slice none 0 0) ([] : List T_api_Addr) :: Ow.own 34 17 e_api_Addr (.slice none 0 0) ([] : List T_api_Addr) :: fr) h_23 := hS.perm2 [4, 2, 1, 0] 6 rfl rfl
        exact ⟨F_10, true, r_3, r_7, r_2, [], true, [], false, vr_3, vr_7, vr_2, .slice none 0 0, .slice none 0 0, rfl, hK, hS, hL_x, hL_y, hL_b, hL_3, hM⟩
      · replace hM := hM.2 (of_decide_eq_false c_5)
        refine HW.seq ?_
        refine HW.region ?_
        refine HO.val (v := .bool (decide (kind = 4))) (want_none) rfl (q_eql rfl rfl) ?_
        refine HO.val (v := .bool (decide (kind = 4))) (want_none) rfl (q_assign rfl) ?_
        refine HO.nil (thenQ_normal (?_))
        refine HW.cond (decide (kind = 4)) rfl (fun c_6 => ?_) (fun c_6 => ?_)
        · replace hM := hM.1 (of_decide_eq_true c_6)
          refine HW.region ?_
          refine HO.val (v := vr_3) (want_none) rfl (q_move rfl) ?_
          refine HO.val (v := vy) (want_none) rfl (q_move rfl) ?_
          refine HO.val (v := vb) (want_none) rfl (q_move rfl) ?_
          refine HO.call (want_none) rfl (ec en_37 rfl rfl) (srcs_And_walk (fr := (Ow.box b_1 29 #[.bool false, .slice none 0 0, .slice none 0 0, .slice none 0 0, .slice none 0 0, .bool false, .slice none 0 0, .bool false] :: Ow.own 34 17 e_api_Addr vr_2 r_2 :: Ow.own 34 17 e_api_Addr vr_3 r_3 :: Ow.box b_2 29 #[.bool true, .slice none 0 0, .slice none 0 0, .slice none 0 0, .slice none 0 0, .bool false, .slice none 0 0, .bool false] :: fr)) y b vy vb hS hL_y hL_b hM) ?_
          rintro vr_8 h_24 ⟨F_11, r_8, _, rfl, hk, hS, _, _, hM⟩
          replace hK := hK.trans hk
          replace hL_x := hL_x.kp hk
          replace hL_y := hL_y.kp hk
          replace hL_b := hL_b.kp hk
          refine HO.val (v := vr_2) (want_none) rfl (q_move rfl) ?_
          refine HO.val (v := vr_3) (want_none) rfl (q_move rfl) ?_
          replace hS : St F_11 (Ow.own 34 17 e_api_Addr vr_3 r_3 :: Ow.own 34 17 e_api_Addr vr_8 r_8 :: Ow.box b_1 29 #[.bool false, .slice none 0 0, .slice none 0 0, .slice none 0 0, .slice none 0 0, .bool false, .slice none 0 0, .bool false] :: Ow.own 34 17 e_api_Addr vr_2 r_2 :: Ow.box b_2 29 #[.bool true, .slice none 0 0, .slice none 0 0, .slice none 0 0, .slice none 0 0, .bool false, .slice none 0 0, .bool false] :: fr) h_24 := hS.perm2 [3, 0, 1, 2, 4] 5 rfl rfl
          have hZ_2 := hS
          have hkz_2 := (hS.freeze).2
          replace hS := hS.freeze.1
          have hL_4 : SliceF (fun b => F_11 b ∨ (Ow.own 34 17 e_api_Addr vr_3 r_3).foot b) h_24 17 e_api_Addr vr_3 r_3 := ⟨(hZ_2.own 0 rfl).slice, fun _ b hb => .inr hb⟩
          refine HO.call (want_none) rfl (ec en_41 rfl rfl) (slices_Clone_s_api_Addr_api_Addr_walk (fr := (Ow.own 34 17 e_api_Addr vr_8 r_8 :: Ow.box b_1 29 #[.bool false, .slice none 0 0, .slice none 0 0, .slice none 0 0, .slice none 0 0, .bool false, .slice none 0 0, .bool false] :: Ow.own 34 17 e_api_Addr vr_2 r_2 :: Ow.box b_2 29 #[.bool true, .slice none 0 0, .slice none 0 0, .slice none 0 0, .slice none 0 0, .bool false, .slice none 0 0, .bool false] :: fr)) r_3 vr_3 hS hL_4 hM) ?_
          rintro vr_9 h_25 ⟨F_12, r_9, _, rfl, hk, hS, _, hM⟩
          obtain ⟨hS, hk⟩ := hZ_2.back hk hS
          generalize (fun b => F_12 b ∧ ¬ (Ow.own 34 17 e_api_Addr vr_3 r_3).foot b) = F_13 at hS hk
          replace hK := hK.trans hk
          replace hL_x := hL_x.kp hk
          replace hL_y := hL_y.kp hk
          replace hL_b := hL_b.kp hk
          refine HO.val (v := .pointer (some ⟨b_2, 0, none⟩)) (want_none) rfl (q_fieldAddr fa_29_0 rfl rfl) ?_
          refine HO.val (v := .pointer (some ⟨b_2, 1, none⟩)) (want_none) rfl (q_fieldAddr fa_24_1 rfl rfl) ?_
          refine HO.sto (want_none) rfl (st_store (c' := #[.bool true, vr_3, .slice none 0 0, .slice none 0 0, .slice none 0 0, .bool false, .slice none 0 0, .bool false]) hS (i := 5) rfl to_22 rfl rfl (shp (hS.own 0 rfl).slice).cells (shp (hS.own 0 rfl).slice).one (Nat.le_of_ble_eq_true rfl) rfl) ?_
          rintro h_26 ⟨hS, hk⟩
          replace hS : St F_13 (Ow.own 34 17 e_api_Addr vr_3 r_3 :: Ow.own 34 17 e_api_Addr vr_9 r_9 :: Ow.own 34 17 e_api_Addr vr_8 r_8 :: Ow.box b_1 29 #[.bool false, .slice none 0 0, .slice none 0 0, .slice none 0 0, .slice none 0 0, .bool false, .slice none 0 0, .bool false] :: Ow.own 34 17 e_api_Addr vr_2 r_2 :: Ow.box b_2 29 #[.bool true, vr_3, .slice none 0 0, .slice none 0 0, .slice none 0 0, .bool false, .slice none 0 0, .bool false] :: fr) h_26 := hS
          replace hK := hK.trans hk
          replace hL_x := hL_x.kp hk
          replace hL_y := hL_y.kp hk
          replace hL_b := hL_b.kp hk
          refine HO.val (v := .pointer (some ⟨b_2, 0, none⟩)) (want_none) rfl (q_fieldAddr fa_29_0 rfl rfl) ?_
          refine HO.val (v := .pointer (some ⟨b_2, 2, none⟩)) (want_none) rfl (q_fieldAddr fa_24_2 rfl rfl) ?_
          refine HO.sto (want_none) rfl (st_store (c' := #[.bool true, vr_3, vr_8, .slice none 0 0, .slice none 0 0, .bool false, .slice none 0 0, .bool false]) hS (i := 5) rfl to_22 rfl rfl (shp (hS.own 2 rfl).slice).cells (shp (hS.own 2 rfl).slice).one (Nat.le_of_ble_eq_true rfl) rfl) ?_
          rintro h_27 ⟨hS, hk⟩
          replace hS : St F_13 (Ow.own 34 17 e_api_Addr vr_3 r_3 :: Ow.own 34 17 e_api_Addr vr_9 r_9 :: Ow.own 34 17 e_api_Addr vr_8 r_8 :: Ow.box b_1 29 #[.bool false, .slice none 0 0, .slice none 0 0, .slice none 0 0, .slice none 0 0, .bool false, .slice none 0 0, .bool false] :: Ow.own 34 17 e_api_Addr vr_2 r_2 :: Ow.box b_2 29 #[.bool true, vr_3, vr_8, .slice none 0 0, .slice none 0 0, .bool false, .slice none 0 0, .bool false] :: fr) h_27 := hS
          replace hK := hK.trans hk
          replace hL_x := hL_x.kp hk
          replace hL_y := hL_y.kp hk
          replace hL_b := hL_b.kp hk
          refine HO.val (v := .pointer (some ⟨b_2, 4, none⟩)) (want_none) rfl (q_fieldAddr fa_29_2 rfl rfl) ?_
          refine HO.sto (want_none) rfl (st_store (c' := #[.bool true, vr_3, vr_8, .slice none 0 0, vr_2, .bool false, .slice none 0 0, .bool false]) hS (i := 5) rfl to_22 rfl rfl (shp (hS.own 4 rfl).slice).cells (shp (hS.own 4 rfl).slice).one (Nat.le_of_ble_eq_true rfl) rfl) ?_
          rintro h_28 ⟨hS, hk⟩
          replace hS : St F_13 (Ow.own 34 17 e_api_Addr vr_3 r_3 :: Ow.own 34 17 e_api_Addr vr_9 r_9 :: Ow.own 34 17 e_api_Addr vr_8 r_8 :: Ow.box b_1 29 #[.bool false, .slice none 0 0, .slice none 0 0, .slice none 0 0, .slice none 0 0, .bool false, .slice none 0 0, .bool false] :: Ow.own 34 17 e_api_Addr vr_2 r_2 :: Ow.box b_2 29 #[.bool true, vr_3, vr_8, .slice none 0 0, vr_2, .bool false, .slice none 0 0, .bool false] :: fr) h_28 := hS
          replace hK := hK.trans hk
          replace hL_x := hL_x.kp hk
          replace hL_y := hL_y.kp hk
          replace hL_b := hL_b.kp hk
          refine HO.val (v := .pointer (some ⟨b_2, 5, none⟩)) (want_none) rfl (q_fieldAddr fa_29_3 rfl rfl) ?_
          refine HO.sto (want_none) rfl (st_store (c' := #[.bool true, vr_3, vr_8, .slice none 0 0, vr_2, .bool true, .slice none 0 0, .bool false]) hS (i := 5) rfl to_4 rfl rfl rfl rfl (Nat.le_of_ble_eq_true rfl) rfl) ?_
          rintro h_29 ⟨hS, hk⟩
          replace hS : St F_13 (Ow.own 34 17 e_api_Addr vr_3 r_3 :: Ow.own 34 17 e_api_Addr vr_9 r_9 :: Ow.own 34 17 e_api_Addr vr_8 r_8 :: Ow.box b_1 29 #[.bool false, .slice none 0 0, .slice none 0 0, .slice none 0 0, .slice none 0 0, .bool false, .slice none 0 0, .bool false] :: Ow.own 34 17 e_api_Addr vr_2 r_2 :: Ow.box b_2 29 #[.bool true, vr_3, vr_8, .slice none 0 0, vr_2, .bool true, .slice none 0 0, .bool false] :: fr) h_29 := hS
          replace hK := hK.trans hk
          replace hL_x := hL_x.kp hk
          replace hL_y := hL_y.kp hk
          replace hL_b := hL_b.kp hk
          refine HO.val (v := .pointer (some ⟨b_2, 6, none⟩)) (want_none) rfl (q_fieldAddr fa_29_4 rfl rfl) ?_
          refine HO.sto (want_none) rfl (st_store (c' := #[.bool true, vr_3, vr_8, .slice none 0 0, vr_2, .bool true, vr_9, .bool false]) hS (i := 5) rfl to_22 rfl rfl (shp (hS.own 1 rfl).slice).cells (shp (hS.own 1 rfl).slice).one (Nat.le_of_ble_eq_true rfl) rfl) ?_
          rintro h_30 ⟨hS, hk⟩
          replace hS : St F_13 (Ow.own 34 17 e_api_Addr vr_3 r_3 :: Ow.own 34 17 e_api_Addr vr_9 r_9 :: Ow.own 34 17 e_api_Addr vr_8 r_8 :: Ow.box b_1 29 #[.bool false, .slice none 0 0, .slice none 0 0, .slice none 0 0, .slice none 0 0, .bool false, .slice none 0 0, .bool false] :: Ow.own 34 17 e_api_Addr vr_2 r_2 :: Ow.box b_2 29 #[.bool true, vr_3, vr_8, .slice none 0 0, vr_2, .bool true, vr_9, .bool false] :: fr) h_30 := hS
          replace hK := hK.trans hk
          replace hL_x := hL_x.kp hk
          replace hL_y := hL_y.kp hk
          replace hL_b := hL_b.kp hk
          refine HO.nil (blockQ_normal (thenQ_normal (?_)))
          refine HW.seq ?_
          refine HW.region ?_
          refine HO.val (v := .agg #[.bool true, vr_3, vr_8, .slice none 0 0, vr_2, .bool true, vr_9, .bool false]) (want_none) rfl (q_loadAgg (cs := [.bool true, vr_3, vr_8, .slice none 0 0, vr_2, .bool true, vr_9, .bool false]) ta_29 rfl rfl (Blk.cells (k := 8) (hS.box 5 rfl) rfl)) ?_
          refine HO.sto (want_none) rfl (st_storeAgg (c' := #[.bool true, vr_3, vr_8, .slice none 0 0, vr_2, .bool true, vr_9, .bool false]) hS (i := 3) rfl ta_29 rfl rfl rfl (List.forall_mem_cons.2 ⟨rfl, (List.forall_mem_cons.2 ⟨(shp (hS.own 0 rfl).slice).one, (List.forall_mem_cons.2 ⟨(shp (hS.own 2 rfl).slice).one, (List.forall_mem_cons.2 ⟨rfl, (List.forall_mem_cons.2 ⟨(shp (hS.own 4 rfl).slice).one, (List.forall_mem_cons.2 ⟨rfl, (List.forall_mem_cons.2 ⟨(shp (hS.own 1 rfl).slice).one, (List.forall_mem_cons.2 ⟨rfl, (fun _ h => by cases h)⟩)⟩)⟩)⟩)⟩)⟩)⟩)⟩) (Nat.le_of_ble_eq_true rfl) rfl) ?_
          rintro h_31 ⟨hS, hk⟩
          replace hS : St F_13 (Ow.own 34 17 e_api_Addr vr_3 r_3 :: Ow.own 34 17 e_api_Addr vr_9 r_9 :: Ow.own 34 17 e_api_Addr vr_8 r_8 :: Ow.box b_1 29 #[.bool true, vr_3, vr_8, .slice none 0 0, vr_2, .bool true, vr_9, .bool false] :: Ow.own 34 17 e_api_Addr vr_2 r_2 :: Ow.box b_2 29 #[.bool true, vr_3, vr_8, .slice none 0 0, vr_2, .bool true, vr_9, .bool false] :: fr) h_31 := hS
          replace hK := hK.trans hk
          replace hL_x := hL_x.kp hk
          replace hL_y := hL_y.kp hk
          replace hL_b := hL_b.kp hk
          refine HO.nil (thenQ_normal (?_))
          refine HW.ret (?_)
          refine ⟨.inr rfl, .agg #[.bool true, vr_3, vr_8, .slice none 0 0, vr_2, .bool true, vr_9, .bool false], res1 rfl (rca (cs := [.bool true, vr_3, vr_8, .slice none 0 0, vr_2, .bool true, vr_9, .bool false]) ta_29 rfl rfl (Blk.cells (k := 8) (hS.box 3 rfl) rfl)), ?_⟩
          replace hS : St F_13 (Ow.own 34 17 e_api_Addr vr_3 r_3 :: Ow.own 34 17 e_api_Addr vr_8 r_8 :: Ow.own 34 17 e_api_Addr vr_2 r_2 :: Ow.own 34 17 e_api_Addr vr_9 r_9 :: fr) h_31 := hS.perm2 [0, 2, 4, 1] 6 rfl rfl
          exact ⟨F_13, true, r_3, r_8, [], r_2, true, r_9, false, vr_3, vr_8, .slice none 0 0, vr_2, vr_9, rfl, hK, hS, hL_x, hL_y, hL_b, (SliceF.nil _ _ _ _), hM⟩
        · replace hM := hM.2 (of_decide_eq_false c_6)
          refine HW.seq ?_
          refine HW.region ?_
          refine HO.val (v := .bool (decide (kind = 6))) (want_none) rfl (q_eql rfl rfl) ?_
          refine HO.val (v := .bool (decide (kind = 6))) (want_none) rfl (q_assign rfl) ?_
          refine HO.nil (thenQ_normal (?_))
          refine HW.cond (decide (kind = 6)) rfl (fun c_7 => ?_) (fun c_7 => ?_)
          · replace hM := hM.1 (of_decide_eq_true c_7)
            refine HW.region ?_
            refine HO.val (v := vx) (want_none) rfl (q_move rfl) ?_
            refine HO.val (v := vr_3) (want_none) rfl (q_move rfl) ?_
            replace hS : St F_5 (Ow.own 34 17 e_api_Addr vr_3 r_3 :: Ow.box b_1 29 #[.bool false, .slice none 0 0, .slice none 0 0, .slice none 0 0, .slice none 0 0, .bool false, .slice none 0 0, .bool false] :: Ow.own 34 17 e_api_Addr vr_2 r_2 :: Ow.box b_2 29 #[.bool true, .slice none 0 0, .slice none 0 0, .slice none 0 0, .slice none 0 0, .bool false, .slice none 0 0, .bool false] :: fr) h_7 := hS.perm2 [2, 0, 1, 3] 4 rfl rfl
            have hZ_3 := hS
            have hkz_3 := (hS.freeze).2
            replace hS := hS.freeze.1
            have hL_5 : SliceF (fun b => F_5 b ∨ (Ow.own 34 17 e_api_Addr vr_3 r_3).foot b) h_7 17 e_api_Addr vr_3 r_3 := ⟨(hZ_3.own 0 rfl).slice, fun _ b hb => .inr hb⟩
            refine HO.call (want_none) rfl (ec en_40 rfl rfl) (srcs_Or_walk (fr := (Ow.box b_1 29 #[.bool false, .slice none 0 0, .slice none 0 0, .slice none 0 0, .slice none 0 0, .bool false, .slice none 0 0, .bool false] :: Ow.own 34 17 e_api_Addr vr_2 r_2 :: Ow.box b_2 29 #[.bool true, .slice none 0 0, .slice none 0 0, .slice none 0 0, .slice none 0 0, .bool false, .slice none 0 0, .bool false] :: fr)) x r_3 vx vr_3 hS (hL_x.kp hkz_3) hL_5 hM) ?_
            rintro vr_10 h_32 ⟨F_14, r_10, _, rfl, hk, hS, _, _, hM⟩
            obtain ⟨hS, hk⟩ := hZ_3.back hk hS
            generalize (fun b => F_14 b ∧ ¬ (Ow.own 34 17 e_api_Addr vr_3 r_3).foot b) = F_15 at hS hk
            replace hK := hK.trans hk
            replace hL_x := hL_x.kp hk
            replace hL_y := hL_y.kp hk
            replace hL_b := hL_b.kp hk
            refine HO.val (v := vy) (want_none) rfl (q_move rfl) ?_
            refine HO.call (want_none) rfl (ec en_41 rfl rfl) (slices_Clone_s_api_Addr_api_Addr_walk (fr := (Ow.own 34 17 e_api_Addr vr_3 r_3 :: Ow.own 34 17 e_api_Addr vr_10 r_10 :: Ow.box b_1 29 #[.bool false, .slice none 0 0, .slice none 0 0, .slice none 0 0, .slice none 0 0, .bool false, .slice none 0 0, .bool false] :: Ow.own 34 17 e_api_Addr vr_2 r_2 :: Ow.box b_2 29 #[.bool true, .slice none 0 0, .slice none 0 0, .slice none 0 0, .slice none 0 0, .bool false, .slice none 0 0, .bool false] :: fr)) y vy hS hL_y hM) ?_
            rintro vr_11 h_33 ⟨F_16, r_11, _, rfl, hk, hS, _, hM⟩
            replace hK := hK.trans hk
            replace hL_x := hL_x.kp hk
            replace hL_y := hL_y.kp hk
            replace hL_b := hL_b.kp hk
            refine HO.val (v := vr_2) (want_none) rfl (q_move rfl) ?_
            refine HO.val (v := vr_3) (want_none) rfl (q_move rfl) ?_
            refine HO.val (v := .pointer (some ⟨b_2, 0, none⟩)) (want_none) rfl (q_fieldAddr fa_29_0 rfl rfl) ?_
            refine HO.val (v := .pointer (some ⟨b_2, 1, none⟩)) (want_none) rfl (q_fieldAddr fa_24_1 rfl rfl) ?_
            refine HO.sto (want_none) rfl (st_store (c' := #[.bool true, vr_10, .slice none 0 0, .slice none 0 0, .slice none 0 0, .bool false, .slice none 0 0, .bool false]) hS (i := 5) rfl to_22 rfl rfl (shp (hS.own 2 rfl).slice).cells (shp (hS.own 2 rfl).slice).one (Nat.le_of_ble_eq_true rfl) rfl) ?_
            rintro h_34 ⟨hS, hk⟩
            replace hS : St F_16 (Ow.own 34 17 e_api_Addr vr_11 r_11 :: Ow.own 34 17 e_api_Addr vr_3 r_3 :: Ow.own 34 17 e_api_Addr vr_10 r_10 :: Ow.box b_1 29 #[.bool false, .slice none 0 0, .slice none 0 0, .slice none 0 0, .slice none 0 0, .bool false, .slice none 0 0, .bool false] :: Ow.own 34 17 e_api_Addr vr_2 r_2 :: Ow.box b_2 29 #[.bool true, vr_10, .slice none 0 0, .slice none 0 0, .slice none 0 0, .bool false, .slice none 0 0, .bool false] :: fr) h_34 := hS
            replace hK := hK.trans hk
            replace hL_x := hL_x.kp hk
            replace hL_y := hL_y.kp hk
            replace hL_b := hL_b.kp hk
            refine HO.val (v := .pointer (some ⟨b_2, 0, none⟩)) (want_none) rfl (q_fieldAddr fa_29_0 rfl rfl) ?_
            refine HO.val (v := .pointer (some ⟨b_2, 2, none⟩)) (want_none) rfl (q_fieldAddr fa_24_2 rfl rfl) ?_
            refine HO.sto (want_none) rfl (st_store (c' := #[.bool true, vr_10, vr_11, .slice none 0 0, .slice none 0 0, .bool false, .slice none 0 0, .bool false]) hS (i := 5) rfl to_22 rfl rfl (shp (hS.own 0 rfl).slice).cells (shp (hS.own 0 rfl).slice).one (Nat.le_of_ble_eq_true rfl) rfl) ?_
            rintro h_35 ⟨hS, hk⟩
            replace hS : St F_16 (Ow.own 34 17 e_api_Addr vr_11 r_11 :: Ow.own 34 17 e_api_Addr vr_3 r_3 :: Ow.own 34 17 e_api_Addr vr_10 r_10 :: Ow.box b_1 29 #[.bool false, .slice none 0 0, .slice none 0 0, .slice none 0 0, .slice none 0 0, .bool false, .slice none 0 0, .bool false] :: Ow.own 34 17 e_api_Addr vr_2 r_2 :: Ow.box b_2 29 #[.bool true, vr_10, vr_11, .slice none 0 0, .slice none 0 0, .bool false, .slice none 0 0, .bool false] :: fr) h_35 := hS
            replace hK := hK.trans hk
            replace hL_x := hL_x.kp hk
            replace hL_y := hL_y.kp hk
            replace hL_b := hL_b.kp hk
            refine HO.val (v := .pointer (some ⟨b_2, 4, none⟩)) (want_none) rfl (q_fieldAddr fa_29_2 rfl rfl) ?_
            refine HO.sto (want_none) rfl (st_store (c' := #[.bool true, vr_10, vr_11, .slice none 0 0, vr_2, .bool false, .slice none 0 0, .bool false]) hS (i := 5) rfl to_22 rfl rfl (shp (hS.own 4 rfl).slice).cells (shp (hS.own 4 rfl).slice).one (Nat.le_of_ble_eq_true rfl) rfl) ?_
            rintro h_36 ⟨hS, hk⟩
            replace hS : St F_16 (Ow.own 34 17 e_api_Addr vr_11 r_11 :: Ow.own 34 17 e_api_Addr vr_3 r_3 :: Ow.own 34 17 e_api_Addr vr_10 r_10 :: Ow.box b_1 29 #[.bool false, .slice none 0 0, .slice none 0 0, .slice none 0 0, .slice none 0 0, .bool false, .slice none 0 0, .bool false] :: Ow.own 34 17 e_api_Addr vr_2 r_2 :: Ow.box b_2 29 #[.bool true, vr_10, vr_11, .slice none 0 0, vr_2, .bool false, .slice none 0 0, .bool false] :: fr) h_36 := hS
            replace hK := hK.trans hk
            replace hL_x := hL_x.kp hk
            replace hL_y := hL_y.kp hk
            replace hL_b := hL_b.kp hk
            refine HO.val (v := .pointer (some ⟨b_2, 6, none⟩)) (want_none) rfl (q_fieldAddr fa_29_4 rfl rfl) ?_
            refine HO.sto (want_none) rfl (st_store (c' := #[.bool true, vr_10, vr_11, .slice none 0 0, vr_2, .bool false, vr_3, .bool false]) hS (i := 5) rfl to_22 rfl rfl (shp (hS.own 1 rfl).slice).cells (shp (hS.own 1 rfl).slice).one (Nat.le_of_ble_eq_true rfl) rfl) ?_
            rintro h_37 ⟨hS, hk⟩
            replace hS : St F_16 (Ow.own 34 17 e_api_Addr vr_11 r_11 :: Ow.own 34 17 e_api_Addr vr_3 r_3 :: Ow.own 34 17 e_api_Addr vr_10 r_10 :: Ow.box b_1 29 #[.bool false, .slice none 0 0, .slice none 0 0, .slice none 0 0, .slice none 0 0, .bool false, .slice none 0 0, .bool false] :: Ow.own 34 17 e_api_Addr vr_2 r_2 :: Ow.box b_2 29 #[.bool true, vr_10, vr_11, .slice none 0 0, vr_2, .bool false, vr_3, .bool false] :: fr) h_37 := hS
            replace hK := hK.trans hk
            replace hL_x := hL_x.kp hk
            replace hL_y := hL_y.kp hk
            replace hL_b := hL_b.kp hk
            refine HO.nil (blockQ_normal (thenQ_normal (?_)))
            refine HW.seq ?_
            refine HW.region ?_
            refine HO.val (v := .agg #[.bool true, vr_10, vr_11, .slice none 0 0, vr_2, .bool false, vr_3, .bool false]) (want_none) rfl (q_loadAgg (cs := [.bool true, vr_10, vr_11, .slice none 0 0, vr_2, .bool false, vr_3, .bool false]) ta_29 rfl rfl (Blk.cells (k := 8) (hS.box 5 rfl) rfl)) ?_
            refine HO.sto (want_none) rfl (st_storeAgg (c' := #[.bool true, vr_10, vr_11, .slice none 0 0, vr_2, .bool false, vr_3, .bool false]) hS (i := 3) rfl ta_29 rfl rfl rfl (List.forall_mem_cons.2 ⟨rfl, (List.forall_mem_cons.2 ⟨(shp (hS.own 2 rfl).slice).one, (List.forall_mem_cons.2 ⟨(shp (hS.own 0 rfl).slice).one, (List.forall_mem_cons.2 ⟨rfl, (List.forall_mem_cons.2 ⟨(shp (hS.own 4 rfl).slice).one, (List.forall_mem_cons.2 ⟨rfl, (List.forall_mem_cons.2 ⟨(shp (hS.own 1 rfl).slice).one, (List.forall_mem_cons.2 ⟨rfl, (fun _ h => by cases h)⟩)⟩)⟩)⟩)⟩)⟩)⟩)⟩) (Nat.le_of_ble_eq_true rfl) rfl) ?_
            rintro h_38 ⟨hS, hk⟩
            replace hS : St F_16 (Ow.own 34 17 e_api_Addr vr_11 r_11 :: Ow.own 34 17 e_api_Addr vr_3 r_3 :: Ow.own 34 17 e_api_Addr vr_10 r_10 :: Ow.box b_1 29 #[.bool true, vr_10, vr_11, .slice none 0 0, vr_2, .bool false, vr_3, .bool false] :: Ow.own 34 17 e_api_Addr vr_2 r_2 :: Ow.box b_2 29 #[.bool true, vr_10, vr_11, .slice none 0 0, vr_2, .bool false, vr_3, .bool false] :: fr) h_38 := hS
            replace hK := hK.trans hk
            replace hL_x := hL_x.kp hk
            replace hL_y := hL_y.kp hk
            replace hL_b := hL_b.kp hk
            refine HO.nil (thenQ_normal (?_))
            refine HW.ret (?_)
            refine ⟨.inr rfl, .agg #[.bool true, vr_10, vr_11, .slice none 0 0, vr_2, .bool false, vr_3, .bool false], res1 rfl (rca (cs := [.bool true, vr_10, vr_11, .slice none 0 0, vr_2, .bool false, vr_3, .bool false]) ta_29 rfl rfl (Blk.cells (k := 8) (hS.box 3 rfl) rfl)), ?_⟩
            replace hS : St F_16 (Ow.own 34 17 e_api_Addr vr_10 r_10 :: Ow.own 34 17 e_api_Addr vr_11 r_11 :: Ow.own 34 17 e_api_Addr vr_2 r_2 :: Ow.own 34 17 e_api_Addr vr_3 r_3 :: fr) h_38 := hS.perm2 [2, 0, 4, 1] 6 rfl rfl
            exact ⟨F_16, true, r_10, r_11, [], r_2, false, r_3, false, vr_10, vr_11, .slice none 0 0, vr_2, vr_3, rfl, hK, hS, hL_x, hL_y, hL_b, (SliceF.nil _ _ _ _), hM⟩
          · replace hM := hM.2 (of_decide_eq_false c_7)
            refine HW.region ?_
            refine HO.val (v := vx) (want_none) rfl (q_move rfl) ?_
            refine HO.call (want_none) rfl (ec en_41 rfl rfl) (slices_Clone_s_api_Addr_api_Addr_walk (fr := (Ow.box b_1 29 #[.bool false, .slice none 0 0, .slice none 0 0, .slice none 0 0, .slice none 0 0, .bool false, .slice none 0 0, .bool false] :: Ow.own 34 17 e_api_Addr vr_2 r_2 :: Ow.own 34 17 e_api_Addr vr_3 r_3 :: Ow.box b_2 29 #[.bool true, .slice none 0 0, .slice none 0 0, .slice none 0 0, .slice none 0 0, .bool false, .slice none 0 0, .bool false] :: fr)) x vx hS hL_x hM) ?_
            rintro vr_12 h_39 ⟨F_17, r_12, _, rfl, hk, hS, _, hM⟩
            replace hK := hK.trans hk
            replace hL_x := hL_x.kp hk
            replace hL_y := hL_y.kp hk
            replace hL_b := hL_b.kp hk
            refine HO.val (v := vy) (want_none) rfl (q_move rfl) ?_
            refine HO.call (want_none) rfl (ec en_41 rfl rfl) (slices_Clone_s_api_Addr_api_Addr_walk (fr := (Ow.own 34 17 e_api_Addr vr_12 r_12 :: Ow.box b_1 29 #[.bool false, .slice none 0 0, .slice none 0 0, .slice none 0 0, .slice none 0 0, .bool false, .slice none 0 0, .bool false] :: Ow.own 34 17 e_api_Addr vr_2 r_2 :: Ow.own 34 17 e_api_Addr vr_3 r_3 :: Ow.box b_2 29 #[.bool true, .slice none 0 0, .slice none 0 0, .slice none 0 0, .slice none 0 0, .bool false, .slice none 0 0, .bool false] :: fr)) y vy hS hL_y hM) ?_
            rintro vr_13 h_40 ⟨F_18, r_13, _, rfl, hk, hS, _, hM⟩
            replace hK := hK.trans hk
            replace hL_x := hL_x.kp hk
            replace hL_y := hL_y.kp hk
            replace hL_b := hL_b.kp hk
            refine HO.val (v := .pointer (some ⟨b_2, 0, none⟩)) (want_none) rfl (q_fieldAddr fa_29_0 rfl rfl) ?_
            refine HO.val (v := .pointer (some ⟨b_2, 1, none⟩)) (want_none) rfl (q_fieldAddr fa_24_1 rfl rfl) ?_
            refine HO.sto (want_none) rfl (st_store (c' := #[.bool true, vr_12, .slice none 0 0, .slice none 0 0, .slice none 0 0, .bool false, .slice none 0 0, .bool false]) hS (i := 5) rfl to_22 rfl rfl (shp (hS.own 1 rfl).slice).cells (shp (hS.own 1 rfl).slice).one (Nat.le_of_ble_eq_true rfl) rfl) ?_
            rintro h_41 ⟨hS, hk⟩
            replace hS : St F_18 (Ow.own 34 17 e_api_Addr vr_13 r_13 :: Ow.own 34 17 e_api_Addr vr_12 r_12 :: Ow.box b_1 29 #[.bool false, .slice none 0 0, .slice none 0 0, .slice none 0 0, .slice none 0 0, .bool false, .slice none 0 0, .bool false] :: Ow.own 34 17 e_api_Addr vr_2 r_2 :: Ow.own 34 17 e_api_Addr vr_3 r_3 :: Ow.box b_2 29 #[.bool true, vr_12, .slice none 0 0, .slice none 0 0, .slice none 0 0, .bool false, .slice none 0 0, .bool false] :: fr) h_41 := hS
            replace hK := hK.trans hk
            replace hL_x := hL_x.kp hk
            replace hL_y := hL_y.kp hk
            replace hL_b := hL_b.kp hk
            refine HO.val (v := .pointer (some ⟨b_2, 0, none⟩)) (want_none) rfl (q_fieldAddr fa_29_0 rfl rfl) ?_
            refine HO.val (v := .pointer (some ⟨b_2, 2, none⟩)) (want_none) rfl (q_fieldAddr fa_24_2 rfl rfl) ?_
            refine HO.sto (want_none) rfl (st_store (c' := #[.bool true, vr_12, vr_13, .slice none 0 0, .slice none 0 0, .bool false, .slice none 0 0, .bool false]) hS (i := 5) rfl to_22 rfl rfl (shp (hS.own 0 rfl).slice).cells (shp (hS.own 0 rfl).slice).one (Nat.le_of_ble_eq_true rfl) rfl) ?_
            rintro h_42 ⟨hS, hk⟩
            replace hS : St F_18 (Ow.own 34 17 e_api_Addr vr_13 r_13 :: Ow.own 34 17 e_api_Addr vr_12 r_12 :: Ow.box b_1 29 #[.bool false, .slice none 0 0, .slice none 0 0, .slice none 0 0, .slice none 0 0, .bool false, .slice none 0 0, .bool false] :: Ow.own 34 17 e_api_Addr vr_2 r_2 :: Ow.own 34 17 e_api_Addr vr_3 r_3 :: Ow.box b_2 29 #[.bool true, vr_12, vr_13, .slice none 0 0, .slice none 0 0, .bool false, .slice none 0 0, .bool false] :: fr) h_42 := hS
            replace hK := hK.trans hk
            replace hL_x := hL_x.kp hk
            replace hL_y := hL_y.kp hk
            replace hL_b := hL_b.kp hk
            refine HO.nil (blockQ_normal (thenQ_normal (?_)))
            refine HW.seq ?_
            refine HW.region ?_
            refine HO.val (v := .agg #[.bool true, vr_12, vr_13, .slice none 0 0, .slice none 0 0, .bool false, .slice none 0 0, .bool false]) (want_none) rfl (q_loadAgg (cs := [.bool true, vr_12, vr_13, .slice none 0 0, .slice none 0 0, .bool false, .slice none 0 0, .bool false]) ta_29 rfl rfl (Blk.cells (k := 8) (hS.box 5 rfl) rfl)) ?_
            refine HO.sto (want_none) rfl (st_storeAgg (c' := #[.bool true, vr_12, vr_13, .slice none 0 0, .slice none 0 0, .bool false, .slice none 0 0, .bool false]) hS (i := 2) rfl ta_29 rfl rfl rfl (List.forall_mem_cons.2 ⟨rfl, (List.forall_mem_cons.2 ⟨(shp (hS.own 1 rfl).slice).one, (List.forall_mem_cons.2 ⟨(shp (hS.own 0 rfl).slice).one, (List.forall_mem_cons.2 ⟨rfl, (List.forall_mem_cons.2 ⟨rfl, (List.forall_mem_cons.2 ⟨rfl, (List.forall_mem_cons.2 ⟨rfl, (List.forall_mem_cons.2 ⟨rfl, (fun _ h => by cases h)⟩)⟩)⟩)⟩)⟩)⟩)⟩)⟩) (Nat.le_of_ble_eq_true rfl) rfl) ?_
            rintro h_43 ⟨hS, hk⟩
            replace hS : St F_18 (Ow.own 34 17 e_api_Addr vr_13 r_13 :: Ow.own 34 17 e_api_Addr vr_12 r_12 :: Ow.box b_1 29 #[.bool true, vr_12, vr_13, .slice none 0 0, .slice none 0 0, .bool false, .slice none 0 0, .bool false] :: Ow.own 34 17 e_api_Addr vr_2 r_2 :: Ow.own 34 17 e_api_Addr vr_3 r_3 :: Ow.box b_2 29 #[.bool true, vr_12, vr_13, .slice none 0 0, .slice none 0 0, .bool false, .slice none 0 0, .bool false] :: fr) h_43 := hS
            replace hK := hK.trans hk
            replace hL_x := hL_x.kp hk
            replace hL_y := hL_y.kp hk
            replace hL_b := hL_b.kp hk
            refine HO.nil (thenQ_normal (?_))
            refine HW.ret (?_)
            refine ⟨.inr rfl, .agg #[.bool true, vr_12, vr_13, .slice none 0 0, .slice none 0 0, .bool false, .slice none 0 0, .bool false], res1 rfl (rca (cs := [.bool true, vr_12, vr_13, .slice none 0 0, .slice none 0 0, .bool false, .slice none 0 0, .bool false]) ta_29 rfl rfl (Blk.cells (k := 8) (hS.box 2 rfl) rfl)), ?_⟩
            replace hS := hS.nilOwn 34 17 e_api_Addr
            replace hS := hS.nilOwn 34 17 e_api_Addr
            replace hS : St F_18 (Ow.own 34 17 e_api_Addr vr_12 r_12 :: Ow.own 34 17 e_api_Addr vr_13 r_13 :: Ow.own 34 17 e_api_Addr (.slice none 0 0) ([] : List T_api_Addr) :: Ow.own 34 17 e_api_Addr (.slice none 0 0) ([] : List T_api_Addr) :: fr) h_43 := hS.perm2 [3, 2, 1, 0] 8 rfl rfl
            exact ⟨F_18, true, r_12, r_13, [], [], false, [], false, vr_12, vr_13, .slice none 0 0, .slice none 0 0, .slice none 0 0, rfl, hK, hS, hL_x, hL_y, hL_b, (SliceF.nil _ _ _ _), hM⟩

def filter_include_j2 (b : List T_api_Addr) (Q : Bool → (List T_api_Addr) → (List T_api_Addr) → (List T_api_Addr) → (List T_api_Addr) → Bool → (List T_api_Addr) → Bool → Prop) (r_1 : List T_api_Addr) (out_6_1 : List T_api_Addr) : Prop :=
  Q false r_1 [] b [] false out_6_1 false
def filter_include_j4 (Q : Bool → (List T_api_Addr) → (List T_api_Addr) → (List T_api_Addr) → (List T_api_Addr) → Bool → (List T_api_Addr) → Bool → Prop) (r_3 : List T_api_Addr) (r_4 : List T_api_Addr) (out_6_2 : List T_api_Addr) : Prop :=
  Q true r_3 r_4 [] [] true out_6_2 false
def filter_include_j3 (a : List T_api_Addr) (kind : Int) (b : List T_api_Addr) (Q : Bool → (List T_api_Addr) → (List T_api_Addr) → (List T_api_Addr) → (List T_api_Addr) → Bool → (List T_api_Addr) → Bool → Prop) (b_4 : Bool) : Prop :=
  (b_4 = true → srcs_And_W a b (fun r_3 => srcs_Minus_W b a (fun r_4 => (kind = 4 → slices_Clone_s_api_Addr_api_Addr_W r_3 (fun r_5 => filter_include_j4 Q r_3 r_4 r_5)) ∧ (¬ (kind = 4) → filter_include_j4 Q r_3 r_4 [])))) ∧ (b_4 = false → slices_Clone_s_api_Addr_api_Addr_W a (fun r_6 => (kind = 6 → srcs_And_W a b (fun r_7 => Q false r_6 [] [] [] false r_7 false)) ∧ (¬ (kind = 6) → Q false r_6 [] [] [] false [] false)))
def filter_include_j1 (a : List T_api_Addr) (kind : Int) (b : List T_api_Addr) (Q : Bool → (List T_api_Addr) → (List T_api_Addr) → (List T_api_Addr) → (List T_api_Addr) → Bool → (List T_api_Addr) → Bool → Prop) (b_2 : Bool) : Prop :=
  (b_2 = true → srcs_Or_W a b (fun r_1 => (kind = 3 → srcs_Minus_W a b (fun r_2 => filter_include_j2 b Q r_1 r_2)) ∧ (¬ (kind = 3) → filter_include_j2 b Q r_1 []))) ∧ (b_2 = false → (kind = 2 → filter_include_j3 a kind b Q (decide (kind = 2))) ∧ (¬ (kind = 2) → filter_include_j3 a kind b Q (decide (kind = 4))))
def filter_include_W (a : List T_api_Addr) (kind : Int) (b : List T_api_Addr) (Q : Bool → (List T_api_Addr) → (List T_api_Addr) → (List T_api_Addr) → (List T_api_Addr) → Bool → (List T_api_Addr) → Bool → Prop) : Prop :=
  (kind = 1 → filter_include_j1 a kind b Q (decide (kind = 1))) ∧ (¬ (kind = 1) → (kind = 5 → filter_include_j1 a kind b Q (decide (kind = 5))) ∧ (¬ (kind = 5) → filter_include_j1 a kind b Q (decide (kind = 3))))
set_option maxHeartbeats 40000000 in
set_option maxRecDepth 100000 in
theorem filter_include_walk {F : Fz} {fr : List Ow} {h0 : Heap} (a : List T_api_Addr) (kind : Int) (b : List T_api_Addr) (va : Value) (vb : Value) (hS : St F (fr) h0) (hL_a : SliceF F h0 17 e_api_Addr va a) (hL_b : SliceF F h0 17 e_api_Addr vb b) {Q : Bool → (List T_api_Addr) → (List T_api_Addr) → (List T_api_Addr) → (List T_api_Addr) → Bool → (List T_api_Addr) → Bool → Prop} (hM : filter_include_W a kind b Q) :
    HC Try.prog 32 #[va, .int .i64 kind, vb] h0 fun u h' => ∃ (F' : Fz) (r_0_1 : Bool) (r_1_1 : List T_api_Addr) (r_2_1 : List T_api_Addr) (r_3_1 : List T_api_Addr) (r_4_1 : List T_api_Addr) (r_5_1 : Bool) (r_6_1 : List T_api_Addr) (r_7_1 : Bool) (vr_1_1 : Value) (vr_2_1 : Value) (vr_3_1 : Value) (vr_4_1 : Value) (vr_6_1 : Value), u = .agg #[.bool r_0_1, vr_1_1, vr_2_1, vr_3_1, vr_4_1, .bool r_5_1, vr_6_1, .bool r_7_1] ∧ Kp F h0 F' h' ∧ St F' (Ow.own 34 17 e_api_Addr vr_1_1 r_1_1 :: Ow.own 34 17 e_api_Addr vr_2_1 r_2_1 :: Ow.own 34 17 e_api_Addr vr_4_1 r_4_1 :: Ow.own 34 17 e_api_Addr vr_6_1 r_6_1 :: fr) h' ∧ (SliceF F' h' 17 e_api_Addr va a) ∧ (SliceF F' h' 17 e_api_Addr vb b) ∧ (SliceF F' h' 17 e_api_Addr vr_3_1 r_3_1) ∧ Q r_0_1 r_1_1 r_2_1 r_3_1 r_4_1 r_5_1 r_6_1 r_7_1 := by
  unfold filter_include_W at hM
  have hK := Kp.refl F h0
  refine HC.of_HW (n := 58) Try.func32 rfl rfl (Nat.le_of_ble_eq_true rfl) ?_
  refine HW.seq ?_
  refine HW.region ?_
  refine HO.eff (want_none) rfl (st_alloc (c := #[.bool false, .slice none 0 0, .slice none 0 0, .slice none 0 0, .slice none 0 0, .bool false, .slice none 0 0, .bool false]) hS tz_29 rfl) ?_
  rintro _ h_1 ⟨b_1, rfl, hS, hk⟩
  replace hK := hK.trans hk
  replace hL_a := hL_a.kp hk
  replace hL_b := hL_b.kp hk
  refine HO.nil (thenQ_normal (?_))
  refine HW.seq ?_
  refine HW.seq ?_
  refine HW.region ?_
  refine HO.val (v := .int .i64 kind) (want_none) rfl (q_move rfl) ?_
  refine HO.nil (thenQ_normal (?_))
  refine HW.block ?_
  refine HW.seq_mid (fun f h => ∃ (F' : Fz) (b_2 : Bool), f 0 = va ∧ f 1 = .int .i64 kind ∧ f 2 = vb ∧ f 6 = .pointer (some ⟨b_1, 0, none⟩) ∧ f 11 = .int .i64 kind ∧ f 12 = .bool b_2 ∧ Kp F h0 F' h ∧ St F' (Ow.box b_1 29 #[.bool false, .slice none 0 0, .slice none 0 0, .slice none 0 0, .slice none 0 0, .bool false, .slice none 0 0, .bool false] :: fr) h ∧ (SliceF F' h 17 e_api_Addr va a) ∧ (SliceF F' h 17 e_api_Addr vb b) ∧ filter_include_j1 a kind b Q b_2) ?_ ?_
  · refine HW.seq ?_
    refine HW.region ?_
    refine HO.val (v := .bool (decide (kind = 1))) (want_none) rfl (q_eql rfl rfl) ?_
    refine HO.val (v := .bool (decide (kind = 1))) (want_none) rfl (q_assign rfl) ?_
    refine HO.nil (thenQ_normal (?_))
    refine HW.cond (decide (kind = 1)) rfl (fun c_1 => ?_) (fun c_1 => ?_)
    · replace hM := hM.1 (of_decide_eq_true c_1)
      refine HW.skip (thenQ_normal (?_))
      exact ⟨F, decide (kind = 1), rfl, rfl, rfl, rfl, rfl, rfl, hK, hS, hL_a, hL_b, hM⟩
    · replace hM := hM.2 (of_decide_eq_false c_1)
      refine HW.seq ?_
      refine HW.region ?_
      refine HO.val (v := .bool (decide (kind = 5))) (want_none) rfl (q_eql rfl rfl) ?_
      refine HO.val (v := .bool (decide (kind = 5))) (want_none) rfl (q_assign rfl) ?_
      refine HO.nil (thenQ_normal (?_))
      refine HW.cond (decide (kind = 5)) rfl (fun c_2 => ?_) (fun c_2 => ?_)
      · replace hM := hM.1 (of_decide_eq_true c_2)
        refine HW.skip (thenQ_normal (?_))
        exact ⟨F, decide (kind = 5), rfl, rfl, rfl, rfl, rfl, rfl, hK, hS, hL_a, hL_b, hM⟩
      · replace hM := hM.2 (of_decide_eq_false c_2)
        refine HW.region ?_
        refine HO.val (v := .bool (decide (kind = 3))) (want_none) rfl (q_eql rfl rfl) ?_
        refine HO.val (v := .bool (decide (kind = 3))) (want_none) rfl (q_assign rfl) ?_
        refine HO.nil (thenQ_normal (?_))
        exact ⟨F, decide (kind = 3), rfl, rfl, rfl, rfl, rfl, rfl, hK, hS, hL_a, hL_b, hM⟩
  · rintro f_1 h_2 ⟨F_1, b_2, e0, e1, e2, e6, e11, e12, hK, hS, hL_a, hL_b, hM⟩
    unfold filter_include_j1 at hM
    refine HW.fr [(0, va), (1, .int .i64 kind), (2, vb), (6, .pointer (some ⟨b_1, 0, none⟩)), (11, .int .i64 kind), (12, .bool b_2)] ⟨e0, e1, e2, e6, e11, e12, trivial⟩ ?_
    refine HW.cond b_2 rfl (fun c_3 => ?_) (fun c_3 => ?_)
    · replace hM := hM.1 c_3
      refine HW.seq ?_
      refine HW.region ?_
      refine HO.val (v := va) (want_none) rfl (q_move rfl) ?_
      refine HO.val (v := vb) (want_none) rfl (q_move rfl) ?_
      refine HO.call (want_none) rfl (ec en_40 rfl rfl) (srcs_Or_walk (fr := (Ow.box b_1 29 #[.bool false, .slice none 0 0, .slice none 0 0, .slice none 0 0, .slice none 0 0, .bool false, .slice none 0 0, .bool false] :: fr)) a b va vb hS hL_a hL_b hM) ?_
      rintro vr_1 h_3 ⟨F_2, r_1, _, rfl, hk, hS, _, _, hM⟩
      replace hK := hK.trans hk
      replace hL_a := hL_a.kp hk
      replace hL_b := hL_b.kp hk
      refine HO.val (v := .agg #[.bool false, vr_1, .slice none 0 0]) (want_none) rfl (q_build tp_24 (fill_cons (cs' := #[.bool false, vr_1, .slice none 0 0]) (vc := #[vr_1]) rfl (shp (hS.own 0 rfl).slice).cells rfl (Nat.le_of_ble_eq_true rfl) rfl rfl)) ?_
      refine HO.val (v := vb) (want_none) rfl (q_move rfl) ?_
      refine HO.val (v := .agg #[.bool false, vr_1, .slice none 0 0, vb, .slice none 0 0, .bool false, .slice none 0 0, .bool false]) (want_none) rfl (q_build tp_29 (fill_cons (cs' := #[.bool false, vr_1, .slice none 0 0, .slice none 0 0, .slice none 0 0, .bool false, .slice none 0 0, .bool false]) (vc := #[.bool false, vr_1, .slice none 0 0]) rfl rfl rfl (Nat.le_of_ble_eq_true rfl) rfl (fill_cons (cs' := #[.bool false, vr_1, .slice none 0 0, vb, .slice none 0 0, .bool false, .slice none 0 0, .bool false]) (vc := #[vb]) rfl (shp hL_b.is).cells rfl (Nat.le_of_ble_eq_true rfl) rfl rfl))) ?_
      refine HO.eff (want_none) rfl (st_alloc (c := #[.bool false, .slice none 0 0, .slice none 0 0, .slice none 0 0, .slice none 0 0, .bool false, .slice none 0 0, .bool false]) hS tz_29 rfl) ?_
      rintro _ h_4 ⟨b_3, rfl, hS, hk⟩
      replace hK := hK.trans hk
      replace hL_a := hL_a.kp hk
      replace hL_b := hL_b.kp hk
      refine HO.sto (want_none) rfl (st_storeAgg (c' := #[.bool false, vr_1, .slice none 0 0, vb, .slice none 0 0, .bool false, .slice none 0 0, .bool false]) hS (i := 0) rfl ta_29 rfl rfl rfl (List.forall_mem_cons.2 ⟨rfl, (List.forall_mem_cons.2 ⟨(shp (hS.own 1 rfl).slice).one, (List.forall_mem_cons.2 ⟨rfl, (List.forall_mem_cons.2 ⟨(shp hL_b.is).one, (List.forall_mem_cons.2 ⟨rfl, (List.forall_mem_cons.2 ⟨rfl, (List.forall_mem_cons.2 ⟨rfl, (List.forall_mem_cons.2 ⟨rfl, (fun _ h => by cases h)⟩)⟩)⟩)⟩)⟩)⟩)⟩)⟩) (Nat.le_of_ble_eq_true rfl) rfl) ?_
      rintro h_5 ⟨hS, hk⟩
      replace hS : St F_2 (Ow.box b_3 29 #[.bool false, vr_1, .slice none 0 0, vb, .slice none 0 0, .bool false, .slice none 0 0, .bool false] :: Ow.own 34 17 e_api_Addr vr_1 r_1 :: Ow.box b_1 29 #[.bool false, .slice none 0 0, .slice none 0 0, .slice none 0 0, .slice none 0 0, .bool false, .slice none 0 0, .bool false] :: fr) h_5 := hS
      replace hK := hK.trans hk
      replace hL_a := hL_a.kp hk
      replace hL_b := hL_b.kp hk
      refine HO.nil (thenQ_normal (?_))
      refine HW.seq_mid (fun f h => ∃ (F' : Fz) (out_6_1 : List T_api_Addr) (vout_6_1 : Value), f 0 = va ∧ f 1 = .int .i64 kind ∧ f 2 = vb ∧ f 6 = .pointer (some ⟨b_1, 0, none⟩) ∧ f 7 = .pointer (some ⟨b_3, 0, none⟩) ∧ Kp F h0 F' h ∧ St F' (Ow.box b_1 29 #[.bool false, .slice none 0 0, .slice none 0 0, .slice none 0 0, .slice none 0 0, .bool false, .slice none 0 0, .bool false] :: Ow.box b_3 29 #[.bool false, vr_1, .slice none 0 0, vb, .slice none 0 0, .bool false, vout_6_1, .bool false] :: Ow.own 34 17 e_api_Addr vr_1 r_1 :: Ow.own 34 17 e_api_Addr vout_6_1 out_6_1 :: fr) h ∧ (SliceF F' h 17 e_api_Addr va a) ∧ (SliceF F' h 17 e_api_Addr vb b) ∧ filter_include_j2 b Q r_1 out_6_1) ?_ ?_
      · refine HW.seq ?_
        refine HW.region ?_
        refine HO.val (v := .int .i64 kind) (want_none) rfl (q_move rfl) ?_
        refine HO.val (v := .bool (decide (kind = 3))) (want_none) rfl (q_eql rfl rfl) ?_
        refine HO.nil (thenQ_normal (?_))
        refine HW.cond (decide (kind = 3)) rfl (fun c_4 => ?_) (fun c_4 => ?_)
        · replace hM := hM.1 (of_decide_eq_true c_4)
          refine HW.region ?_
          refine HO.val (v := va) (want_none) rfl (q_move rfl) ?_
          refine HO.val (v := vb) (want_none) rfl (q_move rfl) ?_
          refine HO.call (want_none) rfl (ec en_39 rfl rfl) (srcs_Minus_walk (fr := (Ow.box b_3 29 #[.bool false, vr_1, .slice none 0 0, vb, .slice none 0 0, .bool false, .slice none 0 0, .bool false] :: Ow.own 34 17 e_api_Addr vr_1 r_1 :: Ow.box b_1 29 #[.bool false, .slice none 0 0, .slice none 0 0, .slice none 0 0, .slice none 0 0, .bool false, .slice none 0 0, .bool false] :: fr)) a b va vb hS hL_a hL_b hM) ?_
          rintro vr_2 h_6 ⟨F_3, r_2, _, rfl, hk, hS, _, _, hM⟩
          replace hK := hK.trans hk
          replace hL_a := hL_a.kp hk
          replace hL_b := hL_b.kp hk
          refine HO.val (v := .pointer (some ⟨b_3, 6, none⟩)) (want_none) rfl (q_fieldAddr fa_29_4 rfl rfl) ?_
          refine HO.sto (want_none) rfl (st_store (c' := #[.bool false, vr_1, .slice none 0 0, vb, .slice none 0 0, .bool false, vr_2, .bool false]) hS (i := 1) rfl to_22 rfl rfl (shp (hS.own 0 rfl).slice).cells (shp (hS.own 0 rfl).slice).one (Nat.le_of_ble_eq_true rfl) rfl) ?_
          rintro h_7 ⟨hS, hk⟩
          replace hS : St F_3 (Ow.own 34 17 e_api_Addr vr_2 r_2 :: Ow.box b_3 29 #[.bool false, vr_1, .slice none 0 0, vb, .slice none 0 0, .bool false, vr_2, .bool false] :: Ow.own 34 17 e_api_Addr vr_1 r_1 :: Ow.box b_1 29 #[.bool false, .slice none 0 0, .slice none 0 0, .slice none 0 0, .slice none 0 0, .bool false, .slice none 0 0, .bool false] :: fr) h_7 := hS
          replace hK := hK.trans hk
          replace hL_a := hL_a.kp hk
          replace hL_b := hL_b.kp hk
          refine HO.nil (thenQ_normal (?_))
          replace hS : St F_3 (Ow.box b_1 29 #[.bool false, .slice none 0 0, .slice none 0 0, .slice none 0 0, .slice none 0 0, .bool false, .slice none 0 0, .bool false] :: Ow.box b_3 29 #[.bool false, vr_1, .slice none 0 0, vb, .slice none 0 0, .bool false, vr_2, .bool false] :: Ow.own 34 17 e_api_Addr vr_1 r_1 :: Ow.own 34 17 e_api_Addr vr_2 r_2 :: fr) h_7 := hS.perm2 [3, 1, 2, 0] 4 rfl rfl
          exact ⟨F_3, r_2, vr_2, rfl, rfl, rfl, rfl, rfl, hK, hS, hL_a, hL_b, hM⟩
        · replace hM := hM.2 (of_decide_eq_false c_4)
          refine HW.skip (thenQ_normal (?_))
          replace hS := hS.nilOwn 34 17 e_api_Addr
          replace hS : St F_2 (Ow.box b_1 29 #[.bool false, .slice none 0 0, .slice none 0 0, .slice none 0 0, .slice none 0 0, .bool false, .slice none 0 0, .bool false] :: Ow.box b_3 29 #[.bool false, vr_1, .slice none 0 0, vb, .slice none 0 0, .bool false, .slice none 0 0, .bool false] :: Ow.own 34 17 e_api_Addr vr_1 r_1 :: Ow.own 34 17 e_api_Addr (.slice none 0 0) ([] : List T_api_Addr) :: fr) h_5 := hS.perm2 [3, 1, 2, 0] 4 rfl rfl
          exact ⟨F_2, [], .slice none 0 0, rfl, rfl, rfl, rfl, rfl, hK, hS, hL_a, hL_b, hM⟩
      · rintro f_2 h_8 ⟨F_4, out_6_1, vout_6_1, e0, e1, e2, e6, e7, hK, hS, hL_a, hL_b, hM⟩
        unfold filter_include_j2 at hM
        refine HW.fr [(0, va), (1, .int .i64 kind), (2, vb), (6, .pointer (some ⟨b_1, 0, none⟩)), (7, .pointer (some ⟨b_3, 0, none⟩))] ⟨e0, e1, e2, e6, e7, trivial⟩ ?_
        refine HW.seq ?_
        refine HW.region ?_
        refine HO.val (v := .agg #[.bool false, vr_1, .slice none 0 0, vb, .slice none 0 0, .bool false, vout_6_1, .bool false]) (want_none) rfl (q_loadAgg (cs := [.bool false, vr_1, .slice none 0 0, vb, .slice none 0 0, .bool false, vout_6_1, .bool false]) ta_29 rfl rfl (Blk.cells (k := 8) (hS.box 1 rfl) rfl)) ?_
        refine HO.sto (want_none) rfl (st_storeAgg (c' := #[.bool false, vr_1, .slice none 0 0, vb, .slice none 0 0, .bool false, vout_6_1, .bool false]) hS (i := 0) rfl ta_29 rfl rfl rfl (List.forall_mem_cons.2 ⟨rfl, (List.forall_mem_cons.2 ⟨(shp (hS.own 2 rfl).slice).one, (List.forall_mem_cons.2 ⟨rfl, (List.forall_mem_cons.2 ⟨(shp hL_b.is).one, (List.forall_mem_cons.2 ⟨rfl, (List.forall_mem_cons.2 ⟨rfl, (List.forall_mem_cons.2 ⟨(shp (hS.own 3 rfl).slice).one, (List.forall_mem_cons.2 ⟨rfl, (fun _ h => by cases h)⟩)⟩)⟩)⟩)⟩)⟩)⟩)⟩) (Nat.le_of_ble_eq_true rfl) rfl) ?_
        rintro h_9 ⟨hS, hk⟩
        replace hS : St F_4 (Ow.box b_1 29 #[.bool false, vr_1, .slice none 0 0, vb, .slice none 0 0, .bool false, vout_6_1, .bool false] :: Ow.box b_3 29 #[.bool false, vr_1, .slice none 0 0, vb, .slice none 0 0, .bool false, vout_6_1, .bool false] :: Ow.own 34 17 e_api_Addr vr_1 r_1 :: Ow.own 34 17 e_api_Addr vout_6_1 out_6_1 :: fr) h_9 := hS
        replace hK := hK.trans hk
        replace hL_a := hL_a.kp hk
        replace hL_b := hL_b.kp hk
        refine HO.nil (thenQ_normal (?_))
        refine HW.ret (blockQ_ret (thenQ_ret (?_)))
        refine ⟨.inr rfl, .agg #[.bool false, vr_1, .slice none 0 0, vb, .slice none 0 0, .bool false, vout_6_1, .bool false], res1 rfl (rca (cs := [.bool false, vr_1, .slice none 0 0, vb, .slice none 0 0, .bool false, vout_6_1, .bool false]) ta_29 rfl rfl (Blk.cells (k := 8) (hS.box 0 rfl) rfl)), ?_⟩
        replace hS := hS.nilOwn 34 17 e_api_Addr
        replace hS := hS.nilOwn 34 17 e_api_Addr
        replace hS : St F_4 (Ow.own 34 17 e_api_Addr vr_1 r_1 :: Ow.own 34 17 e_api_Addr (.slice none 0 0) ([] : List T_api_Addr) :: Ow.own 34 17 e_api_Addr (.slice none 0 0) ([] : List T_api_Addr) :: Ow.own 34 17 e_api_Addr vout_6_1 out_6_1 :: fr) h_9 := hS.perm2 [4, 1, 0, 5] 6 rfl rfl
        exact ⟨F_4, false, r_1, [], b, [], false, out_6_1, false, vr_1, .slice none 0 0, vb, .slice none 0 0, vout_6_1, rfl, hK, hS, hL_a, hL_b, hL_b, hM⟩
    · replace hM := hM.2 c_3
      refine HW.seq_mid (fun f h => ∃ (F' : Fz) (b_4 : Bool), f 0 = va ∧ f 1 = .int .i64 kind ∧ f 2 = vb ∧ f 6 = .pointer (some ⟨b_1, 0, none⟩) ∧ f 29 = .bool b_4 ∧ Kp F h0 F' h ∧ St F' (Ow.box b_1 29 #[.bool false, .slice none 0 0, .slice none 0 0, .slice none 0 0, .slice none 0 0, .bool false, .slice none 0 0, .bool false] :: fr) h ∧ (SliceF F' h 17 e_api_Addr va a) ∧ (SliceF F' h 17 e_api_Addr vb b) ∧ filter_include_j3 a kind b Q b_4) ?_ ?_
      · refine HW.seq ?_
        refine HW.region ?_
        refine HO.val (v := .bool (decide (kind = 2))) (want_none) rfl (q_eql rfl rfl) ?_
        refine HO.val (v := .bool (decide (kind = 2))) (want_none) rfl (q_assign rfl) ?_
        refine HO.nil (thenQ_normal (?_))
        refine HW.cond (decide (kind = 2)) rfl (fun c_5 => ?_) (fun c_5 => ?_)
        · replace hM := hM.1 (of_decide_eq_true c_5)
          refine HW.skip (thenQ_normal (?_))
          exact ⟨F_1, decide (kind = 2), rfl, rfl, rfl, rfl, rfl, hK, hS, hL_a, hL_b, hM⟩
        · replace hM := hM.2 (of_decide_eq_false c_5)
          refine HW.region ?_
          refine HO.val (v := .bool (decide (kind = 4))) (want_none) rfl (q_eql rfl rfl) ?_
          refine HO.val (v := .bool (decide (kind = 4))) (want_none) rfl (q_assign rfl) ?_
          refine HO.nil (thenQ_normal (?_))
          exact ⟨F_1, decide (kind = 4), rfl, rfl, rfl, rfl, rfl, hK, hS, hL_a, hL_b, hM⟩
      · rintro f_3 h_10 ⟨F_5, b_4, e0, e1, e2, e6, e29, hK, hS, hL_a, hL_b, hM⟩
        unfold filter_include_j3 at hM
        refine HW.fr [(0, va), (1, .int .i64 kind), (2, vb), (6, .pointer (some ⟨b_1, 0, none⟩)), (29, .bool b_4)] ⟨e0, e1, e2, e6, e29, trivial⟩ ?_
        refine HW.cond b_4 rfl (fun c_6 => ?_) (fun c_6 => ?_)
        · replace hM := hM.1 c_6
          refine HW.seq ?_
          refine HW.region ?_
          refine HO.val (v := va) (want_none) rfl (q_move rfl) ?_
          refine HO.val (v := vb) (want_none) rfl (q_move rfl) ?_
          refine HO.call (want_none) rfl (ec en_37 rfl rfl) (srcs_And_walk (fr := (Ow.box b_1 29 #[.bool false, .slice none 0 0, .slice none 0 0, .slice none 0 0, .slice none 0 0, .bool false, .slice none 0 0, .bool false] :: fr)) a b va vb hS hL_a hL_b hM) ?_
          rintro vr_3 h_11 ⟨F_6, r_3, _, rfl, hk, hS, _, _, hM⟩
          replace hK := hK.trans hk
          replace hL_a := hL_a.kp hk
          replace hL_b := hL_b.kp hk
          refine HO.val (v := vr_3) (want_none) rfl (q_assign rfl) ?_
          refine HO.nil (thenQ_normal (?_))
          refine HW.seq ?_
          refine HW.region ?_
          refine HO.val (v := vr_3) (want_none) rfl (q_move rfl) ?_
          refine HO.val (v := vb) (want_none) rfl (q_move rfl) ?_
          refine HO.val (v := va) (want_none) rfl (q_move rfl) ?_
          refine HO.call (want_none) rfl (ec en_39 rfl rfl) (srcs_Minus_walk (fr := (Ow.own 34 17 e_api_Addr vr_3 r_3 :: Ow.box b_1 29 #[.bool false, .slice none 0 0, .slice none 0 0, .slice none 0 0, .slice none 0 0, .bool false, .slice none 0 0, .bool false] :: fr)) b a vb va hS hL_b hL_a hM) ?_
          rintro vr_4 h_12 ⟨F_7, r_4, _, rfl, hk, hS, _, _, hM⟩
          replace hK := hK.trans hk
          replace hL_a := hL_a.kp hk
          replace hL_b := hL_b.kp hk
          refine HO.val (v := .agg #[.bool true, vr_3, vr_4]) (want_none) rfl (q_build tp_24 (fill_cons (cs' := #[.bool true, .slice none 0 0, .slice none 0 0]) (vc := #[.bool true]) rfl rfl rfl (Nat.le_of_ble_eq_true rfl) rfl (fill_cons (cs' := #[.bool true, vr_3, .slice none 0 0]) (vc := #[vr_3]) rfl (shp (hS.own 1 rfl).slice).cells rfl (Nat.le_of_ble_eq_true rfl) rfl (fill_cons (cs' := #[.bool true, vr_3, vr_4]) (vc := #[vr_4]) rfl (shp (hS.own 0 rfl).slice).cells rfl (Nat.le_of_ble_eq_true rfl) rfl rfl)))) ?_
          refine HO.val (v := .agg #[.bool true, vr_3, vr_4, .slice none 0 0, .slice none 0 0, .bool true, .slice none 0 0, .bool false]) (want_none) rfl (q_build tp_29 (fill_cons (cs' := #[.bool true, vr_3, vr_4, .slice none 0 0, .slice none 0 0, .bool false, .slice none 0 0, .bool false]) (vc := #[.bool true, vr_3, vr_4]) rfl rfl rfl (Nat.le_of_ble_eq_true rfl) rfl (fill_cons (cs' := #[.bool true, vr_3, vr_4, .slice none 0 0, .slice none 0 0, .bool true, .slice none 0 0, .bool false]) (vc := #[.bool true]) rfl rfl rfl (Nat.le_of_ble_eq_true rfl) rfl rfl))) ?_
          refine HO.eff (want_none) rfl (st_alloc (c := #[.bool false, .slice none 0 0, .slice none 0 0, .slice none 0 0, .slice none 0 0, .bool false, .slice none 0 0, .bool false]) hS tz_29 rfl) ?_
          rintro _ h_13 ⟨b_5, rfl, hS, hk⟩
          replace hK := hK.trans hk
          replace hL_a := hL_a.kp hk
          replace hL_b := hL_b.kp hk
          refine HO.sto (want_none) rfl (st_storeAgg (c' := #[.bool true, vr_3, vr_4, .slice none 0 0, .slice none 0 0, .bool true, .slice none 0 0, .bool false]) hS (i := 0) rfl ta_29 rfl rfl rfl (List.forall_mem_cons.2 ⟨rfl, (List.forall_mem_cons.2 ⟨(shp (hS.own 2 rfl).slice).one, (List.forall_mem_cons.2 ⟨(shp (hS.own 1 rfl).slice).one, (List.forall_mem_cons.2 ⟨rfl, (List.forall_mem_cons.2 ⟨rfl, (List.forall_mem_cons.2 ⟨rfl, (List.forall_mem_cons.2 ⟨rfl, (List.forall_mem_cons.2 ⟨rfl, (fun _ h => by cases h)⟩)⟩)⟩)⟩)⟩)⟩)⟩)⟩) (Nat.le_of_ble_eq_true rfl) rfl) ?_
          rintro h_14 ⟨hS, hk⟩
          replace hS : St F_7 (Ow.box b_5 29 #[.bool true, vr_3, vr_4, .slice none 0 0, .slice none 0 0, .bool true, .slice none 0 0, .bool false] :: Ow.own 34 17 e_api_Addr vr_4 r_4 :: Ow.own 34 17 e_api_Addr vr_3 r_3 :: Ow.box b_1 29 #[.bool false, .slice none 0 0, .slice none 0 0, .slice none 0 0, .slice none 0 0, .bool false, .slice none 0 0, .bool false] :: fr) h_14 := hS
          replace hK := hK.trans hk
          replace hL_a := hL_a.kp hk
          replace hL_b := hL_b.kp hk
          refine HO.nil (thenQ_normal (?_))
          refine HW.seq_mid (fun f h => ∃ (F' : Fz) (out_6_2 : List T_api_Addr) (vout_6_2 : Value), f 0 = va ∧ f 1 = .int .i64 kind ∧ f 2 = vb ∧ f 6 = .pointer (some ⟨b_1, 0, none⟩) ∧ f 9 = .pointer (some ⟨b_5, 0, none⟩) ∧ Kp F h0 F' h ∧ St F' (Ow.box b_1 29 #[.bool false, .slice none 0 0, .slice none 0 0, .slice none 0 0, .slice none 0 0, .bool false, .slice none 0 0, .bool false] :: Ow.box b_5 29 #[.bool true, vr_3, vr_4, .slice none 0 0, .slice none 0 0, .bool true, vout_6_2, .bool false] :: Ow.own 34 17 e_api_Addr vr_3 r_3 :: Ow.own 34 17 e_api_Addr vr_4 r_4 :: Ow.own 34 17 e_api_Addr vout_6_2 out_6_2 :: fr) h ∧ (SliceF F' h 17 e_api_Addr va a) ∧ (SliceF F' h 17 e_api_Addr vb b) ∧ filter_include_j4 Q r_3 r_4 out_6_2) ?_ ?_
          · refine HW.seq ?_
            refine HW.region ?_
            refine HO.val (v := .int .i64 kind) (want_none) rfl (q_move rfl) ?_
            refine HO.val (v := .bool (decide (kind = 4))) (want_none) rfl (q_eql rfl rfl) ?_
            refine HO.nil (thenQ_normal (?_))
            refine HW.cond (decide (kind = 4)) rfl (fun c_7 => ?_) (fun c_7 => ?_)
            · replace hM := hM.1 (of_decide_eq_true c_7)
              refine HW.region ?_
              refine HO.val (v := vr_3) (want_none) rfl (q_move rfl) ?_
              replace hS : St F_7 (Ow.own 34 17 e_api_Addr vr_3 r_3 :: Ow.box b_5 29 #[.bool true, vr_3, vr_4, .slice none 0 0, .slice none 0 0, .bool true, .slice none 0 0, .bool false] :: Ow.own 34 17 e_api_Addr vr_4 r_4 :: Ow.box b_1 29 #[.bool false, .slice none 0 0, .slice none 0 0, .slice none 0 0, .slice none 0 0, .bool false, .slice none 0 0, .bool false] :: fr) h_14 := hS.perm2 [2, 0, 1, 3] 4 rfl rfl
              have hZ_1 := hS
              have hkz_1 := (hS.freeze).2
              replace hS := hS.freeze.1
              have hL_2 : SliceF (fun b => F_7 b ∨ (Ow.own 34 17 e_api_Addr vr_3 r_3).foot b) h_14 17 e_api_Addr vr_3 r_3 := ⟨(hZ_1.own 0 rfl).slice, fun _ b hb => .inr hb⟩
              refine HO.call (want_none) rfl (ec en_41 rfl rfl) (slices_Clone_s_api_Addr_api_Addr_walk (fr := (Ow.box b_5 29 #[.bool true, vr_3, vr_4, .slice none 0 0, .slice none 0 0, .bool true, .slice none 0 0, .bool false] :: Ow.own 34 17 e_api_Addr vr_4 r_4 :: Ow.box b_1 29 #[.bool false, .slice none 0 0, .slice none 0 0, .slice none 0 0, .slice none 0 0, .bool false, .slice none 0 0, .bool false] :: fr)) r_3 vr_3 hS hL_2 hM) ?_
              rintro vr_5 h_15 ⟨F_8, r_5, _, rfl, hk, hS, _, hM⟩
              obtain ⟨hS, hk⟩ := hZ_1.back hk hS
              generalize (fun b => F_8 b ∧ ¬ (Ow.own 34 17 e_api_Addr vr_3 r_3).foot b) = F_9 at hS hk
              replace hK := hK.trans hk
              replace hL_a := hL_a.kp hk
              replace hL_b := hL_b.kp hk
              refine HO.val (v := .pointer (some ⟨b_5, 6, none⟩)) (want_none) rfl (q_fieldAddr fa_29_4 rfl rfl) ?_
              refine HO.sto (want_none) rfl (st_store (c' := #[.bool true, vr_3, vr_4, .slice none 0 0, .slice none 0 0, .bool true, vr_5, .bool false]) hS (i := 2) rfl to_22 rfl rfl (shp (hS.own 1 rfl).slice).cells (shp (hS.own 1 rfl).slice).one (Nat.le_of_ble_eq_true rfl) rfl) ?_
              rintro h_16 ⟨hS, hk⟩
              replace hS : St F_9 (Ow.own 34 17 e_api_Addr vr_3 r_3 :: Ow.own 34 17 e_api_Addr vr_5 r_5 :: Ow.box b_5 29 #[.bool true, vr_3, vr_4, .slice none 0 0, .slice none 0 0, .bool true, vr_5, .bool false] :: Ow.own 34 17 e_api_Addr vr_4 r_4 :: Ow.box b_1 29 #[.bool false, .slice none 0 0, .slice none 0 0, .slice none 0 0, .slice none 0 0, .bool false, .slice none 0 0, .bool false] :: fr) h_16 := hS
              replace hK := hK.trans hk
              replace hL_a := hL_a.kp hk
              replace hL_b := hL_b.kp hk
              refine HO.nil (thenQ_normal (?_))
              replace hS : St F_9 (Ow.box b_1 29 #[.bool false, .slice none 0 0, .slice none 0 0, .slice none 0 0, .slice none 0 0, .bool false, .slice none 0 0, .bool false] :: Ow.box b_5 29 #[.bool true, vr_3, vr_4, .slice none 0 0, .slice none 0 0, .bool true, vr_5, .bool false] :: Ow.own 34 17 e_api_Addr vr_3 r_3 :: Ow.own 34 17 e_api_Addr vr_4 r_4 :: Ow.own 34 17 e_api_Addr vr_5 r_5 :: fr) h_16 := hS.perm2 [4, 2, 0, 3, 1] 5 rfl rfl
              exact ⟨F_9, r_5, vr_5, rfl, rfl, rfl, rfl, rfl, hK, hS, hL_a, hL_b, hM⟩
            · replace hM := hM.2 (of_decide_eq_false c_7)
              refine HW.skip (thenQ_normal (?_))
              replace hS := hS.nilOwn 34 17 e_api_Addr
              replace hS : St F_7 (Ow.box b_1 29 #[.bool false, .slice none 0 0, .slice none 0 0, .slice none 0 0, .slice none 0 0, .bool false, .slice none 0 0, .bool false] :: Ow.box b_5 29 #[.bool true, vr_3, vr_4, .slice none 0 0, .slice none 0 0, .bool true, .slice none 0 0, .bool false] :: Ow.own 34 17 e_api_Addr vr_3 r_3 :: Ow.own 34 17 e_api_Addr vr_4 r_4 :: Ow.own 34 17 e_api_Addr (.slice none 0 0) ([] : List T_api_Addr) :: fr) h_14 := hS.perm2 [4, 1, 3, 2, 0] 5 rfl rfl
              exact ⟨F_7, [], .slice none 0 0, rfl, rfl, rfl, rfl, rfl, hK, hS, hL_a, hL_b, hM⟩
          · rintro f_4 h_17 ⟨F_10, out_6_2, vout_6_2, e0, e1, e2, e6, e9, hK, hS, hL_a, hL_b, hM⟩
            unfold filter_include_j4 at hM
            refine HW.fr [(0, va), (1, .int .i64 kind), (2, vb), (6, .pointer (some ⟨b_1, 0, none⟩)), (9, .pointer (some ⟨b_5, 0, none⟩))] ⟨e0, e1, e2, e6, e9, trivial⟩ ?_
            refine HW.seq ?_
            refine HW.region ?_
            refine HO.val (v := .agg #[.bool true, vr_3, vr_4, .slice none 0 0, .slice none 0 0, .bool true, vout_6_2, .bool false]) (want_none) rfl (q_loadAgg (cs := [.bool true, vr_3, vr_4, .slice none 0 0, .slice none 0 0, .bool true, vout_6_2, .bool false]) ta_29 rfl rfl (Blk.cells (k := 8) (hS.box 1 rfl) rfl)) ?_
            refine HO.sto (want_none) rfl (st_storeAgg (c' := #[.bool true, vr_3, vr_4, .slice none 0 0, .slice none 0 0, .bool true, vout_6_2, .bool false]) hS (i := 0) rfl ta_29 rfl rfl rfl (List.forall_mem_cons.2 ⟨rfl, (List.forall_mem_cons.2 ⟨(shp (hS.own 2 rfl).slice).one, (List.forall_mem_cons.2 ⟨(shp (hS.own 3 rfl).slice).one, (List.forall_mem_cons.2 ⟨rfl, (List.forall_mem_cons.2 ⟨rfl, (List.forall_mem_cons.2 ⟨rfl, (List.forall_mem_cons.2 ⟨(shp (hS.own 4 rfl).slice).one, (List.forall_mem_cons.2 ⟨rfl, (fun _ h => by cases h)⟩)⟩)⟩)⟩)⟩)⟩)⟩)⟩) (Nat.le_of_ble_eq_true rfl) rfl) ?_
            rintro h_18 ⟨hS, hk⟩
            replace hS : St F_10 (Ow.box b_1 29 #[.bool true, vr_3, vr_4, .slice none 0 0, .slice none 0 0, .bool true, vout_6_2, .bool false] :: Ow.box b_5 29 #[.bool true, vr_3, vr_4, .slice none 0 0, .slice none 0 0, .bool true, vout_6_2, .bool false] :: Ow.own 34 17 e_api_Addr vr_3 r_3 :: Ow.own 34 17 e_api_Addr vr_4 r_4 :: Ow.own 34 17 e_api_Addr vout_6_2 out_6_2 :: fr) h_18 := hS
            replace hK := hK.trans hk
            replace hL_a := hL_a.kp hk
            replace hL_b := hL_b.kp hk
            refine HO.nil (thenQ_normal (?_))
            refine HW.ret (blockQ_ret (thenQ_ret (?_)))
            refine ⟨.inr rfl, .agg #[.bool true, vr_3, vr_4, .slice none 0 0, .slice none 0 0, .bool true, vout_6_2, .bool false], res1 rfl (rca (cs := [.bool true, vr_3, vr_4, .slice none 0 0, .slice none 0 0, .bool true, vout_6_2, .bool false]) ta_29 rfl rfl (Blk.cells (k := 8) (hS.box 0 rfl) rfl)), ?_⟩
            replace hS := hS.nilOwn 34 17 e_api_Addr
            replace hS : St F_10 (Ow.own 34 17 e_api_Addr vr_3 r_3 :: Ow.own 34 17 e_api_Addr vr_4 r_4 :: Ow.own 34 17 e_api_Addr (.slice none 0 0) ([] : List T_api_Addr) :: Ow.own 34 17 e_api_Addr vout_6_2 out_6_2 :: fr) h_18 := hS.perm2 [3, 4, 0, 5] 6 rfl rfl
            exact ⟨F_10, true, r_3, r_4, [], [], true, out_6_2, false, vr_3, vr_4, .slice none 0 0, .slice none 0 0, vout_6_2, rfl, hK, hS, hL_a, hL_b, (SliceF.nil _ _ _ _), hM⟩
        · replace hM := hM.2 c_6
          refine HW.skip (blockQ_normal (thenQ_normal (?_)))
          refine HW.seq ?_
          refine HW.region ?_
          refine HO.val (v := va) (want_none) rfl (q_move rfl) ?_
          refine HO.call (want_none) rfl (ec en_41 rfl rfl) (slices_Clone_s_api_Addr_api_Addr_walk (fr := (Ow.box b_1 29 #[.bool false, .slice none 0 0, .slice none 0 0, .slice none 0 0, .slice none 0 0, .bool false, .slice none 0 0, .bool false] :: fr)) a va hS hL_a hM) ?_
          rintro vr_6 h_19 ⟨F_11, r_6, _, rfl, hk, hS, _, hM⟩
          replace hK := hK.trans hk
          replace hL_a := hL_a.kp hk
          replace hL_b := hL_b.kp hk
          refine HO.val (v := .agg #[.bool false, vr_6, .slice none 0 0]) (want_none) rfl (q_build tp_24 (fill_cons (cs' := #[.bool false, vr_6, .slice none 0 0]) (vc := #[vr_6]) rfl (shp (hS.own 0 rfl).slice).cells rfl (Nat.le_of_ble_eq_true rfl) rfl rfl)) ?_
          refine HO.val (v := .agg #[.bool false, vr_6, .slice none 0 0, .slice none 0 0, .slice none 0 0, .bool false, .slice none 0 0, .bool false]) (want_none) rfl (q_build tp_29 (fill_cons (cs' := #[.bool false, vr_6, .slice none 0 0, .slice none 0 0, .slice none 0 0, .bool false, .slice none 0 0, .bool false]) (vc := #[.bool false, vr_6, .slice none 0 0]) rfl rfl rfl (Nat.le_of_ble_eq_true rfl) rfl rfl)) ?_
          refine HO.eff (want_none) rfl (st_alloc (c := #[.bool false, .slice none 0 0, .slice none 0 0, .slice none 0 0, .slice none 0 0, .bool false, .slice none 0 0, .bool false]) hS tz_29 rfl) ?_
          rintro _ h_20 ⟨b_6, rfl, hS, hk⟩
          replace hK := hK.trans hk
          replace hL_a := hL_a.kp hk
          replace hL_b := hL_b.kp hk
          refine HO.sto (want_none) rfl (st_storeAgg (c' := #[.bool false, vr_6, .slice none 0 0, .slice none 0 0, .slice none 0 0, .bool false, .slice none 0 0, .bool false]) hS (i := 0) rfl ta_29 rfl rfl rfl (List.forall_mem_cons.2 ⟨rfl, (List.forall_mem_cons.2 ⟨(shp (hS.own 1 rfl).slice).one, (List.forall_mem_cons.2 ⟨rfl, (List.forall_mem_cons.2 ⟨rfl, (List.forall_mem_cons.2 ⟨rfl, (List.forall_mem_cons.2 ⟨rfl, (List.forall_mem_cons.2 ⟨rfl, (List.forall_mem_cons.2 ⟨rfl, (fun _ h => by cases h)⟩)⟩)⟩)⟩)⟩)⟩)⟩)⟩) (Nat.le_of_ble_eq_true rfl) rfl) ?_
          rintro h_21 ⟨hS, hk⟩
          replace hS : St F_11 (Ow.box b_6 29 #[.bool false, vr_6, .slice none 0 0, .slice none 0 0, .slice none 0 0, .bool false, .slice none 0 0, .bool false] :: Ow.own 34 17 e_api_Addr vr_6 r_6 :: Ow.box b_1 29 #[.bool false, .slice none 0 0, .slice none 0 0, .slice none 0 0, .slice none 0 0, .bool false, .slice none 0 0, .bool false] :: fr) h_21 := hS
          replace hK := hK.trans hk
          replace hL_a := hL_a.kp hk
          replace hL_b := hL_b.kp hk
          refine HO.nil (thenQ_normal (?_))
          refine HW.seq ?_
          refine HW.seq ?_
          refine HW.region ?_
          refine HO.val (v := .int .i64 kind) (want_none) rfl (q_move rfl) ?_
          refine HO.val (v := .bool (decide (kind = 6))) (want_none) rfl (q_eql rfl rfl) ?_
          refine HO.nil (thenQ_normal (?_))
          refine HW.cond (decide (kind = 6)) rfl (fun c_8 => ?_) (fun c_8 => ?_)
          · replace hM := hM.1 (of_decide_eq_true c_8)
            refine HW.region ?_
            refine HO.val (v := va) (want_none) rfl (q_move rfl) ?_
            refine HO.val (v := vb) (want_none) rfl (q_move rfl) ?_
            refine HO.call (want_none) rfl (ec en_37 rfl rfl) (srcs_And_walk (fr := (Ow.box b_6 29 #[.bool false, vr_6, .slice none 0 0, .slice none 0 0, .slice none 0 0, .bool false, .slice none 0 0, .bool false] :: Ow.own 34 17 e_api_Addr vr_6 r_6 :: Ow.box b_1 29 #[.bool false, .slice none 0 0, .slice none 0 0, .slice none 0 0, .slice none 0 0, .bool false, .slice none 0 0, .bool false] :: fr)) a b va vb hS hL_a hL_b hM) ?_
            rintro vr_7 h_22 ⟨F_12, r_7, _, rfl, hk, hS, _, _, hM⟩
            replace hK := hK.trans hk
            replace hL_a := hL_a.kp hk
            replace hL_b := hL_b.kp hk
            refine HO.val (v := .pointer (some ⟨b_6, 6, none⟩)) (want_none) rfl (q_fieldAddr fa_29_4 rfl rfl) ?_
            refine HO.sto (want_none) rfl (st_store (c' := #[.bool false, vr_6, .slice none 0 0, .slice none 0 0, .slice none 0 0, .bool false, vr_7, .bool false]) hS (i := 1) rfl to_22 rfl rfl (shp (hS.own 0 rfl).slice).cells (shp (hS.own 0 rfl).slice).one (Nat.le_of_ble_eq_true rfl) rfl) ?_
            rintro h_23 ⟨hS, hk⟩
            replace hS : St F_12 (Ow.own 34 17 e_api_Addr vr_7 r_7 :: Ow.box b_6 29 #[.bool false, vr_6, .slice none 0 0, .slice none 0 0, .slice none 0 0, .bool false, vr_7, .bool false] :: Ow.own 34 17 e_api_Addr vr_6 r_6 :: Ow.box b_1 29 #[.bool false, .slice none 0 0, .slice none 0 0, .slice none 0 0, .slice none 0 0, .bool false, .slice none 0 0, .bool false] :: fr) h_23 := hS
            replace hK := hK.trans hk
            replace hL_a := hL_a.kp hk
            replace hL_b := hL_b.kp hk
            refine HO.nil (thenQ_normal (?_))
            refine HW.seq ?_
            refine HW.region ?_
            refine HO.val (v := .agg #[.bool false, vr_6, .slice none 0 0, .slice none 0 0, .slice none 0 0, .bool false, vr_7, .bool false]) (want_none) rfl (q_loadAgg (cs := [.bool false, vr_6, .slice none 0 0, .slice none 0 0, .slice none 0 0, .bool false, vr_7, .bool false]) ta_29 rfl rfl (Blk.cells (k := 8) (hS.box 1 rfl) rfl)) ?_
            refine HO.sto (want_none) rfl (st_storeAgg (c' := #[.bool false, vr_6, .slice none 0 0, .slice none 0 0, .slice none 0 0, .bool false, vr_7, .bool false]) hS (i := 3) rfl ta_29 rfl rfl rfl (List.forall_mem_cons.2 ⟨rfl, (List.forall_mem_cons.2 ⟨(shp (hS.own 2 rfl).slice).one, (List.forall_mem_cons.2 ⟨rfl, (List.forall_mem_cons.2 ⟨rfl, (List.forall_mem_cons.2 ⟨rfl, (List.forall_mem_cons.2 ⟨rfl, (List.forall_mem_cons.2 ⟨(shp (hS.own 0 rfl).slice).one, (List.forall_mem_cons.2 ⟨rfl, (fun _ h => by cases h)⟩)⟩)⟩)⟩)⟩)⟩)⟩)⟩) (Nat.le_of_ble_eq_true rfl) rfl) ?_
            rintro h_24 ⟨hS, hk⟩
            replace hS : St F_12 (Ow.own 34 17 e_api_Addr vr_7 r_7 :: Ow.box b_6 29 #[.bool false, vr_6, .slice none 0 0, .slice none 0 0, .slice none 0 0, .bool false, vr_7, .bool false] :: Ow.own 34 17 e_api_Addr vr_6 r_6 :: Ow.box b_1 29 #[.bool false, vr_6, .slice none 0 0, .slice none 0 0, .slice none 0 0, .bool false, vr_7, .bool false] :: fr) h_24 := hS
            replace hK := hK.trans hk
            replace hL_a := hL_a.kp hk
            replace hL_b := hL_b.kp hk
            refine HO.nil (thenQ_normal (?_))
            refine HW.ret (?_)
            refine ⟨.inr rfl, .agg #[.bool false, vr_6, .slice none 0 0, .slice none 0 0, .slice none 0 0, .bool false, vr_7, .bool false], res1 rfl (rca (cs := [.bool false, vr_6, .slice none 0 0, .slice none 0 0, .slice none 0 0, .bool false, vr_7, .bool false]) ta_29 rfl rfl (Blk.cells (k := 8) (hS.box 3 rfl) rfl)), ?_⟩
            replace hS := hS.nilOwn 34 17 e_api_Addr
            replace hS := hS.nilOwn 34 17 e_api_Addr
            replace hS : St F_12 (Ow.own 34 17 e_api_Addr vr_6 r_6 :: Ow.own 34 17 e_api_Addr (.slice none 0 0) ([] : List T_api_Addr) :: Ow.own 34 17 e_api_Addr (.slice none 0 0) ([] : List T_api_Addr) :: Ow.own 34 17 e_api_Addr vr_7 r_7 :: fr) h_24 := hS.perm2 [4, 1, 0, 2] 6 rfl rfl
            exact ⟨F_12, false, r_6, [], [], [], false, r_7, false, vr_6, .slice none 0 0, .slice none 0 0, .slice none 0 0, vr_7, rfl, hK, hS, hL_a, hL_b, (SliceF.nil _ _ _ _), hM⟩
          · replace hM := hM.2 (of_decide_eq_false c_8)
            refine HW.skip (thenQ_normal (?_))
            refine HW.seq ?_
            refine HW.region ?_
            refine HO.val (v := .agg #[.bool false, vr_6, .slice none 0 0, .slice none 0 0, .slice none 0 0, .bool false, .slice none 0 0, .bool false]) (want_none) rfl (q_loadAgg (cs := [.bool false, vr_6, .slice none 0 0, .slice none 0 0, .slice none 0 0, .bool false, .slice none 0 0, .bool false]) ta_29 rfl rfl (Blk.cells (k := 8) (hS.box 0 rfl) rfl)) ?_
            refine HO.sto (want_none) rfl (st_storeAgg (c' := #[.bool false, vr_6, .slice none 0 0, .slice none 0 0, .slice none 0 0, .bool false, .slice none 0 0, .bool false]) hS (i := 2) rfl ta_29 rfl rfl rfl (List.forall_mem_cons.2 ⟨rfl, (List.forall_mem_cons.2 ⟨(shp (hS.own 1 rfl).slice).one, (List.forall_mem_cons.2 ⟨rfl, (List.forall_mem_cons.2 ⟨rfl, (List.forall_mem_cons.2 ⟨rfl, (List.forall_mem_cons.2 ⟨rfl, (List.forall_mem_cons.2 ⟨rfl, (List.forall_mem_cons.2 ⟨rfl, (fun _ h => by cases h)⟩)⟩)⟩)⟩)⟩)⟩)⟩)⟩) (Nat.le_of_ble_eq_true rfl) rfl) ?_
            rintro h_25 ⟨hS, hk⟩
            replace hS : St F_11 (Ow.box b_6 29 #[.bool false, vr_6, .slice none 0 0, .slice none 0 0, .slice none 0 0, .bool false, .slice none 0 0, .bool false] :: Ow.own 34 17 e_api_Addr vr_6 r_6 :: Ow.box b_1 29 #[.bool false, vr_6, .slice none 0 0, .slice none 0 0, .slice none 0 0, .bool false, .slice none 0 0, .bool false] :: fr) h_25 := hS
            replace hK := hK.trans hk
            replace hL_a := hL_a.kp hk
            replace hL_b := hL_b.kp hk
            refine HO.nil (thenQ_normal (?_))
            refine HW.ret (?_)
            refine ⟨.inr rfl, .agg #[.bool false, vr_6, .slice none 0 0, .slice none 0 0, .slice none 0 0, .bool false, .slice none 0 0, .bool false], res1 rfl (rca (cs := [.bool false, vr_6, .slice none 0 0, .slice none 0 0, .slice none 0 0, .bool false, .slice none 0 0, .bool false]) ta_29 rfl rfl (Blk.cells (k := 8) (hS.box 2 rfl) rfl)), ?_⟩
            replace hS := hS.nilOwn 34 17 e_api_Addr
            replace hS := hS.nilOwn 34 17 e_api_Addr
            replace hS := hS.nilOwn 34 17 e_api_Addr
            replace hS : St F_11 (Ow.own 34 17 e_api_Addr vr_6 r_6 :: Ow.own 34 17 e_api_Addr (.slice none 0 0) ([] : List T_api_Addr) :: Ow.own 34 17 e_api_Addr (.slice none 0 0) ([] : List T_api_Addr) :: Ow.own 34 17 e_api_Addr (.slice none 0 0) ([] : List T_api_Addr) :: fr) h_25 := hS.perm2 [4, 2, 1, 0] 6 rfl rfl
            exact ⟨F_11, false, r_6, [], [], [], false, [], false, vr_6, .slice none 0 0, .slice none 0 0, .slice none 0 0, .slice none 0 0, rfl, hK, hS, hL_a, hL_b, (SliceF.nil _ _ _ _), hM⟩

def filter_Apply_W (s_Exclude : Bool) (s_On : List T_api_Addr) (s_Off : List T_api_Addr) (kind : Int) (l : List T_api_Addr) (Q : Bool → (List T_api_Addr) → (List T_api_Addr) → (List T_api_Addr) → (List T_api_Addr) → Bool → (List T_api_Addr) → Bool → Prop) : Prop :=
  srcs_Of_W l (fun r_1 => (s_Exclude = true → filter_exclude_W s_On s_Off kind r_1 (fun r_0_2 r_1_2 r_2_2 r_3_2 r_4_2 r_5_2 r_6_2 r_7_2 => Q r_0_2 r_1_2 r_2_2 r_3_2 r_4_2 r_5_2 r_6_2 r_7_2)) ∧ (s_Exclude = false → filter_include_W s_On kind r_1 (fun r_0_3 r_1_3 r_2_3 r_3_3 r_4_3 r_5_3 r_6_3 r_7_3 => Q r_0_3 r_1_3 r_2_3 r_3_3 r_4_3 r_5_3 r_6_3 r_7_3)))
set_option maxHeartbeats 40000000 in
set_option maxRecDepth 100000 in
theorem filter_Apply_walk {F : Fz} {fr : List Ow} {h0 : Heap} (s_Exclude : Bool) (s_On : List T_api_Addr) (s_Off : List T_api_Addr) (kind : Int) (l : List T_api_Addr) (vs_On : Value) (vs_Off : Value) (vl : Value) (hS : St F (fr) h0) (hL_s_On : SliceF F h0 17 e_api_Addr vs_On s_On) (hL_s_Off : SliceF F h0 17 e_api_Addr vs_Off s_Off) (hL_l : SliceF F h0 17 e_api_Addr vl l) {Q : Bool → (List T_api_Addr) → (List T_api_Addr) → (List T_api_Addr) → (List T_api_Addr) → Bool → (List T_api_Addr) → Bool → Prop} (hM : filter_Apply_W s_Exclude s_On s_Off kind l Q) :
    HC Try.prog 10 #[.agg #[.bool s_Exclude, vs_On, vs_Off], .int .i64 kind, vl] h0 fun u h' => ∃ (F' : Fz) (r_0_1 : Bool) (r_1_1 : List T_api_Addr) (r_2_1 : List T_api_Addr) (r_3_1 : List T_api_Addr) (r_4_1 : List T_api_Addr) (r_5_1 : Bool) (r_6_1 : List T_api_Addr) (r_7_1 : Bool) (vr_1_1 : Value) (vr_2_1 : Value) (vr_3_1 : Value) (vr_4_1 : Value) (vr_6_1 : Value), u = .agg #[.bool r_0_1, vr_1_1, vr_2_1, vr_3_1, vr_4_1, .bool r_5_1, vr_6_1, .bool r_7_1] ∧ Kp F h0 F' h' ∧ St F' (Ow.own 34 17 e_api_Addr vr_1_1 r_1_1 :: Ow.own 34 17 e_api_Addr vr_2_1 r_2_1 :: Ow.own 34 17 e_api_Addr vr_4_1 r_4_1 :: Ow.own 34 17 e_api_Addr vr_6_1 r_6_1 :: fr) h' ∧ (SliceF F' h' 17 e_api_Addr vs_On s_On) ∧ (SliceF F' h' 17 e_api_Addr vs_Off s_Off) ∧ (SliceF F' h' 17 e_api_Addr vl l) ∧ (SliceF F' h' 17 e_api_Addr vr_3_1 r_3_1) ∧ Q r_0_1 r_1_1 r_2_1 r_3_1 r_4_1 r_5_1 r_6_1 r_7_1 := by
  unfold filter_Apply_W at hM
  have hK := Kp.refl F h0
  refine HC.of_HW (n := 24) Try.func10 rfl rfl (Nat.le_of_ble_eq_true rfl) ?_
  refine HW.seq ?_
  refine HW.region ?_
  refine HO.eff (want_none) rfl (st_box (c := #[.bool s_Exclude, vs_On, vs_Off]) (k' := 3) hS rfl rfl) ?_
  rintro _ h_1 ⟨b_1, rfl, hS, hk⟩
  replace hK := hK.trans hk
  replace hL_s_On := hL_s_On.kp hk
  replace hL_s_Off := hL_s_Off.kp hk
  replace hL_l := hL_l.kp hk
  refine HO.eff (want_none) rfl (st_alloc (c := #[.bool false, .slice none 0 0, .slice none 0 0, .slice none 0 0, .slice none 0 0, .bool false, .slice none 0 0, .bool false]) hS tz_29 rfl) ?_
  rintro _ h_2 ⟨b_2, rfl, hS, hk⟩
  replace hK := hK.trans hk
  replace hL_s_On := hL_s_On.kp hk
  replace hL_s_Off := hL_s_Off.kp hk
  replace hL_l := hL_l.kp hk
  refine HO.nil (thenQ_normal (?_))
  refine HW.seq ?_
  refine HW.region ?_
  refine HO.val (v := vl) (want_none) rfl (q_move rfl) ?_
  refine HO.call (want_none) rfl (ec en_30 rfl rfl) (srcs_Of_walk (fr := (Ow.box b_2 29 #[.bool false, .slice none 0 0, .slice none 0 0, .slice none 0 0, .slice none 0 0, .bool false, .slice none 0 0, .bool false] :: Ow.box b_1 24 #[.bool s_Exclude, vs_On, vs_Off] :: fr)) l vl hS hL_l hM) ?_
  rintro vr_1 h_3 ⟨F_1, r_1, _, rfl, hk, hS, _, hM⟩
  replace hK := hK.trans hk
  replace hL_s_On := hL_s_On.kp hk
  replace hL_s_Off := hL_s_Off.kp hk
  replace hL_l := hL_l.kp hk
  refine HO.val (v := vr_1) (want_none) rfl (q_assign rfl) ?_
  refine HO.nil (thenQ_normal (?_))
  refine HW.seq ?_
  refine HW.seq ?_
  refine HW.region ?_
  refine HO.val (v := .pointer (some ⟨b_1, 0, none⟩)) (want_none) rfl (q_fieldAddr fa_24_0 rfl rfl) ?_
  refine HO.val (v := .bool s_Exclude) (want_none) rfl (q_load to_4 rfl (Blk.cell (hS.box 2 rfl) rfl)) ?_
  refine HO.nil (thenQ_normal (?_))
  refine HW.cond s_Exclude rfl (fun c_1 => ?_) (fun c_1 => ?_)
  · replace hM := hM.1 c_1
    refine HW.seq ?_
    refine HW.region ?_
    refine HO.val (v := .pointer (some ⟨b_1, 1, none⟩)) (want_none) rfl (q_fieldAddr fa_24_1 rfl rfl) ?_
    refine HO.val (v := vs_On) (want_none) rfl (q_load to_22 rfl (Blk.cell (hS.box 2 rfl) rfl)) ?_
    refine HO.val (v := .pointer (some ⟨b_1, 2, none⟩)) (want_none) rfl (q_fieldAddr fa_24_2 rfl rfl) ?_
    refine HO.val (v := vs_Off) (want_none) rfl (q_load to_22 rfl (Blk.cell (hS.box 2 rfl) rfl)) ?_
    refine HO.val (v := .int .i64 kind) (want_none) rfl (q_move rfl) ?_
    refine HO.val (v := vr_1) (want_none) rfl (q_move rfl) ?_
    obtain ⟨F_2, hS, hk, hL_2⟩ := hS.freezeOwn
    replace hK := hK.trans hk
    replace hL_s_On := hL_s_On.kp hk
    replace hL_s_Off := hL_s_Off.kp hk
    replace hL_l := hL_l.kp hk
    refine HO.call (want_none) rfl (ec en_31 rfl rfl) (filter_exclude_walk (fr := (Ow.box b_2 29 #[.bool false, .slice none 0 0, .slice none 0 0, .slice none 0 0, .slice none 0 0, .bool false, .slice none 0 0, .bool false] :: Ow.box b_1 24 #[.bool s_Exclude, vs_On, vs_Off] :: fr)) s_On s_Off kind r_1 vs_On vs_Off vr_1 hS hL_s_On hL_s_Off hL_2 hM) ?_
    rintro _ h_4 ⟨F_3, r_0_2, r_1_2, r_2_2, r_3_2, r_4_2, r_5_2, r_6_2, r_7_2, vr_1_2, vr_2_2, vr_3_2, vr_4_2, vr_6_2, rfl, hk, hS, _, _, _, hL_3, hM⟩
    replace hK := hK.trans hk
    replace hL_s_On := hL_s_On.kp hk
    replace hL_s_Off := hL_s_Off.kp hk
    replace hL_l := hL_l.kp hk
    replace hL_2 := hL_2.kp hk
    refine HO.sto (want_none) rfl (st_storeAgg (c' := #[.bool r_0_2, vr_1_2, vr_2_2, vr_3_2, vr_4_2, .bool r_5_2, vr_6_2, .bool r_7_2]) hS (i := 4) rfl ta_29 rfl rfl rfl (List.forall_mem_cons.2 ⟨rfl, (List.forall_mem_cons.2 ⟨(shp (hS.own 0 rfl).slice).one, (List.forall_mem_cons.2 ⟨(shp (hS.own 1 rfl).slice).one, (List.forall_mem_cons.2 ⟨(shp hL_3.is).one, (List.forall_mem_cons.2 ⟨(shp (hS.own 2 rfl).slice).one, (List.forall_mem_cons.2 ⟨rfl, (List.forall_mem_cons.2 ⟨(shp (hS.own 3 rfl).slice).one, (List.forall_mem_cons.2 ⟨rfl, (fun _ h => by cases h)⟩)⟩)⟩)⟩)⟩)⟩)⟩)⟩) (Nat.le_of_ble_eq_true rfl) rfl) ?_
    rintro h_5 ⟨hS, hk⟩
    replace hS : St F_3 (Ow.own 34 17 e_api_Addr vr_1_2 r_1_2 :: Ow.own 34 17 e_api_Addr vr_2_2 r_2_2 :: Ow.own 34 17 e_api_Addr vr_4_2 r_4_2 :: Ow.own 34 17 e_api_Addr vr_6_2 r_6_2 :: Ow.box b_2 29 #[.bool r_0_2, vr_1_2, vr_2_2, vr_3_2, vr_4_2, .bool r_5_2, vr_6_2, .bool r_7_2] :: Ow.box b_1 24 #[.bool s_Exclude, vs_On, vs_Off] :: fr) h_5 := hS
    replace hK := hK.trans hk
    replace hL_s_On := hL_s_On.kp hk
    replace hL_s_Off := hL_s_Off.kp hk
    replace hL_l := hL_l.kp hk
    replace hL_2 := hL_2.kp hk
    replace hL_3 := hL_3.kp hk
    refine HO.nil (thenQ_normal (?_))
    refine HW.ret (thenQ_ret (?_))
    refine ⟨.inr rfl, .agg #[.bool r_0_2, vr_1_2, vr_2_2, vr_3_2, vr_4_2, .bool r_5_2, vr_6_2, .bool r_7_2], res1 rfl (rca (cs := [.bool r_0_2, vr_1_2, vr_2_2, vr_3_2, vr_4_2, .bool r_5_2, vr_6_2, .bool r_7_2]) ta_29 rfl rfl (Blk.cells (k := 8) (hS.box 4 rfl) rfl)), ?_⟩
    replace hS : St F_3 (Ow.own 34 17 e_api_Addr vr_1_2 r_1_2 :: Ow.own 34 17 e_api_Addr vr_2_2 r_2_2 :: Ow.own 34 17 e_api_Addr vr_4_2 r_4_2 :: Ow.own 34 17 e_api_Addr vr_6_2 r_6_2 :: fr) h_5 := hS.perm2 [0, 1, 2, 3] 6 rfl rfl
    exact ⟨F_3, r_0_2, r_1_2, r_2_2, r_3_2, r_4_2, r_5_2, r_6_2, r_7_2, vr_1_2, vr_2_2, vr_3_2, vr_4_2, vr_6_2, rfl, hK, hS, hL_s_On, hL_s_Off, hL_l, hL_3, hM⟩
  · replace hM := hM.2 c_1
    refine HW.skip (thenQ_normal (?_))
    refine HW.seq ?_
    refine HW.region ?_
    refine HO.val (v := .pointer (some ⟨b_1, 1, none⟩)) (want_none) rfl (q_fieldAddr fa_24_1 rfl rfl) ?_
    refine HO.val (v := vs_On) (want_none) rfl (q_load to_22 rfl (Blk.cell (hS.box 2 rfl) rfl)) ?_
    refine HO.val (v := .int .i64 kind) (want_none) rfl (q_move rfl) ?_
    refine HO.val (v := vr_1) (want_none) rfl (q_move rfl) ?_
    obtain ⟨F_4, hS, hk, hL_4⟩ := hS.freezeOwn
    replace hK := hK.trans hk
    replace hL_s_On := hL_s_On.kp hk
    replace hL_s_Off := hL_s_Off.kp hk
    replace hL_l := hL_l.kp hk
    refine HO.call (want_none) rfl (ec en_32 rfl rfl) (filter_include_walk (fr := (Ow.box b_2 29 #[.bool false, .slice none 0 0, .slice none 0 0, .slice none 0 0, .slice none 0 0, .bool false, .slice none 0 0, .bool false] :: Ow.box b_1 24 #[.bool s_Exclude, vs_On, vs_Off] :: fr)) s_On kind r_1 vs_On vr_1 hS hL_s_On hL_4 hM) ?_
    rintro _ h_6 ⟨F_5, r_0_3, r_1_3, r_2_3, r_3_3, r_4_3, r_5_3, r_6_3, r_7_3, vr_1_3, vr_2_3, vr_3_3, vr_4_3, vr_6_3, rfl, hk, hS, _, _, hL_5, hM⟩
    replace hK := hK.trans hk
    replace hL_s_On := hL_s_On.kp hk
    replace hL_s_Off := hL_s_Off.kp hk
    replace hL_l := hL_l.kp hk
    replace hL_4 := hL_4.kp hk
    refine HO.sto (want_none) rfl (st_storeAgg (c' := #[.bool r_0_3, vr_1_3, vr_2_3, vr_3_3, vr_4_3, .bool r_5_3, vr_6_3, .bool r_7_3]) hS (i := 4) rfl ta_29 rfl rfl rfl (List.forall_mem_cons.2 ⟨rfl, (List.forall_mem_cons.2 ⟨(shp (hS.own 0 rfl).slice).one, (List.forall_mem_cons.2 ⟨(shp (hS.own 1 rfl).slice).one, (List.forall_mem_cons.2 ⟨(shp hL_5.is).one, (List.forall_mem_cons.2 ⟨(shp (hS.own 2 rfl).slice).one, (List.forall_mem_cons.2 ⟨rfl, (List.forall_mem_cons.2 ⟨(shp (hS.own 3 rfl).slice).one, (List.forall_mem_cons.2 ⟨rfl, (fun _ h => by cases h)⟩)⟩)⟩)⟩)⟩)⟩)⟩)⟩) (Nat.le_of_ble_eq_true rfl) rfl) ?_
    rintro h_7 ⟨hS, hk⟩
    replace hS : St F_5 (Ow.own 34 17 e_api_Addr vr_1_3 r_1_3 :: Ow.own 34 17 e_api_Addr vr_2_3 r_2_3 :: Ow.own 34 17 e_api_Addr vr_4_3 r_4_3 :: Ow.own 34 17 e_api_Addr vr_6_3 r_6_3 :: Ow.box b_2 29 #[.bool r_0_3, vr_1_3, vr_2_3, vr_3_3, vr_4_3, .bool r_5_3, vr_6_3, .bool r_7_3] :: Ow.box b_1 24 #[.bool s_Exclude, vs_On, vs_Off] :: fr) h_7 := hS
    replace hK := hK.trans hk
    replace hL_s_On := hL_s_On.kp hk
    replace hL_s_Off := hL_s_Off.kp hk
    replace hL_l := hL_l.kp hk
    replace hL_4 := hL_4.kp hk
    replace hL_5 := hL_5.kp hk
    refine HO.nil (thenQ_normal (?_))
    refine HW.ret (?_)
    refine ⟨.inr rfl, .agg #[.bool r_0_3, vr_1_3, vr_2_3, vr_3_3, vr_4_3, .bool r_5_3, vr_6_3, .bool r_7_3], res1 rfl (rca (cs := [.bool r_0_3, vr_1_3, vr_2_3, vr_3_3, vr_4_3, .bool r_5_3, vr_6_3, .bool r_7_3]) ta_29 rfl rfl (Blk.cells (k := 8) (hS.box 4 rfl) rfl)), ?_⟩
    replace hS : St F_5 (Ow.own 34 17 e_api_Addr vr_1_3 r_1_3 :: Ow.own 34 17 e_api_Addr vr_2_3 r_2_3 :: Ow.own 34 17 e_api_Addr vr_4_3 r_4_3 :: Ow.own 34 17 e_api_Addr vr_6_3 r_6_3 :: fr) h_7 := hS.perm2 [0, 1, 2, 3] 6 rfl rfl
    exact ⟨F_5, r_0_3, r_1_3, r_2_3, r_3_3, r_4_3, r_5_3, r_6_3, r_7_3, vr_1_3, vr_2_3, vr_3_3, vr_4_3, vr_6_3, rfl, hK, hS, hL_s_On, hL_s_Off, hL_l, hL_5, hM⟩

def slices_BinarySearchFunc_s_api_Addr_api_Addr_api_Addr_l1 (x : List T_api_Addr) (target : T_api_Addr) (cf_cmp : T_api_Addr → T_api_Addr → Int) (Q : Int → Bool → Prop) (K_1 : Int → Int → Prop) (i_1 : Int) (j_1 : Int) : Prop :=
  (i_1 < j_1 → (I64 (i_1 + j_1)) ∧ ((I64 ((IntKind.u64.wrap (i_1 + j_1)).fdiv (2 ^ (min (1 : Int).toNat IntKind.u64.bits)))) ∧ (((0 : Int) ≤ (IntKind.u64.wrap (i_1 + j_1)).fdiv (2 ^ (min (1 : Int).toNat IntKind.u64.bits)) ∧ (IntKind.u64.wrap (i_1 + j_1)).fdiv (2 ^ (min (1 : Int).toNat IntKind.u64.bits)) < (x.length : Int)) ∧ (((cf_cmp ((gi x ((IntKind.u64.wrap (i_1 + j_1)).fdiv (2 ^ (min (1 : Int).toNat IntKind.u64.bits)))).1, ((gi x ((IntKind.u64.wrap (i_1 + j_1)).fdiv (2 ^ (min (1 : Int).toNat IntKind.u64.bits)))).2)) target) < 0 → (I64 (((IntKind.u64.wrap (i_1 + j_1)).fdiv (2 ^ (min (1 : Int).toNat IntKind.u64.bits))) + 1)) ∧ (K_1 (((IntKind.u64.wrap (i_1 + j_1)).fdiv (2 ^ (min (1 : Int).toNat IntKind.u64.bits))) + 1) j_1)) ∧ (¬ ((cf_cmp ((gi x ((IntKind.u64.wrap (i_1 + j_1)).fdiv (2 ^ (min (1 : Int).toNat IntKind.u64.bits)))).1, ((gi x ((IntKind.u64.wrap (i_1 + j_1)).fdiv (2 ^ (min (1 : Int).toNat IntKind.u64.bits)))).2)) target) < 0) → K_1 i_1 ((IntKind.u64.wrap (i_1 + j_1)).fdiv (2 ^ (min (1 : Int).toNat IntKind.u64.bits)))))))) ∧ (¬ (i_1 < j_1) → (i_1 < (x.length : Int) → ((0 : Int) ≤ i_1 ∧ i_1 < (x.length : Int)) ∧ (Q i_1 (decide ((cf_cmp (gi x i_1) target) = 0)))) ∧ (¬ (i_1 < (x.length : Int)) → Q i_1 false))
def slices_BinarySearchFunc_s_api_Addr_api_Addr_api_Addr_W (x : List T_api_Addr) (target : T_api_Addr) (cf_cmp : T_api_Addr → T_api_Addr → Int) (Q : Int → Bool → Prop) : Prop :=
  loopW (fun (K_1 : (Int × Int) → Prop) (s : Int × Int) => slices_BinarySearchFunc_s_api_Addr_api_Addr_api_Addr_l1 x target cf_cmp Q (fun i_1 j_1 => K_1 (i_1, j_1)) s.1 s.2) (0, (x.length : Int))
set_option maxHeartbeats 40000000 in
set_option maxRecDepth 100000 in
theorem slices_BinarySearchFunc_s_api_Addr_api_Addr_api_Addr_walk {F : Fz} {fr : List Ow} {h0 : Heap} (x : List T_api_Addr) (target : T_api_Addr) (cf_cmp : T_api_Addr → T_api_Addr → Int) (vx : Value) (g_cmp : Nat) (fs_cmp : Array Value) (cs_cmp : Array Value) (hS : St F (fr) h0) (hL_x : SliceF F h0 17 e_api_Addr vx x) (hF_cf_cmp : FnP Try.prog F h0 g_cmp fs_cmp cs_cmp (fun x : T_api_Addr × T_api_Addr => [.agg (e_api_Addr x.1).toArray, .agg (e_api_Addr x.2).toArray]) (fun x => .int .i64 (cf_cmp x.1 x.2))) {Q : Int → Bool → Prop} (hM : slices_BinarySearchFunc_s_api_Addr_api_Addr_api_Addr_W x target cf_cmp Q) :
    HC Try.prog 52 #[vx, .agg (e_api_Addr target).toArray, .func (.func g_cmp) fs_cmp cs_cmp] h0 fun u h' => ∃ (F' : Fz) (r0_1 : Int) (r1_1 : Bool), u = .tuple #[.int .i64 r0_1, .bool r1_1] ∧ Kp F h0 F' h' ∧ St F' (fr) h' ∧ (SliceF F' h' 17 e_api_Addr vx x) ∧ (FnP Try.prog F' h' g_cmp fs_cmp cs_cmp (fun x : T_api_Addr × T_api_Addr => [.agg (e_api_Addr x.1).toArray, .agg (e_api_Addr x.2).toArray]) (fun x => .int .i64 (cf_cmp x.1 x.2))) ∧ Q r0_1 r1_1 := by
  unfold slices_BinarySearchFunc_s_api_Addr_api_Addr_api_Addr_W at hM
  have hK := Kp.refl F h0
  refine HC.of_HW (n := 49) Try.func52 rfl rfl (Nat.le_of_ble_eq_true rfl) ?_
  refine HW.seq ?_
  refine HW.region ?_
  refine HO.eff (want_none) rfl (st_box (c := (e_api_Addr target).toArray) (k' := 17) hS rfl rfl) ?_
  rintro _ h_1 ⟨b_1, rfl, hS, hk⟩
  replace hK := hK.trans hk
  replace hL_x := hL_x.kp hk
  replace hF_cf_cmp := hF_cf_cmp.kp hk
  refine HO.val (v := .int .i64 0) (want_none) rfl (q_assign rfl) ?_
  refine HO.val (v := .bool false) (want_none) rfl (q_assign rfl) ?_
  refine HO.nil (thenQ_normal (?_))
  refine HW.seq ?_
  refine HW.region ?_
  refine HO.val (v := vx) (want_none) rfl (q_move rfl) ?_
  refine HO.val (v := .int .i64 (x.length : Int)) (want_none) rfl (q_len ts_22 (shp hL_x.is) rfl rfl) ?_
  refine HO.val (v := .int .i64 (x.length : Int)) (want_none) rfl (q_assign rfl) ?_
  refine HO.nil (thenQ_normal (?_))
  refine HW.seq ?_
  refine HW.region ?_
  refine HO.val (v := .int .i64 (x.length : Int)) (want_none) rfl (q_move rfl) ?_
  refine HO.val (v := .int .i64 0) (want_none) rfl (q_assign rfl) ?_
  refine HO.val (v := .int .i64 (x.length : Int)) (want_none) rfl (q_assign rfl) ?_
  refine HO.nil (thenQ_normal (?_))
  refine HW.seq ?_
  refine HW.block ?_
  obtain ⟨I_1, m_1, hI_1, hR_1⟩ := hM
  refine HW.loop (S := Int × Int) (fun s f h => match s with | (i_1, j_1) => ∃ (F' : Fz), f 0 = vx ∧ f 2 = .func (.func g_cmp) fs_cmp cs_cmp ∧ f 4 = .pointer (some ⟨b_1, 0, none⟩) ∧ f 6 = .int .i64 0 ∧ f 7 = .bool false ∧ f 8 = .int .i64 (x.length : Int) ∧ f 9 = .int .i64 i_1 ∧ f 10 = .int .i64 j_1 ∧ Kp F h0 F' h ∧ St F' (Ow.box b_1 34 (e_api_Addr target).toArray :: fr) h ∧ (SliceF F' h 17 e_api_Addr vx x) ∧ (FnP Try.prog F' h g_cmp fs_cmp cs_cmp (fun x : T_api_Addr × T_api_Addr => [.agg (e_api_Addr x.1).toArray, .agg (e_api_Addr x.2).toArray]) (fun x => .int .i64 (cf_cmp x.1 x.2))) ∧ I_1 (i_1, j_1)) m_1 (0, (x.length : Int)) ⟨F, rfl, rfl, rfl, rfl, rfl, rfl, rfl, rfl, hK, hS, hL_x, hF_cf_cmp, hI_1⟩ ?_
  rintro ⟨i_1, j_1⟩ f_1 h_2 ⟨F_1, e0, e2, e4, e6, e7, e8, e9, e10, hK, hS, hL_x, hF_cf_cmp, hI0⟩
  obtain ⟨K_1, hKe_1⟩ : ∃ K : Int → Int → Prop, K = fun i_1' j_1' => I_1 (i_1', j_1') ∧ m_1 (i_1', j_1') < m_1 (i_1, j_1) := ⟨_, rfl⟩
  have hM : slices_BinarySearchFunc_s_api_Addr_api_Addr_api_Addr_l1 x target cf_cmp Q K_1 i_1 j_1 := by rw [hKe_1]; exact hR_1 (i_1, j_1) hI0
  unfold slices_BinarySearchFunc_s_api_Addr_api_Addr_api_Addr_l1 at hM
  refine HW.fr [(0, vx), (2, .func (.func g_cmp) fs_cmp cs_cmp), (4, .pointer (some ⟨b_1, 0, none⟩)), (6, .int .i64 0), (7, .bool false), (8, .int .i64 (x.length : Int)), (9, .int .i64 i_1), (10, .int .i64 j_1)] ⟨e0, e2, e4, e6, e7, e8, e9, e10, trivial⟩ ?_
  refine HW.seq ?_
  refine HW.seq ?_
  refine HW.region ?_
  refine HO.val (v := .int .i64 i_1) (want_none) rfl (q_move rfl) ?_
  refine HO.val (v := .int .i64 j_1) (want_none) rfl (q_move rfl) ?_
  refine HO.val (v := .bool (decide (i_1 < j_1))) (want_none) rfl (q_lss rfl rfl) ?_
  refine HO.nil (thenQ_normal (?_))
  refine HW.cond (decide (i_1 < j_1)) rfl (fun c_1 => ?_) (fun c_1 => ?_)
  · replace hM := hM.1 (of_decide_eq_true c_1)
    refine HW.skip (thenQ_normal (?_))
    refine HW.block ?_
    refine HW.seq ?_
    refine HW.region ?_
    refine HO.val (v := .int .i64 i_1) (want_none) rfl (q_move rfl) ?_
    refine HO.val (v := .int .i64 j_1) (want_none) rfl (q_move rfl) ?_
    obtain ⟨ho_1, hM⟩ := hM
    refine HO.val (v := .int .i64 (i_1 + j_1)) (want_none) rfl (q_addN _ rfl rfl rfl ho_1.1 ho_1.2) ?_
    refine HO.val (v := .int .u64 (IntKind.u64.wrap (i_1 + j_1))) (want_none) rfl (q_convInt Try.underlying3 Try.underlying63 rfl rfl) ?_
    refine HO.val (v := .int .u64 ((IntKind.u64.wrap (i_1 + j_1)).fdiv (2 ^ (min (1 : Int).toNat IntKind.u64.bits)))) (want_none) rfl (q_shr rfl rfl (by decide) rfl) ?_
    obtain ⟨ho_2, hM⟩ := hM
    refine HO.val (v := .int .i64 ((IntKind.u64.wrap (i_1 + j_1)).fdiv (2 ^ (min (1 : Int).toNat IntKind.u64.bits)))) (want_none) rfl (q_convInt Try.underlying63 Try.underlying3 rfl (wrap_i64 ho_2.1 ho_2.2)) ?_
    refine HO.val (v := .int .i64 ((IntKind.u64.wrap (i_1 + j_1)).fdiv (2 ^ (min (1 : Int).toNat IntKind.u64.bits)))) (want_none) rfl (q_assign rfl) ?_
    refine HO.nil (thenQ_normal (?_))
    refine HW.seq ?_
    refine HW.regionA 8 mixed (fun h => (SliceIs h 17 e_api_Addr vx x) ∧ (Blk h b_1 (.cells (e_api_Addr target).toArray 34 (0, 0)))) [] (by kernel_rfl) ?_
    refine HA.val (k := 0) (v := .func (.func g_cmp) fs_cmp cs_cmp) rfl rfl (by kernel_rfl) (by kernel_rfl) (want_none) rfl (fun _ ⟨hL_x, c302⟩ => q_move rfl) ?_
    refine HA.val (k := 1) (v := vx) rfl rfl (by kernel_rfl) (by kernel_rfl) (want_none) rfl (fun _ ⟨hL_x, c302⟩ => q_move rfl) ?_
    refine HA.val (k := 2) (v := .int .i64 ((IntKind.u64.wrap (i_1 + j_1)).fdiv (2 ^ (min (1 : Int).toNat IntKind.u64.bits)))) rfl rfl (by kernel_rfl) (by kernel_rfl) (want_none) rfl (fun _ ⟨hL_x, c302⟩ => q_move rfl) ?_
    obtain ⟨ho_3, hM⟩ := hM
    refine HA.val (k := 3) (v := elemPtr 17 vx ((IntKind.u64.wrap (i_1 + j_1)).fdiv (2 ^ (min (1 : Int).toNat IntKind.u64.bits))).toNat) rfl rfl (by kernel_rfl) (by kernel_rfl) (want_none) rfl (fun _ ⟨hL_x, c302⟩ => q_idx ts_22 hL_x rfl rfl ho_3) ?_
    refine HA.val (k := 4) (v := .agg (e_api_Addr ((gi x ((IntKind.u64.wrap (i_1 + j_1)).fdiv (2 ^ (min (1 : Int).toNat IntKind.u64.bits)))).1, ((gi x ((IntKind.u64.wrap (i_1 + j_1)).fdiv (2 ^ (min (1 : Int).toNat IntKind.u64.bits)))).2))).toArray) rfl rfl (by kernel_rfl) (by kernel_rfl) (want_none) rfl (fun _ ⟨hL_x, c302⟩ => q_ldElemAgg (cs := (e_api_Addr ((gi x ((IntKind.u64.wrap (i_1 + j_1)).fdiv (2 ^ (min (1 : Int).toNat IntKind.u64.bits)))).1, ((gi x ((IntKind.u64.wrap (i_1 + j_1)).fdiv (2 ^ (min (1 : Int).toNat IntKind.u64.bits)))).2)))) ta_34 hL_x rfl ho_3 rfl) ?_
    refine HA.val (k := 5) (v := .agg (e_api_Addr target).toArray) rfl rfl (by kernel_rfl) (by kernel_rfl) (want_none) rfl (fun _ ⟨hL_x, c302⟩ => q_loadAgg (cs := (e_api_Addr target)) ta_34 rfl rfl (Blk.cells (k := 17) c302 rfl)) ?_
    refine HA.one (k := 6) ⟨⟨hL_x.is, (hS.box 0 rfl)⟩, (Go.Wk.at_nil _ _)⟩ (by kernel_rfl) ?_
    refine HS.call rfl (want_none) rfl (hF_cf_cmp.ec (((gi x ((IntKind.u64.wrap (i_1 + j_1)).fdiv (2 ^ (min (1 : Int).toNat IntKind.u64.bits)))).1, ((gi x ((IntKind.u64.wrap (i_1 + j_1)).fdiv (2 ^ (min (1 : Int).toNat IntKind.u64.bits)))).2)), target) rfl rfl) (hF_cf_cmp.hc (((gi x ((IntKind.u64.wrap (i_1 + j_1)).fdiv (2 ^ (min (1 : Int).toNat IntKind.u64.bits)))).1, ((gi x ((IntKind.u64.wrap (i_1 + j_1)).fdiv (2 ^ (min (1 : Int).toNat IntKind.u64.bits)))).2)), target) hS) ?_
    rintro _ h_3 ⟨rfl, hS, hk⟩
    replace hK := hK.trans hk
    replace hL_x := hL_x.kp hk
    replace hF_cf_cmp := hF_cf_cmp.kp hk
    refine HA.val (k := 7) (v := .bool (decide ((cf_cmp ((gi x ((IntKind.u64.wrap (i_1 + j_1)).fdiv (2 ^ (min (1 : Int).toNat IntKind.u64.bits)))).1, ((gi x ((IntKind.u64.wrap (i_1 + j_1)).fdiv (2 ^ (min (1 : Int).toNat IntKind.u64.bits)))).2)) target) < 0))) rfl rfl (by kernel_rfl) (by kernel_rfl) (want_none) rfl (fun _ ⟨hL_x, c302⟩ => q_lss rfl rfl) ?_
    refine HA.nil ⟨⟨hL_x.is, (hS.box 0 rfl)⟩, (Go.Wk.at_nil _ _)⟩ (by kernel_rfl) (thenQ_normal (?_))
    refine HW.cond (decide ((cf_cmp ((gi x ((IntKind.u64.wrap (i_1 + j_1)).fdiv (2 ^ (min (1 : Int).toNat IntKind.u64.bits)))).1, ((gi x ((IntKind.u64.wrap (i_1 + j_1)).fdiv (2 ^ (min (1 : Int).toNat IntKind.u64.bits)))).2)) target) < 0)) rfl (fun c_2 => ?_) (fun c_2 => ?_)
    · replace hM := hM.1 (of_decide_eq_true c_2)
      refine HW.region ?_
      refine HO.val (v := .int .i64 ((IntKind.u64.wrap (i_1 + j_1)).fdiv (2 ^ (min (1 : Int).toNat IntKind.u64.bits)))) (want_none) rfl (q_move rfl) ?_
      obtain ⟨ho_4, hM⟩ := hM
      refine HO.val (v := .int .i64 (((IntKind.u64.wrap (i_1 + j_1)).fdiv (2 ^ (min (1 : Int).toNat IntKind.u64.bits))) + 1)) (want_none) rfl (q_addN _ rfl rfl rfl ho_4.1 ho_4.2) ?_
      refine HO.val (v := .int .i64 (((IntKind.u64.wrap (i_1 + j_1)).fdiv (2 ^ (min (1 : Int).toNat IntKind.u64.bits))) + 1)) (want_none) rfl (q_assign rfl) ?_
      refine HO.nil (blockQ_normal (thenQ_normal (?_)))
      rw [hKe_1] at hM
      exact ⟨(((IntKind.u64.wrap (i_1 + j_1)).fdiv (2 ^ (min (1 : Int).toNat IntKind.u64.bits))) + 1, j_1), ⟨F_1, rfl, rfl, rfl, rfl, rfl, rfl, rfl, rfl, hK, hS, hL_x, hF_cf_cmp, hM.1⟩, hM.2⟩
    · replace hM := hM.2 (of_decide_eq_false c_2)
      refine HW.region ?_
      refine HO.val (v := .int .i64 ((IntKind.u64.wrap (i_1 + j_1)).fdiv (2 ^ (min (1 : Int).toNat IntKind.u64.bits)))) (want_none) rfl (q_move rfl) ?_
      refine HO.val (v := .int .i64 ((IntKind.u64.wrap (i_1 + j_1)).fdiv (2 ^ (min (1 : Int).toNat IntKind.u64.bits)))) (want_none) rfl (q_assign rfl) ?_
      refine HO.nil (blockQ_normal (thenQ_normal (?_)))
      rw [hKe_1] at hM
      exact ⟨(i_1, (IntKind.u64.wrap (i_1 + j_1)).fdiv (2 ^ (min (1 : Int).toNat IntKind.u64.bits))), ⟨F_1, rfl, rfl, rfl, rfl, rfl, rfl, rfl, rfl, hK, hS, hL_x, hF_cf_cmp, hM.1⟩, hM.2⟩
  · replace hM := hM.2 (of_decide_eq_false c_1)
    refine HW.exit (thenQ_exit (thenQ_exit (blockQ_exit (thenQ_normal (?_)))))
    refine HW.seq ?_
    refine HW.regionA 16 mixed (fun h => (SliceIs h 17 e_api_Addr vx x) ∧ (Blk h b_1 (.cells (e_api_Addr target).toArray 34 (0, 0)))) [] (by kernel_rfl) ?_
    refine HA.val (k := 0) (v := .int .i64 i_1) rfl rfl (by kernel_rfl) (by kernel_rfl) (want_none) rfl (fun _ ⟨hL_x, c302⟩ => q_move rfl) ?_
    refine HA.val (k := 1) (v := .int .i64 i_1) rfl rfl (by kernel_rfl) (by kernel_rfl) (want_none) rfl (fun _ ⟨hL_x, c302⟩ => q_move rfl) ?_
    refine HA.val (k := 2) (v := .int .i64 (x.length : Int)) rfl rfl (by kernel_rfl) (by kernel_rfl) (want_none) rfl (fun _ ⟨hL_x, c302⟩ => q_move rfl) ?_
    refine HA.val (k := 3) (v := .bool (decide (i_1 < (x.length : Int)))) rfl rfl (by kernel_rfl) (by kernel_rfl) (want_none) rfl (fun _ ⟨hL_x, c302⟩ => q_lss rfl rfl) ?_
    refine HA.val (k := 4) (v := .bool (decide (i_1 < (x.length : Int)))) rfl rfl (by kernel_rfl) (by kernel_rfl) (want_none) rfl (fun _ ⟨hL_x, c302⟩ => q_move rfl) ?_
    rcases Bool.eq_false_or_eq_true (decide (i_1 < (x.length : Int))) with c_3 | c_3
    · replace hM := hM.1 (of_decide_eq_true c_3)
      refine HA.val (k := 5) (v := .func (.func g_cmp) fs_cmp cs_cmp) rfl rfl (by kernel_rfl) (by kernel_rfl) (want_by rfl rfl c_3) rfl (fun _ ⟨hL_x, c302⟩ => q_move rfl) ?_
      refine HA.val (k := 6) (v := vx) rfl rfl (by kernel_rfl) (by kernel_rfl) (want_by rfl rfl c_3) rfl (fun _ ⟨hL_x, c302⟩ => q_move rfl) ?_
      refine HA.val (k := 7) (v := .int .i64 i_1) rfl rfl (by kernel_rfl) (by kernel_rfl) (want_by rfl rfl c_3) rfl (fun _ ⟨hL_x, c302⟩ => q_move rfl) ?_
      obtain ⟨ho_5, hM⟩ := hM
      refine HA.val (k := 8) (v := elemPtr 17 vx (i_1).toNat) rfl rfl (by kernel_rfl) (by kernel_rfl) (want_by rfl rfl c_3) rfl (fun _ ⟨hL_x, c302⟩ => q_idx ts_22 hL_x rfl rfl ho_5) ?_
      refine HA.val (k := 9) (v := .agg (e_api_Addr (gi x i_1)).toArray) rfl rfl (by kernel_rfl) (by kernel_rfl) (want_by rfl rfl c_3) rfl (fun _ ⟨hL_x, c302⟩ => q_ldElemAgg (cs := (e_api_Addr (gi x i_1))) ta_34 hL_x rfl ho_5 rfl) ?_
      refine HA.val (k := 10) (v := .agg (e_api_Addr target).toArray) rfl rfl (by kernel_rfl) (by kernel_rfl) (want_by rfl rfl c_3) rfl (fun _ ⟨hL_x, c302⟩ => q_loadAgg (cs := (e_api_Addr target)) ta_34 rfl rfl (Blk.cells (k := 17) c302 rfl)) ?_
      refine HA.one (k := 11) ⟨⟨hL_x.is, (hS.box 0 rfl)⟩, (Go.Wk.at_nil _ _)⟩ (by kernel_rfl) ?_
      refine HS.call rfl (want_by rfl rfl c_3) rfl (hF_cf_cmp.ec ((gi x i_1), target) rfl rfl) (hF_cf_cmp.hc ((gi x i_1), target) hS) ?_
      rintro _ h_4 ⟨rfl, hS, hk⟩
      replace hK := hK.trans hk
      replace hL_x := hL_x.kp hk
      replace hF_cf_cmp := hF_cf_cmp.kp hk
      refine HA.val (k := 12) (v := .bool (decide ((cf_cmp (gi x i_1) target) = 0))) rfl rfl (by kernel_rfl) (by kernel_rfl) (want_by rfl rfl c_3) rfl (fun _ ⟨hL_x, c302⟩ => q_eql rfl rfl) ?_
      refine HA.val (k := 13) (v := .bool (decide ((cf_cmp (gi x i_1) target) = 0))) rfl rfl (by kernel_rfl) (by kernel_rfl) (want_none) rfl (fun _ ⟨hL_x, c302⟩ => q_pickK true rfl c_3 rfl) ?_
      refine HA.val (k := 14) (v := .int .i64 i_1) rfl rfl (by kernel_rfl) (by kernel_rfl) (want_none) rfl (fun _ ⟨hL_x, c302⟩ => q_assign rfl) ?_
      refine HA.val (k := 15) (v := .bool (decide ((cf_cmp (gi x i_1) target) = 0))) rfl rfl (by kernel_rfl) (by kernel_rfl) (want_none) rfl (fun _ ⟨hL_x, c302⟩ => q_assign rfl) ?_
      refine HA.nil ⟨⟨hL_x.is, (hS.box 0 rfl)⟩, (Go.Wk.at_nil _ _)⟩ (by kernel_rfl) (thenQ_normal (?_))
      refine HW.ret (?_)
      refine ⟨.inr rfl, .tuple #[.int .i64 i_1, .bool (decide ((cf_cmp (gi x i_1) target) = 0))], res2 rfl (rt rfl) (rt rfl), ?_⟩
      replace hS : St F_1 (fr) h_4 := hS.perm2 [] 1 rfl rfl
      exact ⟨F_1, i_1, decide ((cf_cmp (gi x i_1) target) = 0), rfl, hK, hS, hL_x, hF_cf_cmp, hM⟩
    · replace hM := hM.2 (of_decide_eq_false c_3)
      refine HA.past (k := 5) rfl rfl (by kernel_rfl) (by kernel_rfl) (past_by rfl rfl c_3) rfl ?_
      refine HA.past (k := 6) rfl rfl (by kernel_rfl) (by kernel_rfl) (past_by rfl rfl c_3) rfl ?_
      refine HA.past (k := 7) rfl rfl (by kernel_rfl) (by kernel_rfl) (past_by rfl rfl c_3) rfl ?_
      refine HA.past (k := 8) rfl rfl (by kernel_rfl) (by kernel_rfl) (past_by rfl rfl c_3) rfl ?_
      refine HA.past (k := 9) rfl rfl (by kernel_rfl) (by kernel_rfl) (past_by rfl rfl c_3) rfl ?_
      refine HA.past (k := 10) rfl rfl (by kernel_rfl) (by kernel_rfl) (past_by rfl rfl c_3) rfl ?_
      refine HA.one (k := 11) ⟨⟨hL_x.is, (hS.box 0 rfl)⟩, (Go.Wk.at_nil _ _)⟩ (by kernel_rfl) ?_
      refine HS.past rfl (past_by rfl rfl c_3) rfl ?_
      refine HA.past (k := 12) rfl rfl (by kernel_rfl) (by kernel_rfl) (past_by rfl rfl c_3) rfl ?_
      refine HA.val (k := 13) (v := .bool false) rfl rfl (by kernel_rfl) (by kernel_rfl) (want_none) rfl (fun _ ⟨hL_x, c302⟩ => q_pickK false rfl c_3 rfl) ?_
      refine HA.val (k := 14) (v := .int .i64 i_1) rfl rfl (by kernel_rfl) (by kernel_rfl) (want_none) rfl (fun _ ⟨hL_x, c302⟩ => q_assign rfl) ?_
      refine HA.val (k := 15) (v := .bool false) rfl rfl (by kernel_rfl) (by kernel_rfl) (want_none) rfl (fun _ ⟨hL_x, c302⟩ => q_assign rfl) ?_
      refine HA.nil ⟨⟨hL_x.is, (hS.box 0 rfl)⟩, (Go.Wk.at_nil _ _)⟩ (by kernel_rfl) (thenQ_normal (?_))
      refine HW.ret (?_)
      refine ⟨.inr rfl, .tuple #[.int .i64 i_1, .bool false], res2 rfl (rt rfl) (rt rfl), ?_⟩
      replace hS : St F_1 (fr) h_2 := hS.perm2 [] 1 rfl rfl
      exact ⟨F_1, i_1, false, rfl, hK, hS, hL_x, hF_cf_cmp, hM⟩

def srcs_Has_W (l : List T_api_Addr) (a : T_api_Addr) (Q : Bool → Prop) : Prop :=
  ∃ cf_1 : T_api_Addr → T_api_Addr → Int, (∀ x0 x1, addr_Cmp_W x0 x1 (fun r => r = cf_1 x0 x1)) ∧ (slices_BinarySearchFunc_s_api_Addr_api_Addr_api_Addr_W l a cf_1 (fun r0_1 r1_1 => (r1_1 = true → ((0 : Int) ≤ r0_1 ∧ r0_1 < (l.length : Int)) ∧ (Q (decide (((gi l r0_1) : T_api_Addr) = a)))) ∧ (r1_1 = false → Q false)))
set_option maxHeartbeats 40000000 in
set_option maxRecDepth 100000 in
theorem srcs_Has_walk {F : Fz} {fr : List Ow} {h0 : Heap} (l : List T_api_Addr) (a : T_api_Addr) (vl : Value) (hS : St F (fr) h0) (hL_l : SliceF F h0 17 e_api_Addr vl l) {Q : Bool → Prop} (hM : srcs_Has_W l a Q) :
    HC Try.prog 33 #[vl, .agg (e_api_Addr a).toArray] h0 fun u h' => ∃ (F' : Fz) (r_1 : Bool), u = .bool r_1 ∧ Kp F h0 F' h' ∧ St F' (fr) h' ∧ (SliceF F' h' 17 e_api_Addr vl l) ∧ Q r_1 := by
  unfold srcs_Has_W at hM
  have hK := Kp.refl F h0
  refine HC.of_HW (n := 22) Try.func33 rfl rfl (Nat.le_of_ble_eq_true rfl) ?_
  refine HW.seq ?_
  refine HW.region ?_
  refine HO.eff (want_none) rfl (st_box (c := (e_api_Addr a).toArray) (k' := 17) hS rfl rfl) ?_
  rintro _ h_1 ⟨b_1, rfl, hS, hk⟩
  replace hK := hK.trans hk
  replace hL_l := hL_l.kp hk
  refine HO.val (v := .bool false) (want_none) rfl (q_assign rfl) ?_
  refine HO.nil (thenQ_normal (?_))
  refine HW.seq ?_
  refine HW.region ?_
  refine HO.val (v := vl) (want_none) rfl (q_move rfl) ?_
  refine HO.val (v := .agg (e_api_Addr a).toArray) (want_none) rfl (q_loadAgg (cs := (e_api_Addr a)) ta_34 rfl rfl (Blk.cells (k := 17) (hS.box 0 rfl) rfl)) ?_
  obtain ⟨cf_1, hc_1, hM⟩ := hM
  have hF_1 : FnP Try.prog F h_1 50 #[] #[] (fun x : T_api_Addr × T_api_Addr => [.agg (e_api_Addr x.1).toArray, .agg (e_api_Addr x.2).toArray]) (fun x => .int .i64 (cf_1 x.1 x.2)) := FnP.of en_50 (fun x h' hk_ => @HC.mono ⟨true⟩ _ _ _ _ _ _ (@addr_Cmp_walk ⟨true⟩ (allF h') [] h' x.1 x.2  (St.init h')  (fun r => r = cf_1 x.1 x.2) (hc_1 x.1 x.2)) (fun u h'' ⟨F', r, hu, k_, _, hr⟩ => ⟨by rw [hu, hr], F', k_⟩))
  refine HO.call (want_none) rfl (ec en_52 rfl rfl) (slices_BinarySearchFunc_s_api_Addr_api_Addr_api_Addr_walk (fr := (Ow.box b_1 34 (e_api_Addr a).toArray :: fr)) l a cf_1 vl 50 (#[]) (#[]) hS hL_l hF_1 hM) ?_
  rintro _ h_2 ⟨F_1, r0_1, r1_1, rfl, hk, hS, _, _, hM⟩
  replace hK := hK.trans hk
  replace hL_l := hL_l.kp hk
  replace hF_1 := hF_1.kp hk
  refine HO.val (v := .tuple #[.int .i64 r0_1, .bool r1_1]) (want_none) rfl (q_move rfl) ?_
  refine HO.val (v := .int .i64 r0_1) (want_none) rfl (q_extract rfl rfl) ?_
  refine HO.val (v := .bool r1_1) (want_none) rfl (q_extract rfl rfl) ?_
  refine HO.val (v := .int .i64 r0_1) (want_none) rfl (q_assign rfl) ?_
  refine HO.val (v := .bool r1_1) (want_none) rfl (q_assign rfl) ?_
  refine HO.nil (thenQ_normal (?_))
  refine HW.seq ?_
  refine HW.regionA 10 mixed (fun h => (SliceIs h 17 e_api_Addr vl l) ∧ (True) ∧ (Blk h b_1 (.cells (e_api_Addr a).toArray 34 (0, 0)))) [] (by kernel_rfl) ?_
  refine HA.val (k := 0) (v := .bool r1_1) rfl rfl (by kernel_rfl) (by kernel_rfl) (want_none) rfl (fun _ ⟨hL_l, hF_1, c201⟩ => q_move rfl) ?_
  refine HA.val (k := 1) (v := .bool r1_1) rfl rfl (by kernel_rfl) (by kernel_rfl) (want_none) rfl (fun _ ⟨hL_l, hF_1, c201⟩ => q_move rfl) ?_
  rcases Bool.eq_false_or_eq_true r1_1 with c_1 | c_1
  · replace hM := hM.1 c_1
    refine HA.val (k := 2) (v := vl) rfl rfl (by kernel_rfl) (by kernel_rfl) (want_by rfl rfl c_1) rfl (fun _ ⟨hL_l, hF_1, c201⟩ => q_move rfl) ?_
    refine HA.val (k := 3) (v := .int .i64 r0_1) rfl rfl (by kernel_rfl) (by kernel_rfl) (want_by rfl rfl c_1) rfl (fun _ ⟨hL_l, hF_1, c201⟩ => q_move rfl) ?_
    obtain ⟨ho_1, hM⟩ := hM
    refine HA.val (k := 4) (v := elemPtr 17 vl (r0_1).toNat) rfl rfl (by kernel_rfl) (by kernel_rfl) (want_by rfl rfl c_1) rfl (fun _ ⟨hL_l, hF_1, c201⟩ => q_idx ts_22 hL_l rfl rfl ho_1) ?_
    refine HA.val (k := 5) (v := .agg (e_api_Addr (gi l r0_1)).toArray) rfl rfl (by kernel_rfl) (by kernel_rfl) (want_by rfl rfl c_1) rfl (fun _ ⟨hL_l, hF_1, c201⟩ => q_ldElemAgg (cs := (e_api_Addr (gi l r0_1))) ta_34 hL_l rfl ho_1 rfl) ?_
    refine HA.val (k := 6) (v := .agg (e_api_Addr a).toArray) rfl rfl (by kernel_rfl) (by kernel_rfl) (want_by rfl rfl c_1) rfl (fun _ ⟨hL_l, hF_1, c201⟩ => q_loadAgg (cs := (e_api_Addr a)) ta_34 rfl rfl (Blk.cells (k := 17) c201 rfl)) ?_
    refine HA.val (k := 7) (v := .bool (decide (((gi l r0_1) : T_api_Addr) = a))) rfl rfl (by kernel_rfl) (by kernel_rfl) (want_by rfl rfl c_1) rfl (fun _ ⟨hL_l, hF_1, c201⟩ => q_eqlAgg (a := (gi l r0_1)) (b := a) (fun a b w => teq_34 9997 a b w) (by kernel_rfl) rfl rfl rfl rfl) ?_
    refine HA.val (k := 8) (v := .bool (decide (((gi l r0_1) : T_api_Addr) = a))) rfl rfl (by kernel_rfl) (by kernel_rfl) (want_none) rfl (fun _ ⟨hL_l, hF_1, c201⟩ => q_pickK true rfl c_1 rfl) ?_
    refine HA.val (k := 9) (v := .bool (decide (((gi l r0_1) : T_api_Addr) = a))) rfl rfl (by kernel_rfl) (by kernel_rfl) (want_none) rfl (fun _ ⟨hL_l, hF_1, c201⟩ => q_assign rfl) ?_
    refine HA.nil ⟨⟨hL_l.is, trivial, (hS.box 0 rfl)⟩, (Go.Wk.at_nil _ _)⟩ (by kernel_rfl) (thenQ_normal (?_))
    refine HW.ret (?_)
    refine ⟨.inr rfl, .bool (decide (((gi l r0_1) : T_api_Addr) = a)), res1 rfl (rt rfl), ?_⟩
    replace hS : St F_1 (fr) h_2 := hS.perm2 [] 1 rfl rfl
    exact ⟨F_1, decide (((gi l r0_1) : T_api_Addr) = a), rfl, hK, hS, hL_l, hM⟩
  · replace hM := hM.2 c_1
    refine HA.past (k := 2) rfl rfl (by kernel_rfl) (by kernel_rfl) (past_by rfl rfl c_1) rfl ?_
    refine HA.past (k := 3) rfl rfl (by kernel_rfl) (by kernel_rfl) (past_by rfl rfl c_1) rfl ?_
    refine HA.past (k := 4) rfl rfl (by kernel_rfl) (by kernel_rfl) (past_by rfl rfl c_1) rfl ?_
    refine HA.past (k := 5) rfl rfl (by kernel_rfl) (by kernel_rfl) (past_by rfl rfl c_1) rfl ?_
    refine HA.past (k := 6) rfl rfl (by kernel_rfl) (by kernel_rfl) (past_by rfl rfl c_1) rfl ?_
    refine HA.past (k := 7) rfl rfl (by kernel_rfl) (by kernel_rfl) (past_by rfl rfl c_1) rfl ?_
    refine HA.val (k := 8) (v := .bool false) rfl rfl (by kernel_rfl) (by kernel_rfl) (want_none) rfl (fun _ ⟨hL_l, hF_1, c201⟩ => q_pickK false rfl c_1 rfl) ?_
    refine HA.val (k := 9) (v := .bool false) rfl rfl (by kernel_rfl) (by kernel_rfl) (want_none) rfl (fun _ ⟨hL_l, hF_1, c201⟩ => q_assign rfl) ?_
    refine HA.nil ⟨⟨hL_l.is, trivial, (hS.box 0 rfl)⟩, (Go.Wk.at_nil _ _)⟩ (by kernel_rfl) (thenQ_normal (?_))
    refine HW.ret (?_)
    refine ⟨.inr rfl, .bool false, res1 rfl (rt rfl), ?_⟩
    replace hS : St F_1 (fr) h_2 := hS.perm2 [] 1 rfl rfl
    exact ⟨F_1, false, rfl, hK, hS, hL_l, hM⟩

def filter_Lets_W (s_Exclude : Bool) (s_On : List T_api_Addr) (s_Off : List T_api_Addr) (a : T_api_Addr) (Q : Bool → Prop) : Prop :=
  (s_Exclude = true → srcs_Has_W s_Off a (fun r_2 => Q (!r_2))) ∧ (s_Exclude = false → srcs_Has_W s_On a (fun r_3 => Q r_3))
set_option maxHeartbeats 40000000 in
set_option maxRecDepth 100000 in
theorem filter_Lets_walk {F : Fz} {fr : List Ow} {h0 : Heap} (s_Exclude : Bool) (s_On : List T_api_Addr) (s_Off : List T_api_Addr) (a : T_api_Addr) (vs_On : Value) (vs_Off : Value) (hS : St F (fr) h0) (hL_s_On : SliceF F h0 17 e_api_Addr vs_On s_On) (hL_s_Off : SliceF F h0 17 e_api_Addr vs_Off s_Off) {Q : Bool → Prop} (hM : filter_Lets_W s_Exclude s_On s_Off a Q) :
    HC Try.prog 11 #[.agg #[.bool s_Exclude, vs_On, vs_Off], .agg (e_api_Addr a).toArray] h0 fun u h' => ∃ (F' : Fz) (r_1 : Bool), u = .bool r_1 ∧ Kp F h0 F' h' ∧ St F' (fr) h' ∧ (SliceF F' h' 17 e_api_Addr vs_On s_On) ∧ (SliceF F' h' 17 e_api_Addr vs_Off s_Off) ∧ Q r_1 := by
  unfold filter_Lets_W at hM
  have hK := Kp.refl F h0
  refine HC.of_HW (n := 16) Try.func11 rfl rfl (Nat.le_of_ble_eq_true rfl) ?_
  refine HW.seq ?_
  refine HW.region ?_
  refine HO.eff (want_none) rfl (st_box (c := #[.bool s_Exclude, vs_On, vs_Off]) (k' := 3) hS rfl rfl) ?_
  rintro _ h_1 ⟨b_1, rfl, hS, hk⟩
  replace hK := hK.trans hk
  replace hL_s_On := hL_s_On.kp hk
  replace hL_s_Off := hL_s_Off.kp hk
  refine HO.eff (want_none) rfl (st_box (c := (e_api_Addr a).toArray) (k' := 17) hS rfl rfl) ?_
  rintro _ h_2 ⟨b_2, rfl, hS, hk⟩
  replace hK := hK.trans hk
  replace hL_s_On := hL_s_On.kp hk
  replace hL_s_Off := hL_s_Off.kp hk
  refine HO.val (v := .bool false) (want_none) rfl (q_assign rfl) ?_
  refine HO.nil (thenQ_normal (?_))
  refine HW.seq ?_
  refine HW.seq ?_
  refine HW.region ?_
  refine HO.val (v := .pointer (some ⟨b_1, 0, none⟩)) (want_none) rfl (q_fieldAddr fa_24_0 rfl rfl) ?_
  refine HO.val (v := .bool s_Exclude) (want_none) rfl (q_load to_4 rfl (Blk.cell (hS.box 1 rfl) rfl)) ?_
  refine HO.nil (thenQ_normal (?_))
  refine HW.cond s_Exclude rfl (fun c_1 => ?_) (fun c_1 => ?_)
  · replace hM := hM.1 c_1
    refine HW.seq ?_
    refine HW.region ?_
    refine HO.val (v := .pointer (some ⟨b_1, 2, none⟩)) (want_none) rfl (q_fieldAddr fa_24_2 rfl rfl) ?_
    refine HO.val (v := vs_Off) (want_none) rfl (q_load to_22 rfl (Blk.cell (hS.box 1 rfl) rfl)) ?_
    refine HO.val (v := .agg (e_api_Addr a).toArray) (want_none) rfl (q_loadAgg (cs := (e_api_Addr a)) ta_34 rfl rfl (Blk.cells (k := 17) (hS.box 0 rfl) rfl)) ?_
    refine HO.call (want_none) rfl (ec en_33 rfl rfl) (srcs_Has_walk (fr := (Ow.box b_2 34 (e_api_Addr a).toArray :: Ow.box b_1 24 #[.bool s_Exclude, vs_On, vs_Off] :: fr)) s_Off a vs_Off hS hL_s_Off hM) ?_
    rintro _ h_3 ⟨F_1, r_2, rfl, hk, hS, _, hM⟩
    replace hK := hK.trans hk
    replace hL_s_On := hL_s_On.kp hk
    replace hL_s_Off := hL_s_Off.kp hk
    refine HO.val (v := .bool (!r_2)) (want_none) rfl (q_not rfl) ?_
    refine HO.val (v := .bool (!r_2)) (want_none) rfl (q_assign rfl) ?_
    refine HO.nil (thenQ_normal (?_))
    refine HW.ret (thenQ_ret (?_))
    refine ⟨.inr rfl, .bool (!r_2), res1 rfl (rt rfl), ?_⟩
    replace hS : St F_1 (fr) h_3 := hS.perm2 [] 2 rfl rfl
    exact ⟨F_1, !r_2, rfl, hK, hS, hL_s_On, hL_s_Off, hM⟩
  · replace hM := hM.2 c_1
    refine HW.skip (thenQ_normal (?_))
    refine HW.seq ?_
    refine HW.region ?_
    refine HO.val (v := .pointer (some ⟨b_1, 1, none⟩)) (want_none) rfl (q_fieldAddr fa_24_1 rfl rfl) ?_
    refine HO.val (v := vs_On) (want_none) rfl (q_load to_22 rfl (Blk.cell (hS.box 1 rfl) rfl)) ?_
    refine HO.val (v := .agg (e_api_Addr a).toArray) (want_none) rfl (q_loadAgg (cs := (e_api_Addr a)) ta_34 rfl rfl (Blk.cells (k := 17) (hS.box 0 rfl) rfl)) ?_
    refine HO.call (want_none) rfl (ec en_33 rfl rfl) (srcs_Has_walk (fr := (Ow.box b_2 34 (e_api_Addr a).toArray :: Ow.box b_1 24 #[.bool s_Exclude, vs_On, vs_Off] :: fr)) s_On a vs_On hS hL_s_On hM) ?_
    rintro _ h_4 ⟨F_2, r_3, rfl, hk, hS, _, hM⟩
    replace hK := hK.trans hk
    replace hL_s_On := hL_s_On.kp hk
    replace hL_s_Off := hL_s_Off.kp hk
    refine HO.val (v := .bool r_3) (want_none) rfl (q_assign rfl) ?_
    refine HO.nil (thenQ_normal (?_))
    refine HW.ret (?_)
    refine ⟨.inr rfl, .bool r_3, res1 rfl (rt rfl), ?_⟩
    replace hS : St F_2 (fr) h_4 := hS.perm2 [] 2 rfl rfl
    exact ⟨F_2, r_3, rfl, hK, hS, hL_s_On, hL_s_Off, hM⟩

def law15_lives_W (Q : Bool → Prop) : Prop :=
  law15_four_W 1 (fun r_2 => law15_four_W 2 (fun r_3 => law15_four_W 2 (fun r_4 => law15_four_W 3 (fun r_5 => filter_Apply_W false ([r_2, r_3] : List T_api_Addr) [] 2 ([r_4, r_5] : List T_api_Addr) (fun r_0_1 r_1_1 r_2_1 r_3_1 r_4_1 r_5_1 r_6_1 r_7_1 => (r_0_1 = true → ((r_1_1.length : Int) = 1 → ((0 : Int) ≤ 0 ∧ 0 < (r_1_1.length : Int)) ∧ (law15_four_W 2 (fun r_6 => (((gi r_1_1 0) : T_api_Addr) = r_6 → ((r_2_1.length : Int) = 1 → (r_5_1 = true → law15_four_W 9 (fun r_7 => filter_Lets_W r_0_1 r_1_1 r_2_1 r_7 (fun r_8 => (r_8 = true → law15_four_W 3 (fun r_9 => filter_Lets_W r_0_1 r_1_1 r_2_1 r_9 (fun r_10 => Q (!r_10)))) ∧ (r_8 = false → Q false)))) ∧ (r_5_1 = false → Q false)) ∧ (¬ ((r_2_1.length : Int) = 1) → Q false)) ∧ (¬ (((gi r_1_1 0) : T_api_Addr) = r_6) → Q false)))) ∧ (¬ ((r_1_1.length : Int) = 1) → Q false)) ∧ (r_0_1 = false → Q false))))))
set_option maxHeartbeats 40000000 in
set_option maxRecDepth 100000 in
theorem law15_lives_walk {F : Fz} {fr : List Ow} {h0 : Heap}  (hS : St F (fr) h0)  {Q : Bool → Prop} (hM : law15_lives_W Q) :
    HC Try.prog 15 #[] h0 fun u h' => ∃ (F' : Fz) (r_1 : Bool), u = .bool r_1 ∧ Kp F h0 F' h' ∧ St F' (fr) h' ∧ Q r_1 := by
  unfold law15_lives_W at hM
  have hK := Kp.refl F h0
  refine HC.of_HW (n := 53) Try.func15 rfl rfl (Nat.le_of_ble_eq_true rfl) ?_
  refine HW.seq ?_
  refine HW.region ?_
  refine HO.val (v := .bool false) (want_none) rfl (q_assign rfl) ?_
  refine HO.nil (thenQ_normal (?_))
  refine HW.seq ?_
  refine HW.region ?_
  refine HO.call (want_none) rfl (ec en_34 rfl rfl) (law15_four_walk (fr := (fr)) 1 hS hM) ?_
  rintro _ h_1 ⟨F_1, r_2, rfl, hk, hS, hM⟩
  replace hK := hK.trans hk
  refine HO.call (want_none) rfl (ec en_34 rfl rfl) (law15_four_walk (fr := (fr)) 2 hS hM) ?_
  rintro _ h_2 ⟨F_2, r_3, rfl, hk, hS, hM⟩
  replace hK := hK.trans hk
  refine HO.eff (want_none) rfl (st_lit (enc := e_api_Addr) (cells := #[.bool r_2.1, .int .u8 (b8 r_2.2 0), .int .u8 (b8 r_2.2 1), .int .u8 (b8 r_2.2 2), .int .u8 (b8 r_2.2 3), .int .u8 (b8 r_2.2 4), .int .u8 (b8 r_2.2 5), .int .u8 (b8 r_2.2 6), .int .u8 (b8 r_2.2 7), .int .u8 (b8 r_2.2 8), .int .u8 (b8 r_2.2 9), .int .u8 (b8 r_2.2 10), .int .u8 (b8 r_2.2 11), .int .u8 (b8 r_2.2 12), .int .u8 (b8 r_2.2 13), .int .u8 (b8 r_2.2 14), .int .u8 (b8 r_2.2 15), .bool r_3.1, .int .u8 (b8 r_3.2 0), .int .u8 (b8 r_3.2 1), .int .u8 (b8 r_3.2 2), .int .u8 (b8 r_3.2 3), .int .u8 (b8 r_3.2 4), .int .u8 (b8 r_3.2 5), .int .u8 (b8 r_3.2 6), .int .u8 (b8 r_3.2 7), .int .u8 (b8 r_3.2 8), .int .u8 (b8 r_3.2 9), .int .u8 (b8 r_3.2 10), .int .u8 (b8 r_3.2 11), .int .u8 (b8 r_3.2 12), .int .u8 (b8 r_3.2 13), .int .u8 (b8 r_3.2 14), .int .u8 (b8 r_3.2 15)]) #[.bool false, .int .u8 0, .int .u8 0, .int .u8 0, .int .u8 0, .int .u8 0, .int .u8 0, .int .u8 0, .int .u8 0, .int .u8 0, .int .u8 0, .int .u8 0, .int .u8 0, .int .u8 0, .int .u8 0, .int .u8 0, .int .u8 0, .bool false, .int .u8 0, .int .u8 0, .int .u8 0, .int .u8 0, .int .u8 0, .int .u8 0, .int .u8 0, .int .u8 0, .int .u8 0, .int .u8 0, .int .u8 0, .int .u8 0, .int .u8 0, .int .u8 0, .int .u8 0, .int .u8 0] ([r_2, r_3] : List T_api_Addr) hS tl_22 (by decide) (by decide) (by kernel_rfl) (by kernel_rfl) rfl (by intro x hx; rfl) rfl) ?_
  rintro _ h_3 ⟨b_1, rfl, hS, hk⟩
  replace hK := hK.trans hk
  refine HO.val (v := .agg #[.bool false, .slice (some ⟨b_1, 0, none⟩) 2 2, .slice none 0 0]) (want_none) rfl (q_build tp_24 rfl) ?_
  refine HO.call (want_none) rfl (ec en_34 rfl rfl) (law15_four_walk (fr := (Ow.own 34 17 e_api_Addr (.slice (some ⟨b_1, 0, none⟩) 2 2) ([r_2, r_3] : List T_api_Addr) :: fr)) 2 hS hM) ?_
  rintro _ h_4 ⟨F_3, r_4, rfl, hk, hS, hM⟩
  replace hK := hK.trans hk
  refine HO.call (want_none) rfl (ec en_34 rfl rfl) (law15_four_walk (fr := (Ow.own 34 17 e_api_Addr (.slice (some ⟨b_1, 0, none⟩) 2 2) ([r_2, r_3] : List T_api_Addr) :: fr)) 3 hS hM) ?_
  rintro _ h_5 ⟨F_4, r_5, rfl, hk, hS, hM⟩
  replace hK := hK.trans hk
  refine HO.eff (want_none) rfl (st_lit (enc := e_api_Addr) (cells := #[.bool r_4.1, .int .u8 (b8 r_4.2 0), .int .u8 (b8 r_4.2 1), .int .u8 (b8 r_4.2 2), .int .u8 (b8 r_4.2 3), .int .u8 (b8 r_4.2 4), .int .u8 (b8 r_4.2 5), .int .u8 (b8 r_4.2 6), .int .u8 (b8 r_4.2 7), .int .u8 (b8 r_4.2 8), .int .u8 (b8 r_4.2 9), .int .u8 (b8 r_4.2 10), .int .u8 (b8 r_4.2 11), .int .u8 (b8 r_4.2 12), .int .u8 (b8 r_4.2 13), .int .u8 (b8 r_4.2 14), .int .u8 (b8 r_4.2 15), .bool r_5.1, .int .u8 (b8 r_5.2 0), .int .u8 (b8 r_5.2 1), .int .u8 (b8 r_5.2 2), .int .u8 (b8 r_5.2 3), .int .u8 (b8 r_5.2 4), .int .u8 (b8 r_5.2 5), .int .u8 (b8 r_5.2 6), .int .u8 (b8 r_5.2 7), .int .u8 (b8 r_5.2 8), .int .u8 (b8 r_5.2 9), .int .u8 (b8 r_5.2 10), .int .u8 (b8 r_5.2 11), .int .u8 (b8 r_5.2 12), .int .u8 (b8 r_5.2 13), .int .u8 (b8 r_5.2 14), .int .u8 (b8 r_5.2 15)]) #[.bool false, .int .u8 0, .int .u8 0, .int .u8 0, .int .u8 0, .int .u8 0, .int .u8 0, .int .u8 0, .int .u8 0, .int .u8 0, .int .u8 0, .int .u8 0, .int .u8 0, .int .u8 0, .int .u8 0, .int .u8 0, .int .u8 0, .bool false, .int .u8 0, .int .u8 0, .int .u8 0, .int .u8 0, .int .u8 0, .int .u8 0, .int .u8 0, .int .u8 0, .int .u8 0, .int .u8 0, .int .u8 0, .int .u8 0, .int .u8 0, .int .u8 0, .int .u8 0, .int .u8 0] ([r_4, r_5] : List T_api_Addr) hS tl_22 (by decide) (by decide) (by kernel_rfl) (by kernel_rfl) rfl (by intro x hx; rfl) rfl) ?_
  rintro _ h_6 ⟨b_2, rfl, hS, hk⟩
  replace hK := hK.trans hk
  replace hS : St F_4 (Ow.own 34 17 e_api_Addr (.slice (some ⟨b_1, 0, none⟩) 2 2) ([r_2, r_3] : List T_api_Addr) :: Ow.own 34 17 e_api_Addr (.slice (some ⟨b_2, 0, none⟩) 2 2) ([r_4, r_5] : List T_api_Addr) :: fr) h_6 := hS.perm2 [1, 0] 2 rfl rfl
  obtain ⟨F_5, hS, hk, hL_1⟩ := hS.freezeOwn
  replace hK := hK.trans hk
  obtain ⟨F_6, hS, hk, hL_2⟩ := hS.freezeOwn
  replace hK := hK.trans hk
  replace hL_1 := hL_1.kp hk
  refine HO.call (want_none) rfl (ec en_10 rfl rfl) (filter_Apply_walk (fr := (fr)) false ([r_2, r_3] : List T_api_Addr) [] 2 ([r_4, r_5] : List T_api_Addr) (.slice (some ⟨b_1, 0, none⟩) 2 2) (.slice none 0 0) (.slice (some ⟨b_2, 0, none⟩) 2 2) hS hL_1 (SliceF.nil _ _ _ _) hL_2 hM) ?_
  rintro _ h_7 ⟨F_7, r_0_1, r_1_1, r_2_1, r_3_1, r_4_1, r_5_1, r_6_1, r_7_1, vr_1_1, vr_2_1, vr_3_1, vr_4_1, vr_6_1, rfl, hk, hS, _, _, _, hL_3, hM⟩
  replace hK := hK.trans hk
  replace hL_1 := hL_1.kp hk
  replace hL_2 := hL_2.kp hk
  refine HO.eff (want_none) rfl (st_alloc (c := #[.bool false, .slice none 0 0, .slice none 0 0, .slice none 0 0, .slice none 0 0, .bool false, .slice none 0 0, .bool false]) hS tz_29 rfl) ?_
  rintro _ h_8 ⟨b_3, rfl, hS, hk⟩
  replace hK := hK.trans hk
  replace hL_1 := hL_1.kp hk
  replace hL_2 := hL_2.kp hk
  replace hL_3 := hL_3.kp hk
  refine HO.sto (want_none) rfl (st_storeAgg (c' := #[.bool r_0_1, vr_1_1, vr_2_1, vr_3_1, vr_4_1, .bool r_5_1, vr_6_1, .bool r_7_1]) hS (i := 0) rfl ta_29 rfl rfl rfl (List.forall_mem_cons.2 ⟨rfl, (List.forall_mem_cons.2 ⟨(shp (hS.own 1 rfl).slice).one, (List.forall_mem_cons.2 ⟨(shp (hS.own 2 rfl).slice).one, (List.forall_mem_cons.2 ⟨(shp hL_3.is).one, (List.forall_mem_cons.2 ⟨(shp (hS.own 3 rfl).slice).one, (List.forall_mem_cons.2 ⟨rfl, (List.forall_mem_cons.2 ⟨(shp (hS.own 4 rfl).slice).one, (List.forall_mem_cons.2 ⟨rfl, (fun _ h => by cases h)⟩)⟩)⟩)⟩)⟩)⟩)⟩)⟩) (Nat.le_of_ble_eq_true rfl) rfl) ?_
  rintro h_9 ⟨hS, hk⟩
  replace hS : St F_7 (Ow.box b_3 29 #[.bool r_0_1, vr_1_1, vr_2_1, vr_3_1, vr_4_1, .bool r_5_1, vr_6_1, .bool r_7_1] :: Ow.own 34 17 e_api_Addr vr_1_1 r_1_1 :: Ow.own 34 17 e_api_Addr vr_2_1 r_2_1 :: Ow.own 34 17 e_api_Addr vr_4_1 r_4_1 :: Ow.own 34 17 e_api_Addr vr_6_1 r_6_1 :: fr) h_9 := hS
  replace hK := hK.trans hk
  replace hL_1 := hL_1.kp hk
  replace hL_2 := hL_2.kp hk
  replace hL_3 := hL_3.kp hk
  refine HO.nil (thenQ_normal (?_))
  refine HW.seq ?_
  refine HW.regionA 44 mixed (fun h => (Blk h b_3 (.cells #[.bool r_0_1, vr_1_1, vr_2_1, vr_3_1, vr_4_1, .bool r_5_1, vr_6_1, .bool r_7_1] 29 (0, 0))) ∧ (OwnIs h 0 34 17 e_api_Addr vr_1_1 r_1_1) ∧ (OwnIs h 0 34 17 e_api_Addr vr_2_1 r_2_1)) [] (by kernel_rfl) ?_
  refine HA.val (k := 0) (v := .pointer (some ⟨b_3, 0, none⟩)) rfl rfl (by kernel_rfl) (by kernel_rfl) (want_none) rfl (fun _ ⟨c207, c203, c204⟩ => q_fieldAddr fa_29_0 rfl rfl) ?_
  refine HA.val (k := 1) (v := .pointer (some ⟨b_3, 0, none⟩)) rfl rfl (by kernel_rfl) (by kernel_rfl) (want_none) rfl (fun _ ⟨c207, c203, c204⟩ => q_fieldAddr fa_24_0 rfl rfl) ?_
  refine HA.val (k := 2) (v := .bool r_0_1) rfl rfl (by kernel_rfl) (by kernel_rfl) (want_none) rfl (fun _ ⟨c207, c203, c204⟩ => q_load to_4 rfl (Blk.cell c207 rfl)) ?_
  refine HA.val (k := 3) (v := .bool r_0_1) rfl rfl (by kernel_rfl) (by kernel_rfl) (want_none) rfl (fun _ ⟨c207, c203, c204⟩ => q_move rfl) ?_
  rcases Bool.eq_false_or_eq_true r_0_1 with c_1 | c_1
  · replace hM := hM.1 c_1
    refine HA.val (k := 4) (v := .pointer (some ⟨b_3, 0, none⟩)) rfl rfl (by kernel_rfl) (by kernel_rfl) (want_by rfl rfl c_1) rfl (fun _ ⟨c207, c203, c204⟩ => q_fieldAddr fa_29_0 rfl rfl) ?_
    refine HA.val (k := 5) (v := .pointer (some ⟨b_3, 1, none⟩)) rfl rfl (by kernel_rfl) (by kernel_rfl) (want_by rfl rfl c_1) rfl (fun _ ⟨c207, c203, c204⟩ => q_fieldAddr fa_24_1 rfl rfl) ?_
    refine HA.val (k := 6) (v := vr_1_1) rfl rfl (by kernel_rfl) (by kernel_rfl) (want_by rfl rfl c_1) rfl (fun _ ⟨c207, c203, c204⟩ => q_load to_22 rfl (Blk.cell c207 rfl)) ?_
    refine HA.val (k := 7) (v := .int .i64 (r_1_1.length : Int)) rfl rfl (by kernel_rfl) (by kernel_rfl) (want_by rfl rfl c_1) rfl (fun _ ⟨c207, c203, c204⟩ => q_len ts_22 (shp c203.slice) rfl rfl) ?_
    refine HA.val (k := 8) (v := .bool (decide ((r_1_1.length : Int) = 1))) rfl rfl (by kernel_rfl) (by kernel_rfl) (want_by rfl rfl c_1) rfl (fun _ ⟨c207, c203, c204⟩ => q_eql rfl rfl) ?_
    refine HA.val (k := 9) (v := .bool (decide ((r_1_1.length : Int) = 1))) rfl rfl (by kernel_rfl) (by kernel_rfl) (want_none) rfl (fun _ ⟨c207, c203, c204⟩ => q_pickK true rfl c_1 rfl) ?_
    refine HA.val (k := 10) (v := .bool (decide ((r_1_1.length : Int) = 1))) rfl rfl (by kernel_rfl) (by kernel_rfl) (want_none) rfl (fun _ ⟨c207, c203, c204⟩ => q_move rfl) ?_
    rcases Bool.eq_false_or_eq_true (decide ((r_1_1.length : Int) = 1)) with c_2 | c_2
    · replace hM := hM.1 (of_decide_eq_true c_2)
      refine HA.val (k := 11) (v := .pointer (some ⟨b_3, 0, none⟩)) rfl rfl (by kernel_rfl) (by kernel_rfl) (want_by rfl rfl c_2) rfl (fun _ ⟨c207, c203, c204⟩ => q_fieldAddr fa_29_0 rfl rfl) ?_
      refine HA.val (k := 12) (v := .pointer (some ⟨b_3, 1, none⟩)) rfl rfl (by kernel_rfl) (by kernel_rfl) (want_by rfl rfl c_2) rfl (fun _ ⟨c207, c203, c204⟩ => q_fieldAddr fa_24_1 rfl rfl) ?_
      refine HA.val (k := 13) (v := vr_1_1) rfl rfl (by kernel_rfl) (by kernel_rfl) (want_by rfl rfl c_2) rfl (fun _ ⟨c207, c203, c204⟩ => q_load to_22 rfl (Blk.cell c207 rfl)) ?_
      obtain ⟨ho_1, hM⟩ := hM
      refine HA.val (k := 14) (v := elemPtr 17 vr_1_1 (0 : Int).toNat) rfl rfl (by kernel_rfl) (by kernel_rfl) (want_by rfl rfl c_2) rfl (fun _ ⟨c207, c203, c204⟩ => q_idx ts_22 c203.slice rfl rfl ho_1) ?_
      refine HA.val (k := 15) (v := .agg (e_api_Addr (gi r_1_1 0)).toArray) rfl rfl (by kernel_rfl) (by kernel_rfl) (want_by rfl rfl c_2) rfl (fun _ ⟨c207, c203, c204⟩ => q_ldElemAgg (cs := (e_api_Addr (gi r_1_1 0))) ta_34 c203.slice rfl ho_1 rfl) ?_
      refine HA.one (k := 16) ⟨⟨(hS.box 0 rfl), (hS.own 1 rfl), (hS.own 2 rfl)⟩, (Go.Wk.at_nil _ _)⟩ (by kernel_rfl) ?_
      refine HS.call rfl (want_by rfl rfl c_2) rfl (ec en_34 rfl rfl) (law15_four_walk (fr := (Ow.box b_3 29 #[.bool r_0_1, vr_1_1, vr_2_1, vr_3_1, vr_4_1, .bool r_5_1, vr_6_1, .bool r_7_1] :: Ow.own 34 17 e_api_Addr vr_1_1 r_1_1 :: Ow.own 34 17 e_api_Addr vr_2_1 r_2_1 :: Ow.own 34 17 e_api_Addr vr_4_1 r_4_1 :: Ow.own 34 17 e_api_Addr vr_6_1 r_6_1 :: fr)) 2 hS hM) ?_
      rintro _ h_10 ⟨F_8, r_6, rfl, hk, hS, hM⟩
      replace hK := hK.trans hk
      replace hL_1 := hL_1.kp hk
      replace hL_2 := hL_2.kp hk
      replace hL_3 := hL_3.kp hk
      refine HA.val (k := 17) (v := .bool (decide (((gi r_1_1 0) : T_api_Addr) = r_6))) rfl rfl (by kernel_rfl) (by kernel_rfl) (want_by rfl rfl c_2) rfl (fun _ ⟨c207, c203, c204⟩ => q_eqlAgg (a := (gi r_1_1 0)) (b := r_6) (fun a b w => teq_34 9997 a b w) (by kernel_rfl) rfl rfl rfl rfl) ?_
      refine HA.val (k := 18) (v := .bool (decide (((gi r_1_1 0) : T_api_Addr) = r_6))) rfl rfl (by kernel_rfl) (by kernel_rfl) (want_none) rfl (fun _ ⟨c207, c203, c204⟩ => q_pickK true rfl c_2 rfl) ?_
      refine HA.val (k := 19) (v := .bool (decide (((gi r_1_1 0) : T_api_Addr) = r_6))) rfl rfl (by kernel_rfl) (by kernel_rfl) (want_none) rfl (fun _ ⟨c207, c203, c204⟩ => q_move rfl) ?_
      rcases Bool.eq_false_or_eq_true (decide (((gi r_1_1 0) : T_api_Addr) = r_6)) with c_3 | c_3
      · replace hM := hM.1 (of_decide_eq_true c_3)
        refine HA.val (k := 20) (v := .pointer (some ⟨b_3, 0, none⟩)) rfl rfl (by kernel_rfl) (by kernel_rfl) (want_by rfl rfl c_3) rfl (fun _ ⟨c207, c203, c204⟩ => q_fieldAddr fa_29_0 rfl rfl) ?_
        refine HA.val (k := 21) (v := .pointer (some ⟨b_3, 2, none⟩)) rfl rfl (by kernel_rfl) (by kernel_rfl) (want_by rfl rfl c_3) rfl (fun _ ⟨c207, c203, c204⟩ => q_fieldAddr fa_24_2 rfl rfl) ?_
        refine HA.val (k := 22) (v := vr_2_1) rfl rfl (by kernel_rfl) (by kernel_rfl) (want_by rfl rfl c_3) rfl (fun _ ⟨c207, c203, c204⟩ => q_load to_22 rfl (Blk.cell c207 rfl)) ?_
        refine HA.val (k := 23) (v := .int .i64 (r_2_1.length : Int)) rfl rfl (by kernel_rfl) (by kernel_rfl) (want_by rfl rfl c_3) rfl (fun _ ⟨c207, c203, c204⟩ => q_len ts_22 (shp c204.slice) rfl rfl) ?_
        refine HA.val (k := 24) (v := .bool (decide ((r_2_1.length : Int) = 1))) rfl rfl (by kernel_rfl) (by kernel_rfl) (want_by rfl rfl c_3) rfl (fun _ ⟨c207, c203, c204⟩ => q_eql rfl rfl) ?_
        refine HA.val (k := 25) (v := .bool (decide ((r_2_1.length : Int) = 1))) rfl rfl (by kernel_rfl) (by kernel_rfl) (want_none) rfl (fun _ ⟨c207, c203, c204⟩ => q_pickK true rfl c_3 rfl) ?_
        refine HA.val (k := 26) (v := .bool (decide ((r_2_1.length : Int) = 1))) rfl rfl (by kernel_rfl) (by kernel_rfl) (want_none) rfl (fun _ ⟨c207, c203, c204⟩ => q_move rfl) ?_
        rcases Bool.eq_false_or_eq_true (decide ((r_2_1.length : Int) = 1)) with c_4 | c_4
        · replace hM := hM.1 (of_decide_eq_true c_4)
          refine HA.val (k := 27) (v := .pointer (some ⟨b_3, 5, none⟩)) rfl rfl (by kernel_rfl) (by kernel_rfl) (want_by rfl rfl c_4) rfl (fun _ ⟨c207, c203, c204⟩ => q_fieldAddr fa_29_3 rfl rfl) ?_
          refine HA.val (k := 28) (v := .bool r_5_1) rfl rfl (by kernel_rfl) (by kernel_rfl) (want_by rfl rfl c_4) rfl (fun _ ⟨c207, c203, c204⟩ => q_load to_4 rfl (Blk.cell c207 rfl)) ?_
          refine HA.val (k := 29) (v := .bool r_5_1) rfl rfl (by kernel_rfl) (by kernel_rfl) (want_none) rfl (fun _ ⟨c207, c203, c204⟩ => q_pickK true rfl c_4 rfl) ?_
          refine HA.val (k := 30) (v := .bool r_5_1) rfl rfl (by kernel_rfl) (by kernel_rfl) (want_none) rfl (fun _ ⟨c207, c203, c204⟩ => q_move rfl) ?_
          rcases Bool.eq_false_or_eq_true r_5_1 with c_5 | c_5
          · replace hM := hM.1 c_5
            refine HA.val (k := 31) (v := .pointer (some ⟨b_3, 0, none⟩)) rfl rfl (by kernel_rfl) (by kernel_rfl) (want_by rfl rfl c_5) rfl (fun _ ⟨c207, c203, c204⟩ => q_fieldAddr fa_29_0 rfl rfl) ?_
            refine HA.val (k := 32) (v := .agg #[.bool r_0_1, vr_1_1, vr_2_1]) rfl rfl (by kernel_rfl) (by kernel_rfl) (want_by rfl rfl c_5) rfl (fun _ ⟨c207, c203, c204⟩ => q_loadAgg (cs := [.bool r_0_1, vr_1_1, vr_2_1]) ta_24 rfl rfl (Blk.cells (k := 3) c207 rfl)) ?_
            refine HA.one (k := 33) ⟨⟨(hS.box 0 rfl), (hS.own 1 rfl), (hS.own 2 rfl)⟩, (Go.Wk.at_nil _ _)⟩ (by kernel_rfl) ?_
            refine HS.call rfl (want_by rfl rfl c_5) rfl (ec en_34 rfl rfl) (law15_four_walk (fr := (Ow.box b_3 29 #[.bool r_0_1, vr_1_1, vr_2_1, vr_3_1, vr_4_1, .bool r_5_1, vr_6_1, .bool r_7_1] :: Ow.own 34 17 e_api_Addr vr_1_1 r_1_1 :: Ow.own 34 17 e_api_Addr vr_2_1 r_2_1 :: Ow.own 34 17 e_api_Addr vr_4_1 r_4_1 :: Ow.own 34 17 e_api_Addr vr_6_1 r_6_1 :: fr)) 9 hS hM) ?_
            rintro _ h_11 ⟨F_9, r_7, rfl, hk, hS, hM⟩
            replace hK := hK.trans hk
            replace hL_1 := hL_1.kp hk
            replace hL_2 := hL_2.kp hk
            replace hL_3 := hL_3.kp hk
            refine HA.one (k := 34) ⟨⟨(hS.box 0 rfl), (hS.own 1 rfl), (hS.own 2 rfl)⟩, (Go.Wk.at_nil _ _)⟩ (by kernel_rfl) ?_
            replace hS : St F_9 (Ow.own 34 17 e_api_Addr vr_1_1 r_1_1 :: Ow.box b_3 29 #[.bool r_0_1, vr_1_1, vr_2_1, vr_3_1, vr_4_1, .bool r_5_1, vr_6_1, .bool r_7_1] :: Ow.own 34 17 e_api_Addr vr_2_1 r_2_1 :: Ow.own 34 17 e_api_Addr vr_4_1 r_4_1 :: Ow.own 34 17 e_api_Addr vr_6_1 r_6_1 :: fr) h_11 := hS.perm2 [1, 0, 2, 3, 4] 5 rfl rfl
            have hZ_1 := hS
            have hkz_1 := (hS.freeze).2
            replace hS := hS.freeze.1
            have hL_4 : SliceF (fun b => F_9 b ∨ (Ow.own 34 17 e_api_Addr vr_1_1 r_1_1).foot b) h_11 17 e_api_Addr vr_1_1 r_1_1 := ⟨(hZ_1.own 0 rfl).slice, fun _ b hb => .inr hb⟩
            replace hS : St (fun b => F_9 b ∨ (Ow.own 34 17 e_api_Addr vr_1_1 r_1_1).foot b) (Ow.own 34 17 e_api_Addr vr_2_1 r_2_1 :: Ow.box b_3 29 #[.bool r_0_1, vr_1_1, vr_2_1, vr_3_1, vr_4_1, .bool r_5_1, vr_6_1, .bool r_7_1] :: Ow.own 34 17 e_api_Addr vr_4_1 r_4_1 :: Ow.own 34 17 e_api_Addr vr_6_1 r_6_1 :: fr) h_11 := hS.perm2 [1, 0, 2, 3] 4 rfl rfl
            have hZ_2 := hS
            have hkz_2 := (hS.freeze).2
            replace hS := hS.freeze.1
            have hL_5 : SliceF (fun b => (fun b => F_9 b ∨ (Ow.own 34 17 e_api_Addr vr_1_1 r_1_1).foot b) b ∨ (Ow.own 34 17 e_api_Addr vr_2_1 r_2_1).foot b) h_11 17 e_api_Addr vr_2_1 r_2_1 := ⟨(hZ_2.own 0 rfl).slice, fun _ b hb => .inr hb⟩
            refine HS.call rfl (want_by rfl rfl c_5) rfl (ec en_11 rfl rfl) (filter_Lets_walk (fr := (Ow.box b_3 29 #[.bool r_0_1, vr_1_1, vr_2_1, vr_3_1, vr_4_1, .bool r_5_1, vr_6_1, .bool r_7_1] :: Ow.own 34 17 e_api_Addr vr_4_1 r_4_1 :: Ow.own 34 17 e_api_Addr vr_6_1 r_6_1 :: fr)) r_0_1 r_1_1 r_2_1 r_7 vr_1_1 vr_2_1 hS (hL_4.kp hkz_2) hL_5 hM) ?_
            rintro _ h_12 ⟨F_10, r_8, rfl, hk, hS, _, _, hM⟩
            obtain ⟨hS, hk⟩ := hZ_2.back hk hS
            obtain ⟨hS, hk⟩ := hZ_1.back hk hS
            generalize (fun b => (fun b => F_10 b ∧ ¬ (Ow.own 34 17 e_api_Addr vr_2_1 r_2_1).foot b) b ∧ ¬ (Ow.own 34 17 e_api_Addr vr_1_1 r_1_1).foot b) = F_11 at hS hk
            replace hK := hK.trans hk
            replace hL_1 := hL_1.kp hk
            replace hL_2 := hL_2.kp hk
            replace hL_3 := hL_3.kp hk
            refine HA.val (k := 35) (v := .bool r_8) rfl rfl (by kernel_rfl) (by kernel_rfl) (want_none) rfl (fun _ ⟨c207, c203, c204⟩ => q_pickK true rfl c_5 rfl) ?_
            refine HA.val (k := 36) (v := .bool r_8) rfl rfl (by kernel_rfl) (by kernel_rfl) (want_none) rfl (fun _ ⟨c207, c203, c204⟩ => q_move rfl) ?_
            rcases Bool.eq_false_or_eq_true r_8 with c_6 | c_6
            · replace hM := hM.1 c_6
              refine HA.val (k := 37) (v := .pointer (some ⟨b_3, 0, none⟩)) rfl rfl (by kernel_rfl) (by kernel_rfl) (want_by rfl rfl c_6) rfl (fun _ ⟨c207, c203, c204⟩ => q_fieldAddr fa_29_0 rfl rfl) ?_
              refine HA.val (k := 38) (v := .agg #[.bool r_0_1, vr_1_1, vr_2_1]) rfl rfl (by kernel_rfl) (by kernel_rfl) (want_by rfl rfl c_6) rfl (fun _ ⟨c207, c203, c204⟩ => q_loadAgg (cs := [.bool r_0_1, vr_1_1, vr_2_1]) ta_24 rfl rfl (Blk.cells (k := 3) c207 rfl)) ?_
              refine HA.one (k := 39) ⟨⟨(hS.box 2 rfl), (hS.own 0 rfl), (hS.own 1 rfl)⟩, (Go.Wk.at_nil _ _)⟩ (by kernel_rfl) ?_
              refine HS.call rfl (want_by rfl rfl c_6) rfl (ec en_34 rfl rfl) (law15_four_walk (fr := (Ow.own 34 17 e_api_Addr vr_1_1 r_1_1 :: Ow.own 34 17 e_api_Addr vr_2_1 r_2_1 :: Ow.box b_3 29 #[.bool r_0_1, vr_1_1, vr_2_1, vr_3_1, vr_4_1, .bool r_5_1, vr_6_1, .bool r_7_1] :: Ow.own 34 17 e_api_Addr vr_4_1 r_4_1 :: Ow.own 34 17 e_api_Addr vr_6_1 r_6_1 :: fr)) 3 hS hM) ?_
              rintro _ h_13 ⟨F_12, r_9, rfl, hk, hS, hM⟩
              replace hK := hK.trans hk
              replace hL_1 := hL_1.kp hk
              replace hL_2 := hL_2.kp hk
              replace hL_3 := hL_3.kp hk
              refine HA.one (k := 40) ⟨⟨(hS.box 2 rfl), (hS.own 0 rfl), (hS.own 1 rfl)⟩, (Go.Wk.at_nil _ _)⟩ (by kernel_rfl) ?_
              have hZ_3 := hS
              have hkz_3 := (hS.freeze).2
              replace hS := hS.freeze.1
              have hL_6 : SliceF (fun b => F_12 b ∨ (Ow.own 34 17 e_api_Addr vr_1_1 r_1_1).foot b) h_13 17 e_api_Addr vr_1_1 r_1_1 := ⟨(hZ_3.own 0 rfl).slice, fun _ b hb => .inr hb⟩
              have hZ_4 := hS
              have hkz_4 := (hS.freeze).2
              replace hS := hS.freeze.1
              have hL_7 : SliceF (fun b => (fun b => F_12 b ∨ (Ow.own 34 17 e_api_Addr vr_1_1 r_1_1).foot b) b ∨ (Ow.own 34 17 e_api_Addr vr_2_1 r_2_1).foot b) h_13 17 e_api_Addr vr_2_1 r_2_1 := ⟨(hZ_4.own 0 rfl).slice, fun _ b hb => .inr hb⟩
              refine HS.call rfl (want_by rfl rfl c_6) rfl (ec en_11 rfl rfl) (filter_Lets_walk (fr := (Ow.box b_3 29 #[.bool r_0_1, vr_1_1, vr_2_1, vr_3_1, vr_4_1, .bool r_5_1, vr_6_1, .bool r_7_1] :: Ow.own 34 17 e_api_Addr vr_4_1 r_4_1 :: Ow.own 34 17 e_api_Addr vr_6_1 r_6_1 :: fr)) r_0_1 r_1_1 r_2_1 r_9 vr_1_1 vr_2_1 hS (hL_6.kp hkz_4) hL_7 hM) ?_
              rintro _ h_14 ⟨F_13, r_10, rfl, hk, hS, _, _, hM⟩
              obtain ⟨hS, hk⟩ := hZ_4.back hk hS
              obtain ⟨hS, hk⟩ := hZ_3.back hk hS
              generalize (fun b => (fun b => F_13 b ∧ ¬ (Ow.own 34 17 e_api_Addr vr_2_1 r_2_1).foot b) b ∧ ¬ (Ow.own 34 17 e_api_Addr vr_1_1 r_1_1).foot b) = F_14 at hS hk
              replace hK := hK.trans hk
              replace hL_1 := hL_1.kp hk
              replace hL_2 := hL_2.kp hk
              replace hL_3 := hL_3.kp hk
              refine HA.val (k := 41) (v := .bool (!r_10)) rfl rfl (by kernel_rfl) (by kernel_rfl) (want_by rfl rfl c_6) rfl (fun _ ⟨c207, c203, c204⟩ => q_not rfl) ?_
              refine HA.val (k := 42) (v := .bool (!r_10)) rfl rfl (by kernel_rfl) (by kernel_rfl) (want_none) rfl (fun _ ⟨c207, c203, c204⟩ => q_pickK true rfl c_6 rfl) ?_
              refine HA.val (k := 43) (v := .bool (!r_10)) rfl rfl (by kernel_rfl) (by kernel_rfl) (want_none) rfl (fun _ ⟨c207, c203, c204⟩ => q_assign rfl) ?_
              refine HA.nil ⟨⟨(hS.box 2 rfl), (hS.own 0 rfl), (hS.own 1 rfl)⟩, (Go.Wk.at_nil _ _)⟩ (by kernel_rfl) (thenQ_normal (?_))
              refine HW.ret (?_)
              refine ⟨.inr rfl, .bool (!r_10), res1 rfl (rt rfl), ?_⟩
              replace hS : St F_14 (fr) h_14 := hS.perm2 [] 5 rfl rfl
              exact ⟨F_14, !r_10, rfl, hK, hS, hM⟩
            · replace hM := hM.2 c_6
              refine HA.past (k := 37) rfl rfl (by kernel_rfl) (by kernel_rfl) (past_by rfl rfl c_6) rfl ?_
              refine HA.past (k := 38) rfl rfl (by kernel_rfl) (by kernel_rfl) (past_by rfl rfl c_6) rfl ?_
              refine HA.one (k := 39) ⟨⟨(hS.box 2 rfl), (hS.own 0 rfl), (hS.own 1 rfl)⟩, (Go.Wk.at_nil _ _)⟩ (by kernel_rfl) ?_
              refine HS.past rfl (past_by rfl rfl c_6) rfl ?_
              refine HA.one (k := 40) ⟨⟨(hS.box 2 rfl), (hS.own 0 rfl), (hS.own 1 rfl)⟩, (Go.Wk.at_nil _ _)⟩ (by kernel_rfl) ?_
              refine HS.past rfl (past_by rfl rfl c_6) rfl ?_
              refine HA.past (k := 41) rfl rfl (by kernel_rfl) (by kernel_rfl) (past_by rfl rfl c_6) rfl ?_
              refine HA.val (k := 42) (v := .bool false) rfl rfl (by kernel_rfl) (by kernel_rfl) (want_none) rfl (fun _ ⟨c207, c203, c204⟩ => q_pickK false rfl c_6 rfl) ?_
              refine HA.val (k := 43) (v := .bool false) rfl rfl (by kernel_rfl) (by kernel_rfl) (want_none) rfl (fun _ ⟨c207, c203, c204⟩ => q_assign rfl) ?_
              refine HA.nil ⟨⟨(hS.box 2 rfl), (hS.own 0 rfl), (hS.own 1 rfl)⟩, (Go.Wk.at_nil _ _)⟩ (by kernel_rfl) (thenQ_normal (?_))
              refine HW.ret (?_)
              refine ⟨.inr rfl, .bool false, res1 rfl (rt rfl), ?_⟩
              replace hS : St F_11 (fr) h_12 := hS.perm2 [] 5 rfl rfl
              exact ⟨F_11, false, rfl, hK, hS, hM⟩
          · replace hM := hM.2 c_5
            refine HA.past (k := 31) rfl rfl (by kernel_rfl) (by kernel_rfl) (past_by rfl rfl c_5) rfl ?_
            refine HA.past (k := 32) rfl rfl (by kernel_rfl) (by kernel_rfl) (past_by rfl rfl c_5) rfl ?_
            refine HA.one (k := 33) ⟨⟨(hS.box 0 rfl), (hS.own 1 rfl), (hS.own 2 rfl)⟩, (Go.Wk.at_nil _ _)⟩ (by kernel_rfl) ?_
            refine HS.past rfl (past_by rfl rfl c_5) rfl ?_
            refine HA.one (k := 34) ⟨⟨(hS.box 0 rfl), (hS.own 1 rfl), (hS.own 2 rfl)⟩, (Go.Wk.at_nil _ _)⟩ (by kernel_rfl) ?_
            refine HS.past rfl (past_by rfl rfl c_5) rfl ?_
            refine HA.val (k := 35) (v := .bool false) rfl rfl (by kernel_rfl) (by kernel_rfl) (want_none) rfl (fun _ ⟨c207, c203, c204⟩ => q_pickK false rfl c_5 rfl) ?_
            refine HA.val (k := 36) (v := .bool false) rfl rfl (by kernel_rfl) (by kernel_rfl) (want_none) rfl (fun _ ⟨c207, c203, c204⟩ => q_move rfl) ?_
            refine HA.past (k := 37) rfl rfl (by kernel_rfl) (by kernel_rfl) (past_some rfl rfl) rfl ?_
            refine HA.past (k := 38) rfl rfl (by kernel_rfl) (by kernel_rfl) (past_some rfl rfl) rfl ?_
            refine HA.one (k := 39) ⟨⟨(hS.box 0 rfl), (hS.own 1 rfl), (hS.own 2 rfl)⟩, (Go.Wk.at_nil _ _)⟩ (by kernel_rfl) ?_
            refine HS.past rfl (past_some rfl rfl) rfl ?_
            refine HA.one (k := 40) ⟨⟨(hS.box 0 rfl), (hS.own 1 rfl), (hS.own 2 rfl)⟩, (Go.Wk.at_nil _ _)⟩ (by kernel_rfl) ?_
            refine HS.past rfl (past_some rfl rfl) rfl ?_
            refine HA.past (k := 41) rfl rfl (by kernel_rfl) (by kernel_rfl) (past_some rfl rfl) rfl ?_
            refine HA.val (k := 42) (v := .bool false) rfl rfl (by kernel_rfl) (by kernel_rfl) (want_none) rfl (fun _ ⟨c207, c203, c204⟩ => q_pick rfl rfl) ?_
            refine HA.val (k := 43) (v := .bool false) rfl rfl (by kernel_rfl) (by kernel_rfl) (want_none) rfl (fun _ ⟨c207, c203, c204⟩ => q_assign rfl) ?_
            refine HA.nil ⟨⟨(hS.box 0 rfl), (hS.own 1 rfl), (hS.own 2 rfl)⟩, (Go.Wk.at_nil _ _)⟩ (by kernel_rfl) (thenQ_normal (?_))
            refine HW.ret (?_)
            refine ⟨.inr rfl, .bool false, res1 rfl (rt rfl), ?_⟩
            replace hS : St F_8 (fr) h_10 := hS.perm2 [] 5 rfl rfl
            exact ⟨F_8, false, rfl, hK, hS, hM⟩
        · replace hM := hM.2 (of_decide_eq_false c_4)
          refine HA.past (k := 27) rfl rfl (by kernel_rfl) (by kernel_rfl) (past_by rfl rfl c_4) rfl ?_
          refine HA.past (k := 28) rfl rfl (by kernel_rfl) (by kernel_rfl) (past_by rfl rfl c_4) rfl ?_
          refine HA.val (k := 29) (v := .bool false) rfl rfl (by kernel_rfl) (by kernel_rfl) (want_none) rfl (fun _ ⟨c207, c203, c204⟩ => q_pickK false rfl c_4 rfl) ?_
          refine HA.val (k := 30) (v := .bool false) rfl rfl (by kernel_rfl) (by kernel_rfl) (want_none) rfl (fun _ ⟨c207, c203, c204⟩ => q_move rfl) ?_
          refine HA.past (k := 31) rfl rfl (by kernel_rfl) (by kernel_rfl) (past_some rfl rfl) rfl ?_
          refine HA.past (k := 32) rfl rfl (by kernel_rfl) (by kernel_rfl) (past_some rfl rfl) rfl ?_
          refine HA.one (k := 33) ⟨⟨(hS.box 0 rfl), (hS.own 1 rfl), (hS.own 2 rfl)⟩, (Go.Wk.at_nil _ _)⟩ (by kernel_rfl) ?_
          refine HS.past rfl (past_some rfl rfl) rfl ?_
          refine HA.one (k := 34) ⟨⟨(hS.box 0 rfl), (hS.own 1 rfl), (hS.own 2 rfl)⟩, (Go.Wk.at_nil _ _)⟩ (by kernel_rfl) ?_
          refine HS.past rfl (past_some rfl rfl) rfl ?_
          refine HA.val (k := 35) (v := .bool false) rfl rfl (by kernel_rfl) (by kernel_rfl) (want_none) rfl (fun _ ⟨c207, c203, c204⟩ => q_pick rfl rfl) ?_
          refine HA.val (k := 36) (v := .bool false) rfl rfl (by kernel_rfl) (by kernel_rfl) (want_none) rfl (fun _ ⟨c207, c203, c204⟩ => q_move rfl) ?_
          refine HA.past (k := 37) rfl rfl (by kernel_rfl) (by kernel_rfl) (past_some rfl rfl) rfl ?_
          refine HA.past (k := 38) rfl rfl (by kernel_rfl) (by kernel_rfl) (past_some rfl rfl) rfl ?_
          refine HA.one (k := 39) ⟨⟨(hS.box 0 rfl), (hS.own 1 rfl), (hS.own 2 rfl)⟩, (Go.Wk.at_nil _ _)⟩ (by kernel_rfl) ?_
          refine HS.past rfl (past_some rfl rfl) rfl ?_
          refine HA.one (k := 40) ⟨⟨(hS.box 0 rfl), (hS.own 1 rfl), (hS.own 2 rfl)⟩, (Go.Wk.at_nil _ _)⟩ (by kernel_rfl) ?_
          refine HS.past rfl (past_some rfl rfl) rfl ?_
          refine HA.past (k := 41) rfl rfl (by kernel_rfl) (by kernel_rfl) (past_some rfl rfl) rfl ?_
          refine HA.val (k := 42) (v := .bool false) rfl rfl (by kernel_rfl) (by kernel_rfl) (want_none) rfl (fun _ ⟨c207, c203, c204⟩ => q_pick rfl rfl) ?_
          refine HA.val (k := 43) (v := .bool false) rfl rfl (by kernel_rfl) (by kernel_rfl) (want_none) rfl (fun _ ⟨c207, c203, c204⟩ => q_assign rfl) ?_
          refine HA.nil ⟨⟨(hS.box 0 rfl), (hS.own 1 rfl), (hS.own 2 rfl)⟩, (Go.Wk.at_nil _ _)⟩ (by kernel_rfl) (thenQ_normal (?_))
          refine HW.ret (?_)
          refine ⟨.inr rfl, .bool false, res1 rfl (rt rfl), ?_⟩
          replace hS : St F_8 (fr) h_10 := hS.perm2 [] 5 rfl rfl
          exact ⟨F_8, false, rfl, hK, hS, hM⟩
      · replace hM := hM.2 (of_decide_eq_false c_3)
        refine HA.past (k := 20) rfl rfl (by kernel_rfl) (by kernel_rfl) (past_by rfl rfl c_3) rfl ?_
        refine HA.past (k := 21) rfl rfl (by kernel_rfl) (by kernel_rfl) (past_by rfl rfl c_3) rfl ?_
        refine HA.past (k := 22) rfl rfl (by kernel_rfl) (by kernel_rfl) (past_by rfl rfl c_3) rfl ?_
        refine HA.past (k := 23) rfl rfl (by kernel_rfl) (by kernel_rfl) (past_by rfl rfl c_3) rfl ?_
        refine HA.past (k := 24) rfl rfl (by kernel_rfl) (by kernel_rfl) (past_by rfl rfl c_3) rfl ?_
        refine HA.val (k := 25) (v := .bool false) rfl rfl (by kernel_rfl) (by kernel_rfl) (want_none) rfl (fun _ ⟨c207, c203, c204⟩ => q_pickK false rfl c_3 rfl) ?_
        refine HA.val (k := 26) (v := .bool false) rfl rfl (by kernel_rfl) (by kernel_rfl) (want_none) rfl (fun _ ⟨c207, c203, c204⟩ => q_move rfl) ?_
        refine HA.past (k := 27) rfl rfl (by kernel_rfl) (by kernel_rfl) (past_some rfl rfl) rfl ?_
        refine HA.past (k := 28) rfl rfl (by kernel_rfl) (by kernel_rfl) (past_some rfl rfl) rfl ?_
        refine HA.val (k := 29) (v := .bool false) rfl rfl (by kernel_rfl) (by kernel_rfl) (want_none) rfl (fun _ ⟨c207, c203, c204⟩ => q_pick rfl rfl) ?_
        refine HA.val (k := 30) (v := .bool false) rfl rfl (by kernel_rfl) (by kernel_rfl) (want_none) rfl (fun _ ⟨c207, c203, c204⟩ => q_move rfl) ?_
        refine HA.past (k := 31) rfl rfl (by kernel_rfl) (by kernel_rfl) (past_some rfl rfl) rfl ?_
        refine HA.past (k := 32) rfl rfl (by kernel_rfl) (by kernel_rfl) (past_some rfl rfl) rfl ?_
        refine HA.one (k := 33) ⟨⟨(hS.box 0 rfl), (hS.own 1 rfl), (hS.own 2 rfl)⟩, (Go.Wk.at_nil _ _)⟩ (by kernel_rfl) ?_
        refine HS.past rfl (past_some rfl rfl) rfl ?_
        refine HA.one (k := 34) ⟨⟨(hS.box 0 rfl), (hS.own 1 rfl), (hS.own 2 rfl)⟩, (Go.Wk.at_nil _ _)⟩ (by kernel_rfl) ?_
        refine HS.past rfl (past_some rfl rfl) rfl ?_
        refine HA.val (k := 35) (v := .bool false) rfl rfl (by kernel_rfl) (by kernel_rfl) (want_none) rfl (fun _ ⟨c207, c203, c204⟩ => q_pick rfl rfl) ?_
        refine HA.val (k := 36) (v := .bool false) rfl rfl (by kernel_rfl) (by kernel_rfl) (want_none) rfl (fun _ ⟨c207, c203, c204⟩ => q_move rfl) ?_
        refine HA.past (k := 37) rfl rfl (by kernel_rfl) (by kernel_rfl) (past_some rfl rfl) rfl ?_
        refine HA.past (k := 38) rfl rfl (by kernel_rfl) (by kernel_rfl) (past_some rfl rfl) rfl ?_
        refine HA.one (k := 39) ⟨⟨(hS.box 0 rfl), (hS.own 1 rfl), (hS.own 2 rfl)⟩, (Go.Wk.at_nil _ _)⟩ (by kernel_rfl) ?_
        refine HS.past rfl (past_some rfl rfl) rfl ?_
        refine HA.one (k := 40) ⟨⟨(hS.box 0 rfl), (hS.own 1 rfl), (hS.own 2 rfl)⟩, (Go.Wk.at_nil _ _)⟩ (by kernel_rfl) ?_
        refine HS.past rfl (past_some rfl rfl) rfl ?_
        refine HA.past (k := 41) rfl rfl (by kernel_rfl) (by kernel_rfl) (past_some rfl rfl) rfl ?_
        refine HA.val (k := 42) (v := .bool false) rfl rfl (by kernel_rfl) (by kernel_rfl) (want_none) rfl (fun _ ⟨c207, c203, c204⟩ => q_pick rfl rfl) ?_
        refine HA.val (k := 43) (v := .bool false) rfl rfl (by kernel_rfl) (by kernel_rfl) (want_none) rfl (fun _ ⟨c207, c203, c204⟩ => q_assign rfl) ?_
        refine HA.nil ⟨⟨(hS.box 0 rfl), (hS.own 1 rfl), (hS.own 2 rfl)⟩, (Go.Wk.at_nil _ _)⟩ (by kernel_rfl) (thenQ_normal (?_))
        refine HW.ret (?_)
        refine ⟨.inr rfl, .bool false, res1 rfl (rt rfl), ?_⟩
        replace hS : St F_8 (fr) h_10 := hS.perm2 [] 5 rfl rfl
        exact ⟨F_8, false, rfl, hK, hS, hM⟩
    · replace hM := hM.2 (of_decide_eq_false c_2)
      refine HA.past (k := 11) rfl rfl (by kernel_rfl) (by kernel_rfl) (past_by rfl rfl c_2) rfl ?_
      refine HA.past (k := 12) rfl rfl (by kernel_rfl) (by kernel_rfl) (past_by rfl rfl c_2) rfl ?_
      refine HA.past (k := 13) rfl rfl (by kernel_rfl) (by kernel_rfl) (past_by rfl rfl c_2) rfl ?_
      refine HA.past (k := 14) rfl rfl (by kernel_rfl) (by kernel_rfl) (past_by rfl rfl c_2) rfl ?_
      refine HA.past (k := 15) rfl rfl (by kernel_rfl) (by kernel_rfl) (past_by rfl rfl c_2) rfl ?_
      refine HA.one (k := 16) ⟨⟨(hS.box 0 rfl), (hS.own 1 rfl), (hS.own 2 rfl)⟩, (Go.Wk.at_nil _ _)⟩ (by kernel_rfl) ?_
      refine HS.past rfl (past_by rfl rfl c_2) rfl ?_
      refine HA.past (k := 17) rfl rfl (by kernel_rfl) (by kernel_rfl) (past_by rfl rfl c_2) rfl ?_
      refine HA.val (k := 18) (v := .bool false) rfl rfl (by kernel_rfl) (by kernel_rfl) (want_none) rfl (fun _ ⟨c207, c203, c204⟩ => q_pickK false rfl c_2 rfl) ?_
      refine HA.val (k := 19) (v := .bool false) rfl rfl (by kernel_rfl) (by kernel_rfl) (want_none) rfl (fun _ ⟨c207, c203, c204⟩ => q_move rfl) ?_
      refine HA.past (k := 20) rfl rfl (by kernel_rfl) (by kernel_rfl) (past_some rfl rfl) rfl ?_
      refine HA.past (k := 21) rfl rfl (by kernel_rfl) (by kernel_rfl) (past_some rfl rfl) rfl ?_
      refine HA.past (k := 22) rfl rfl (by kernel_rfl) (by kernel_rfl) (past_some rfl rfl) rfl ?_
      refine HA.past (k := 23) rfl rfl (by kernel_rfl) (by kernel_rfl) (past_some rfl rfl) rfl ?_
      refine HA.past (k := 24) rfl rfl (by kernel_rfl) (by kernel_rfl) (past_some rfl rfl) rfl ?_
      refine HA.val (k := 25) (v := .bool false) rfl rfl (by kernel_rfl) (by kernel_rfl) (want_none) rfl (fun _ ⟨c207, c203, c204⟩ => q_pick rfl rfl) ?_
      refine HA.val (k := 26) (v := .bool false) rfl rfl (by kernel_rfl) (by kernel_rfl) (want_none) rfl (fun _ ⟨c207, c203, c204⟩ => q_move rfl) ?_
      refine HA.past (k := 27) rfl rfl (by kernel_rfl) (by kernel_rfl) (past_some rfl rfl) rfl ?_
      refine HA.past (k := 28) rfl rfl (by kernel_rfl) (by kernel_rfl) (past_some rfl rfl) rfl ?_
      refine HA.val (k := 29) (v := .bool false) rfl rfl (by kernel_rfl) (by kernel_rfl) (want_none) rfl (fun _ ⟨c207, c203, c204⟩ => q_pick rfl rfl) ?_
      refine HA.val (k := 30) (v := .bool false) rfl rfl (by kernel_rfl) (by kernel_rfl) (want_none) rfl (fun _ ⟨c207, c203, c204⟩ => q_move rfl) ?_
      refine HA.past (k := 31) rfl rfl (by kernel_rfl) (by kernel_rfl) (past_some rfl rfl) rfl ?_
      refine HA.past (k := 32) rfl rfl (by kernel_rfl) (by kernel_rfl) (past_some rfl rfl) rfl ?_
      refine HA.one (k := 33) ⟨⟨(hS.box 0 rfl), (hS.own 1 rfl), (hS.own 2 rfl)⟩, (Go.Wk.at_nil _ _)⟩ (by kernel_rfl) ?_
      refine HS.past rfl (past_some rfl rfl) rfl ?_
      refine HA.one (k := 34) ⟨⟨(hS.box 0 rfl), (hS.own 1 rfl), (hS.own 2 rfl)⟩, (Go.Wk.at_nil _ _)⟩ (by kernel_rfl) ?_
      refine HS.past rfl (past_some rfl rfl) rfl ?_
      refine HA.val (k := 35) (v := .bool false) rfl rfl (by kernel_rfl) (by kernel_rfl) (want_none) rfl (fun _ ⟨c207, c203, c204⟩ => q_pick rfl rfl) ?_
      refine HA.val (k := 36) (v := .bool false) rfl rfl (by kernel_rfl) (by kernel_rfl) (want_none) rfl (fun _ ⟨c207, c203, c204⟩ => q_move rfl) ?_
      refine HA.past (k := 37) rfl rfl (by kernel_rfl) (by kernel_rfl) (past_some rfl rfl) rfl ?_
      refine HA.past (k := 38) rfl rfl (by kernel_rfl) (by kernel_rfl) (past_some rfl rfl) rfl ?_
      refine HA.one (k := 39) ⟨⟨(hS.box 0 rfl), (hS.own 1 rfl), (hS.own 2 rfl)⟩, (Go.Wk.at_nil _ _)⟩ (by kernel_rfl) ?_
      refine HS.past rfl (past_some rfl rfl) rfl ?_
      refine HA.one (k := 40) ⟨⟨(hS.box 0 rfl), (hS.own 1 rfl), (hS.own 2 rfl)⟩, (Go.Wk.at_nil _ _)⟩ (by kernel_rfl) ?_
      refine HS.past rfl (past_some rfl rfl) rfl ?_
      refine HA.past (k := 41) rfl rfl (by kernel_rfl) (by kernel_rfl) (past_some rfl rfl) rfl ?_
      refine HA.val (k := 42) (v := .bool false) rfl rfl (by kernel_rfl) (by kernel_rfl) (want_none) rfl (fun _ ⟨c207, c203, c204⟩ => q_pick rfl rfl) ?_
      refine HA.val (k := 43) (v := .bool false) rfl rfl (by kernel_rfl) (by kernel_rfl) (want_none) rfl (fun _ ⟨c207, c203, c204⟩ => q_assign rfl) ?_
      refine HA.nil ⟨⟨(hS.box 0 rfl), (hS.own 1 rfl), (hS.own 2 rfl)⟩, (Go.Wk.at_nil _ _)⟩ (by kernel_rfl) (thenQ_normal (?_))
      refine HW.ret (?_)
      refine ⟨.inr rfl, .bool false, res1 rfl (rt rfl), ?_⟩
      replace hS : St F_7 (fr) h_9 := hS.perm2 [] 5 rfl rfl
      exact ⟨F_7, false, rfl, hK, hS, hM⟩
  · replace hM := hM.2 c_1
    refine HA.past (k := 4) rfl rfl (by kernel_rfl) (by kernel_rfl) (past_by rfl rfl c_1) rfl ?_
    refine HA.past (k := 5) rfl rfl (by kernel_rfl) (by kernel_rfl) (past_by rfl rfl c_1) rfl ?_
    refine HA.past (k := 6) rfl rfl (by kernel_rfl) (by kernel_rfl) (past_by rfl rfl c_1) rfl ?_
    refine HA.past (k := 7) rfl rfl (by kernel_rfl) (by kernel_rfl) (past_by rfl rfl c_1) rfl ?_
    refine HA.past (k := 8) rfl rfl (by kernel_rfl) (by kernel_rfl) (past_by rfl rfl c_1) rfl ?_
    refine HA.val (k := 9) (v := .bool false) rfl rfl (by kernel_rfl) (by kernel_rfl) (want_none) rfl (fun _ ⟨c207, c203, c204⟩ => q_pickK false rfl c_1 rfl) ?_
    refine HA.val (k := 10) (v := .bool false) rfl rfl (by kernel_rfl) (by kernel_rfl) (want_none) rfl (fun _ ⟨c207, c203, c204⟩ => q_move rfl) ?_
    refine HA.past (k := 11) rfl rfl (by kernel_rfl) (by kernel_rfl) (past_some rfl rfl) rfl ?_
    refine HA.past (k := 12) rfl rfl (by kernel_rfl) (by kernel_rfl) (past_some rfl rfl) rfl ?_
    refine HA.past (k := 13) rfl rfl (by kernel_rfl) (by kernel_rfl) (past_some rfl rfl) rfl ?_
    refine HA.past (k := 14) rfl rfl (by kernel_rfl) (by kernel_rfl) (past_some rfl rfl) rfl ?_
    refine HA.past (k := 15) rfl rfl (by kernel_rfl) (by kernel_rfl) (past_some rfl rfl) rfl ?_
    refine HA.one (k := 16) ⟨⟨(hS.box 0 rfl), (hS.own 1 rfl), (hS.own 2 rfl)⟩, (Go.Wk.at_nil _ _)⟩ (by kernel_rfl) ?_
    refine HS.past rfl (past_some rfl rfl) rfl ?_
    refine HA.past (k := 17) rfl rfl (by kernel_rfl) (by kernel_rfl) (past_some rfl rfl) rfl ?_
    refine HA.val (k := 18) (v := .bool false) rfl rfl (by kernel_rfl) (by kernel_rfl) (want_none) rfl (fun _ ⟨c207, c203, c204⟩ => q_pick rfl rfl) ?_
    refine HA.val (k := 19) (v := .bool false) rfl rfl (by kernel_rfl) (by kernel_rfl) (want_none) rfl (fun _ ⟨c207, c203, c204⟩ => q_move rfl) ?_
    refine HA.past (k := 20) rfl rfl (by kernel_rfl) (by kernel_rfl) (past_some rfl rfl) rfl ?_
    refine HA.past (k := 21) rfl rfl (by kernel_rfl) (by kernel_rfl) (past_some rfl rfl) rfl ?_
    refine HA.past (k := 22) rfl rfl (by kernel_rfl) (by kernel_rfl) (past_some rfl rfl) rfl ?_
    refine HA.past (k := 23) rfl rfl (by kernel_rfl) (by kernel_rfl) (past_some rfl rfl) rfl ?_
    refine HA.past (k := 24) rfl rfl (by kernel_rfl) (by kernel_rfl) (past_some rfl rfl) rfl ?_
    refine HA.val (k := 25) (v := .bool false) rfl rfl (by kernel_rfl) (by kernel_rfl) (want_none) rfl (fun _ ⟨c207, c203, c204⟩ => q_pick rfl rfl) ?_
    refine HA.val (k := 26) (v := .bool false) rfl rfl (by kernel_rfl) (by kernel_rfl) (want_none) rfl (fun _ ⟨c207, c203, c204⟩ => q_move rfl) ?_
    refine HA.past (k := 27) rfl rfl (by kernel_rfl) (by kernel_rfl) (past_some rfl rfl) rfl ?_
    refine HA.past (k := 28) rfl rfl (by kernel_rfl) (by kernel_rfl) (past_some rfl rfl) rfl ?_
    refine HA.val (k := 29) (v := .bool false) rfl rfl (by kernel_rfl) (by kernel_rfl) (want_none) rfl (fun _ ⟨c207, c203, c204⟩ => q_pick rfl rfl) ?_
    refine HA.val (k := 30) (v := .bool false) rfl rfl (by kernel_rfl) (by kernel_rfl) (want_none) rfl (fun _ ⟨c207, c203, c204⟩ => q_move rfl) ?_
    refine HA.past (k := 31) rfl rfl (by kernel_rfl) (by kernel_rfl) (past_some rfl rfl) rfl ?_
    refine HA.past (k := 32) rfl rfl (by kernel_rfl) (by kernel_rfl) (past_some rfl rfl) rfl ?_
    refine HA.one (k := 33) ⟨⟨(hS.box 0 rfl), (hS.own 1 rfl), (hS.own 2 rfl)⟩, (Go.Wk.at_nil _ _)⟩ (by kernel_rfl) ?_
    refine HS.past rfl (past_some rfl rfl) rfl ?_
    refine HA.one (k := 34) ⟨⟨(hS.box 0 rfl), (hS.own 1 rfl), (hS.own 2 rfl)⟩, (Go.Wk.at_nil _ _)⟩ (by kernel_rfl) ?_
    refine HS.past rfl (past_some rfl rfl) rfl ?_
    refine HA.val (k := 35) (v := .bool false) rfl rfl (by kernel_rfl) (by kernel_rfl) (want_none) rfl (fun _ ⟨c207, c203, c204⟩ => q_pick rfl rfl) ?_
    refine HA.val (k := 36) (v := .bool false) rfl rfl (by kernel_rfl) (by kernel_rfl) (want_none) rfl (fun _ ⟨c207, c203, c204⟩ => q_move rfl) ?_
    refine HA.past (k := 37) rfl rfl (by kernel_rfl) (by kernel_rfl) (past_some rfl rfl) rfl ?_
    refine HA.past (k := 38) rfl rfl (by kernel_rfl) (by kernel_rfl) (past_some rfl rfl) rfl ?_
    refine HA.one (k := 39) ⟨⟨(hS.box 0 rfl), (hS.own 1 rfl), (hS.own 2 rfl)⟩, (Go.Wk.at_nil _ _)⟩ (by kernel_rfl) ?_
    refine HS.past rfl (past_some rfl rfl) rfl ?_
    refine HA.one (k := 40) ⟨⟨(hS.box 0 rfl), (hS.own 1 rfl), (hS.own 2 rfl)⟩, (Go.Wk.at_nil _ _)⟩ (by kernel_rfl) ?_
    refine HS.past rfl (past_some rfl rfl) rfl ?_
    refine HA.past (k := 41) rfl rfl (by kernel_rfl) (by kernel_rfl) (past_some rfl rfl) rfl ?_
    refine HA.val (k := 42) (v := .bool false) rfl rfl (by kernel_rfl) (by kernel_rfl) (want_none) rfl (fun _ ⟨c207, c203, c204⟩ => q_pick rfl rfl) ?_
    refine HA.val (k := 43) (v := .bool false) rfl rfl (by kernel_rfl) (by kernel_rfl) (want_none) rfl (fun _ ⟨c207, c203, c204⟩ => q_assign rfl) ?_
    refine HA.nil ⟨⟨(hS.box 0 rfl), (hS.own 1 rfl), (hS.own 2 rfl)⟩, (Go.Wk.at_nil _ _)⟩ (by kernel_rfl) (thenQ_normal (?_))
    refine HW.ret (?_)
    refine ⟨.inr rfl, .bool false, res1 rfl (rt rfl), ?_⟩
    replace hS : St F_7 (fr) h_9 := hS.perm2 [] 5 rfl rfl
    exact ⟨F_7, false, rfl, hK, hS, hM⟩

def law08_Addrs_j1 (l : List T_api_Addr) (Q : (List T_api_Addr) → Prop) (out_1 : List T_api_Addr) (i_1 : Int) (K_1 : (List T_api_Addr) → Int → Prop) (b_2 : Bool) : Prop :=
  (b_2 = true → ((0 : Int) ≤ i_1 ∧ i_1 < (l.length : Int)) ∧ (((out_1.length + ([(gi l i_1)] : List T_api_Addr).length) * 17 ≤ 140737488355328) ∧ ((I64 (i_1 + 1)) ∧ (K_1 (out_1 ++ ([(gi l i_1)] : List T_api_Addr)) (i_1 + 1))))) ∧ (b_2 = false → Q out_1)
def law08_Addrs_l1 (l : List T_api_Addr) (most : Int) (Q : (List T_api_Addr) → Prop) (K_1 : (List T_api_Addr) → Int → Prop) (out_1 : List T_api_Addr) (i_1 : Int) : Prop :=
  (i_1 < (l.length : Int) → law08_Addrs_j1 l Q out_1 i_1 K_1 (decide (i_1 < most))) ∧ (¬ (i_1 < (l.length : Int)) → law08_Addrs_j1 l Q out_1 i_1 K_1 false)
def law08_Addrs_W (l : List T_api_Addr) (most : Int) (Q : (List T_api_Addr) → Prop) : Prop :=
  loopW (fun (K_1 : (List T_api_Addr × Int) → Prop) (s : List T_api_Addr × Int) => law08_Addrs_l1 l most Q (fun out_1 i_1 => K_1 (out_1, i_1)) s.1 s.2) ([], 0)
set_option maxHeartbeats 40000000 in
set_option maxRecDepth 100000 in
theorem law08_Addrs_walk {F : Fz} {fr : List Ow} {h0 : Heap} (l : List T_api_Addr) (most : Int) (vl : Value) (hS : St F (fr) h0) (hL_l : SliceF F h0 17 e_api_Addr vl l) {Q : (List T_api_Addr) → Prop} (hM : law08_Addrs_W l most Q) :
    HC Try.prog 9 #[vl, .int .i64 most] h0 fun u h' => ∃ (F' : Fz) (r_1 : List T_api_Addr) (vr_1 : Value), u = vr_1 ∧ Kp F h0 F' h' ∧ St F' (Ow.own 34 17 e_api_Addr vr_1 r_1 :: fr) h' ∧ (SliceF F' h' 17 e_api_Addr vl l) ∧ Q r_1 := by
  unfold law08_Addrs_W at hM
  have hK := Kp.refl F h0
  refine HC.of_HW (n := 27) Try.func9 rfl rfl (Nat.le_of_ble_eq_true rfl) ?_
  refine HW.seq ?_
  refine HW.region ?_
  refine HO.val (v := .slice none 0 0) (want_none) rfl (q_assign rfl) ?_
  refine HO.nil (thenQ_normal (?_))
  refine HW.seq ?_
  refine HW.region ?_
  refine HO.eff (want_none) rfl (st_litEmpty (α := T_api_Addr) e_api_Addr hS tl_22) ?_
  rintro _ h_1 ⟨b_1, rfl, hS, hk⟩
  replace hK := hK.trans hk
  replace hL_l := hL_l.kp hk
  refine HO.val (v := .slice (some ⟨b_1, 0, none⟩) 0 0) (want_none) rfl (q_assign rfl) ?_
  refine HO.nil (thenQ_normal (?_))
  refine HW.seq ?_
  refine HW.seq ?_
  refine HW.region ?_
  refine HO.val (v := .int .i64 0) (want_none) rfl (q_assign rfl) ?_
  refine HO.nil (thenQ_normal (?_))
  refine HW.block ?_
  obtain ⟨I_1, m_1, hI_1, hR_1⟩ := hM
  refine HW.loop (S := List T_api_Addr × Int) (fun s f h => match s with | (out_1, i_1) => ∃ (F' : Fz) (vout_1 : Value), f 0 = vl ∧ f 1 = .int .i64 most ∧ f 4 = .slice none 0 0 ∧ f 5 = vout_1 ∧ f 6 = .int .i64 i_1 ∧ Kp F h0 F' h ∧ St F' (Ow.own 34 17 e_api_Addr vout_1 out_1 :: fr) h ∧ (SliceF F' h 17 e_api_Addr vl l) ∧ I_1 (out_1, i_1)) m_1 ([], 0) ⟨F, .slice (some ⟨b_1, 0, none⟩) 0 0, rfl, rfl, rfl, rfl, rfl, hK, hS, hL_l, hI_1⟩ ?_
  rintro ⟨out_1, i_1⟩ f_1 h_2 ⟨F_1, vout_1, e0, e1, e4, e5, e6, hK, hS, hL_l, hI0⟩
  obtain ⟨K_1, hKe_1⟩ : ∃ K : (List T_api_Addr) → Int → Prop, K = fun out_1' i_1' => I_1 (out_1', i_1') ∧ m_1 (out_1', i_1') < m_1 (out_1, i_1) := ⟨_, rfl⟩
  have hM : law08_Addrs_l1 l most Q K_1 out_1 i_1 := by rw [hKe_1]; exact hR_1 (out_1, i_1) hI0
  unfold law08_Addrs_l1 at hM
  refine HW.fr [(0, vl), (1, .int .i64 most), (4, .slice none 0 0), (5, vout_1), (6, .int .i64 i_1)] ⟨e0, e1, e4, e5, e6, trivial⟩ ?_
  refine HW.seq ?_
  refine HW.seq_mid (fun f h => ∃ (F' : Fz) (b_2 : Bool), f 0 = vl ∧ f 1 = .int .i64 most ∧ f 4 = .slice none 0 0 ∧ f 5 = vout_1 ∧ f 6 = .int .i64 i_1 ∧ f 16 = .bool b_2 ∧ Kp F h0 F' h ∧ St F' (Ow.own 34 17 e_api_Addr vout_1 out_1 :: fr) h ∧ (SliceF F' h 17 e_api_Addr vl l) ∧ law08_Addrs_j1 l Q out_1 i_1 K_1 b_2) ?_ ?_
  · refine HW.region ?_
    refine HO.val (v := .int .i64 i_1) (want_none) rfl (q_move rfl) ?_
    refine HO.val (v := vl) (want_none) rfl (q_move rfl) ?_
    refine HO.val (v := .int .i64 (l.length : Int)) (want_none) rfl (q_len ts_22 (shp hL_l.is) rfl rfl) ?_
    refine HO.val (v := .bool (decide (i_1 < (l.length : Int)))) (want_none) rfl (q_lss rfl rfl) ?_
    refine HO.val (v := .bool (decide (i_1 < (l.length : Int)))) (want_none) rfl (q_move rfl) ?_
    rcases Bool.eq_false_or_eq_true (decide (i_1 < (l.length : Int))) with c_1 | c_1
    · replace hM := hM.1 (of_decide_eq_true c_1)
      refine HO.val (v := .int .i64 i_1) (want_by rfl rfl c_1) rfl (q_move rfl) ?_
      refine HO.val (v := .int .i64 most) (want_by rfl rfl c_1) rfl (q_move rfl) ?_
      refine HO.val (v := .bool (decide (i_1 < most))) (want_by rfl rfl c_1) rfl (q_lss rfl rfl) ?_
      refine HO.val (v := .bool (decide (i_1 < most))) (want_none) rfl (q_pickK true rfl c_1 rfl) ?_
      refine HO.nil (thenQ_normal (?_))
      exact ⟨F_1, decide (i_1 < most), rfl, rfl, rfl, rfl, rfl, rfl, hK, hS, hL_l, hM⟩
    · replace hM := hM.2 (of_decide_eq_false c_1)
      refine HO.past (past_by rfl rfl c_1) rfl ?_
      refine HO.past (past_by rfl rfl c_1) rfl ?_
      refine HO.past (past_by rfl rfl c_1) rfl ?_
      refine HO.val (v := .bool false) (want_none) rfl (q_pickK false rfl c_1 rfl) ?_
      refine HO.nil (thenQ_normal (?_))
      exact ⟨F_1, false, rfl, rfl, rfl, rfl, rfl, rfl, hK, hS, hL_l, hM⟩
  · rintro f_2 h_3 ⟨F_2, b_2, e0, e1, e4, e5, e6, e16, hK, hS, hL_l, hM⟩
    unfold law08_Addrs_j1 at hM
    refine HW.fr [(0, vl), (1, .int .i64 most), (4, .slice none 0 0), (5, vout_1), (6, .int .i64 i_1), (16, .bool b_2)] ⟨e0, e1, e4, e5, e6, e16, trivial⟩ ?_
    refine HW.cond b_2 rfl (fun c_2 => ?_) (fun c_2 => ?_)
    · replace hM := hM.1 c_2
      refine HW.skip (thenQ_normal (?_))
      refine HW.seq ?_
      refine HW.block ?_
      refine HW.region ?_
      refine HO.val (v := vout_1) (want_none) rfl (q_move rfl) ?_
      refine HO.val (v := vl) (want_none) rfl (q_move rfl) ?_
      refine HO.val (v := .int .i64 i_1) (want_none) rfl (q_move rfl) ?_
      obtain ⟨ho_1, hM⟩ := hM
      refine HO.val (v := elemPtr 17 vl (i_1).toNat) (want_none) rfl (q_idx ts_22 hL_l.is rfl rfl ho_1) ?_
      refine HO.val (v := .agg (e_api_Addr (gi l i_1)).toArray) (want_none) rfl (q_ldElemAgg (cs := (e_api_Addr (gi l i_1))) ta_34 hL_l.is rfl ho_1 rfl) ?_
      refine HO.eff (want_none) rfl (st_lit (enc := e_api_Addr) (cells := #[.bool ((gi l i_1).1), .int .u8 (b8 ((gi l i_1).2) 0), .int .u8 (b8 ((gi l i_1).2) 1), .int .u8 (b8 ((gi l i_1).2) 2), .int .u8 (b8 ((gi l i_1).2) 3), .int .u8 (b8 ((gi l i_1).2) 4), .int .u8 (b8 ((gi l i_1).2) 5), .int .u8 (b8 ((gi l i_1).2) 6), .int .u8 (b8 ((gi l i_1).2) 7), .int .u8 (b8 ((gi l i_1).2) 8), .int .u8 (b8 ((gi l i_1).2) 9), .int .u8 (b8 ((gi l i_1).2) 10), .int .u8 (b8 ((gi l i_1).2) 11), .int .u8 (b8 ((gi l i_1).2) 12), .int .u8 (b8 ((gi l i_1).2) 13), .int .u8 (b8 ((gi l i_1).2) 14), .int .u8 (b8 ((gi l i_1).2) 15)]) #[.bool false, .int .u8 0, .int .u8 0, .int .u8 0, .int .u8 0, .int .u8 0, .int .u8 0, .int .u8 0, .int .u8 0, .int .u8 0, .int .u8 0, .int .u8 0, .int .u8 0, .int .u8 0, .int .u8 0, .int .u8 0, .int .u8 0] ([(gi l i_1)] : List T_api_Addr) hS tl_22 (by decide) (by decide) (by kernel_rfl) (by kernel_rfl) rfl (by intro x hx; rfl) rfl) ?_
      rintro _ h_4 ⟨b_3, rfl, hS, hk⟩
      replace hK := hK.trans hk
      replace hL_l := hL_l.kp hk
      obtain ⟨ho_2, hM⟩ := hM
      refine HO.eff (want_none) rfl (st_append te_22 hS (i := 1) rfl (hS.own 0 rfl).slice rfl rfl rfl (by intro a _ u hu; simp [e_api_Addr, encI, encN, encB, encT] at hu; rcases hu with rfl | rfl | rfl | rfl | rfl | rfl | rfl | rfl | rfl | rfl | rfl | rfl | rfl | rfl | rfl | rfl | rfl <;> rfl) ho_2 (by omega)) ?_
      rintro v_1 h_5 ⟨hS, hk⟩
      replace hS : St F_2 (Ow.own 34 17 e_api_Addr (.slice (some ⟨b_3, 0, none⟩) 1 1) ([(gi l i_1)] : List T_api_Addr) :: Ow.own 34 17 e_api_Addr v_1 (out_1 ++ ([(gi l i_1)] : List T_api_Addr)) :: fr) h_5 := hS
      replace hK := hK.trans hk
      replace hL_l := hL_l.kp hk
      refine HO.val (v := v_1) (want_none) rfl (q_assign rfl) ?_
      refine HO.nil (blockQ_normal (thenQ_normal (?_)))
      refine HW.region ?_
      refine HO.val (v := .int .i64 i_1) (want_none) rfl (q_move rfl) ?_
      obtain ⟨ho_3, hM⟩ := hM
      refine HO.val (v := .int .i64 (i_1 + 1)) (want_none) rfl (q_addN _ rfl rfl rfl ho_3.1 ho_3.2) ?_
      refine HO.val (v := .int .i64 (i_1 + 1)) (want_none) rfl (q_assign rfl) ?_
      refine HO.nil (thenQ_normal (?_))
      replace hS : St F_2 (Ow.own 34 17 e_api_Addr v_1 (out_1 ++ ([(gi l i_1)] : List T_api_Addr)) :: fr) h_5 := hS.perm2 [1] 2 rfl rfl
      rw [hKe_1] at hM
      exact ⟨(out_1 ++ ([(gi l i_1)] : List T_api_Addr), i_1 + 1), ⟨F_2, v_1, rfl, rfl, rfl, rfl, rfl, hK, hS, hL_l, hM.1⟩, hM.2⟩
    · replace hM := hM.2 c_2
      refine HW.exit (thenQ_exit (thenQ_exit (blockQ_exit (thenQ_normal (?_)))))
      refine HW.seq ?_
      refine HW.region ?_
      refine HO.val (v := vout_1) (want_none) rfl (q_move rfl) ?_
      refine HO.val (v := vout_1) (want_none) rfl (q_assign rfl) ?_
      refine HO.nil (thenQ_normal (?_))
      refine HW.ret (?_)
      refine ⟨.inr rfl, vout_1, res1 rfl (rt rfl), ?_⟩
      exact ⟨F_2, out_1, vout_1, rfl, hK, hS, hL_l, hM⟩

def ref15_Own_j1 (s_Exclude : Bool) (s_Off : List T_api_Addr) (Q : Bool → (List T_api_Addr) → (List T_api_Addr) → Prop) (out_1_1 : List T_api_Addr) : Prop :=
  (s_Exclude = true → ref11_Of_W s_Off (fun r_2 => ref11_Pick_W r_2 out_1_1 false (fun r_3 => Q s_Exclude out_1_1 r_3))) ∧ (s_Exclude = false → Q s_Exclude out_1_1 [])
def ref15_Own_W (s_Exclude : Bool) (s_On : List T_api_Addr) (s_Off : List T_api_Addr) (Q : Bool → (List T_api_Addr) → (List T_api_Addr) → Prop) : Prop :=
  ref11_Of_W s_On (fun r_1 => ref15_Own_j1 s_Exclude s_Off Q r_1)
set_option maxHeartbeats 40000000 in
set_option maxRecDepth 100000 in
theorem ref15_Own_walk {F : Fz} {fr : List Ow} {h0 : Heap} (s_Exclude : Bool) (s_On : List T_api_Addr) (s_Off : List T_api_Addr) (vs_On : Value) (vs_Off : Value) (hS : St F (fr) h0) (hL_s_On : SliceF F h0 17 e_api_Addr vs_On s_On) (hL_s_Off : SliceF F h0 17 e_api_Addr vs_Off s_Off) {Q : Bool → (List T_api_Addr) → (List T_api_Addr) → Prop} (hM : ref15_Own_W s_Exclude s_On s_Off Q) :
    HC Try.prog 28 #[.agg #[.bool s_Exclude, vs_On, vs_Off]] h0 fun u h' => ∃ (F' : Fz) (r_0_1 : Bool) (r_1_1 : List T_api_Addr) (r_2_1 : List T_api_Addr) (vr_1_1 : Value) (vr_2_1 : Value), u = .agg #[.bool r_0_1, vr_1_1, vr_2_1] ∧ Kp F h0 F' h' ∧ St F' (Ow.own 34 17 e_api_Addr vr_2_1 r_2_1 :: fr) h' ∧ (SliceF F' h' 17 e_api_Addr vs_On s_On) ∧ (SliceF F' h' 17 e_api_Addr vs_Off s_Off) ∧ (SliceF F' h' 17 e_api_Addr vr_1_1 r_1_1) ∧ Q r_0_1 r_1_1 r_2_1 := by
  unfold ref15_Own_W at hM
  have hK := Kp.refl F h0
  refine HC.of_HW (n := 20) Try.func28 rfl rfl (Nat.le_of_ble_eq_true rfl) ?_
  refine HW.seq ?_
  refine HW.region ?_
  refine HO.eff (want_none) rfl (st_box (c := #[.bool s_Exclude, vs_On, vs_Off]) (k' := 3) hS rfl rfl) ?_
  rintro _ h_1 ⟨b_1, rfl, hS, hk⟩
  replace hK := hK.trans hk
  replace hL_s_On := hL_s_On.kp hk
  replace hL_s_Off := hL_s_Off.kp hk
  refine HO.eff (want_none) rfl (st_alloc (c := #[.bool false, .slice none 0 0, .slice none 0 0]) hS tz_24 rfl) ?_
  rintro _ h_2 ⟨b_2, rfl, hS, hk⟩
  replace hK := hK.trans hk
  replace hL_s_On := hL_s_On.kp hk
  replace hL_s_Off := hL_s_Off.kp hk
  refine HO.nil (thenQ_normal (?_))
  refine HW.seq_mid (fun f h => ∃ (F' : Fz) (out_1_1 : List T_api_Addr) (b_3 : Nat) (vout_1_1 : Value), f 1 = .pointer (some ⟨b_1, 0, none⟩) ∧ f 2 = .pointer (some ⟨b_2, 0, none⟩) ∧ f 3 = .pointer (some ⟨b_3, 0, none⟩) ∧ Kp F h0 F' h ∧ St F' (Ow.box b_1 24 #[.bool s_Exclude, vs_On, vs_Off] :: Ow.box b_2 24 #[.bool false, .slice none 0 0, .slice none 0 0] :: Ow.box b_3 24 #[.bool s_Exclude, vout_1_1, .slice none 0 0] :: fr) h ∧ (SliceF F' h 17 e_api_Addr vs_On s_On) ∧ (SliceF F' h 17 e_api_Addr vs_Off s_Off) ∧ (SliceF F' h 17 e_api_Addr vout_1_1 out_1_1) ∧ ref15_Own_j1 s_Exclude s_Off Q out_1_1) ?_ ?_
  · refine HW.regionA 8 mixed (fun h => (Blk h b_1 (.cells #[.bool s_Exclude, vs_On, vs_Off] 24 (0, 0)))) [] (by kernel_rfl) ?_
    refine HA.val (k := 0) (v := .pointer (some ⟨b_1, 0, none⟩)) rfl rfl (by kernel_rfl) (by kernel_rfl) (want_none) rfl (fun _ c202 => q_fieldAddr fa_24_0 rfl rfl) ?_
    refine HA.val (k := 1) (v := .bool s_Exclude) rfl rfl (by kernel_rfl) (by kernel_rfl) (want_none) rfl (fun _ c202 => q_load to_4 rfl (Blk.cell c202 rfl)) ?_
    refine HA.val (k := 2) (v := .pointer (some ⟨b_1, 1, none⟩)) rfl rfl (by kernel_rfl) (by kernel_rfl) (want_none) rfl (fun _ c202 => q_fieldAddr fa_24_1 rfl rfl) ?_
    refine HA.val (k := 3) (v := vs_On) rfl rfl (by kernel_rfl) (by kernel_rfl) (want_none) rfl (fun _ c202 => q_load to_22 rfl (Blk.cell c202 rfl)) ?_
    refine HA.two (k := 4) (k' := 6) ⟨(hS.box 1 rfl), (Go.Wk.at_nil _ _)⟩ (by kernel_rfl) ?_ ?_
    · refine HS.call rfl (want_none) rfl (ec en_8 rfl rfl) (ref11_Of_walk (fr := (Ow.box b_2 24 #[.bool false, .slice none 0 0, .slice none 0 0] :: Ow.box b_1 24 #[.bool s_Exclude, vs_On, vs_Off] :: fr)) s_On vs_On hS hL_s_On hM) ?_
      rintro vr_1 h_3 ⟨F_1, r_1, _, rfl, hk, hS, _, hL_3, hM⟩
      replace hK := hK.trans hk
      replace hL_s_On := hL_s_On.kp hk
      replace hL_s_Off := hL_s_Off.kp hk
      refine Go.Wk.HA.re (fun h => (SliceIs h 17 e_api_Addr vr_1 r_1) ∧ (Blk h b_1 (.cells #[.bool s_Exclude, vs_On, vs_Off] 24 (0, 0)))) [] (fun L_ h_ hL_ ⟨hL_3, c202⟩ hs_ => ⟨c202, (Go.Wk.at_nil _ _)⟩) ?_
      refine HA.val (k := 5) (v := .agg #[.bool s_Exclude, vr_1, .slice none 0 0]) rfl rfl (by kernel_rfl) (by kernel_rfl) (want_none) rfl (fun _ ⟨hL_3, c202⟩ => q_build tp_24 (fill_cons (cs' := #[.bool s_Exclude, .slice none 0 0, .slice none 0 0]) (vc := #[.bool s_Exclude]) rfl rfl rfl (Nat.le_of_ble_eq_true rfl) rfl (fill_cons (cs' := #[.bool s_Exclude, vr_1, .slice none 0 0]) (vc := #[vr_1]) rfl (shp hL_3).cells rfl (Nat.le_of_ble_eq_true rfl) rfl rfl))) ?_
      refine HA.one (k := 6) ⟨⟨hL_3.is, (hS.box 1 rfl)⟩, (Go.Wk.at_nil _ _)⟩ (by kernel_rfl) ?_
      refine HS.eff rfl (want_none) rfl (st_alloc (c := #[.bool false, .slice none 0 0, .slice none 0 0]) hS tz_24 rfl) ?_
      rintro _ h_4 ⟨b_4, rfl, hS, hk⟩
      replace hK := hK.trans hk
      replace hL_s_On := hL_s_On.kp hk
      replace hL_s_Off := hL_s_Off.kp hk
      replace hL_3 := hL_3.kp hk
      refine HA.one (k := 7) ⟨⟨hL_3.is, (hS.box 2 rfl)⟩, (Go.Wk.at_nil _ _)⟩ (by kernel_rfl) ?_
      refine HS.sto rfl (want_none) rfl (st_storeAgg (c' := #[.bool s_Exclude, vr_1, .slice none 0 0]) hS (i := 0) rfl ta_24 rfl rfl rfl (List.forall_mem_cons.2 ⟨rfl, (List.forall_mem_cons.2 ⟨(shp hL_3.is).one, (List.forall_mem_cons.2 ⟨rfl, (fun _ h => by cases h)⟩)⟩)⟩) (Nat.le_of_ble_eq_true rfl) rfl) ?_
      rintro h_5 ⟨hS, hk⟩
      replace hS : St F_1 (Ow.box b_4 24 #[.bool s_Exclude, vr_1, .slice none 0 0] :: Ow.box b_2 24 #[.bool false, .slice none 0 0, .slice none 0 0] :: Ow.box b_1 24 #[.bool s_Exclude, vs_On, vs_Off] :: fr) h_5 := hS
      replace hK := hK.trans hk
      replace hL_s_On := hL_s_On.kp hk
      replace hL_s_Off := hL_s_Off.kp hk
      replace hL_3 := hL_3.kp hk
      refine HA.nil ⟨⟨hL_3.is, (hS.box 2 rfl)⟩, (Go.Wk.at_nil _ _)⟩ (by kernel_rfl) (thenQ_normal (?_))
      replace hS : St F_1 (Ow.box b_1 24 #[.bool s_Exclude, vs_On, vs_Off] :: Ow.box b_2 24 #[.bool false, .slice none 0 0, .slice none 0 0] :: Ow.box b_4 24 #[.bool s_Exclude, vr_1, .slice none 0 0] :: fr) h_5 := hS.perm2 [2, 1, 0] 3 rfl rfl
      exact ⟨F_1, r_1, b_4, vr_1, rfl, rfl, rfl, hK, hS, hL_s_On, hL_s_Off, hL_3, hM⟩
    · refine HS.eff rfl (want_none) rfl (st_alloc (c := #[.bool false, .slice none 0 0, .slice none 0 0]) hS tz_24 rfl) ?_
      rintro _ h_3 ⟨b_4, rfl, hS, hk⟩
      replace hK := hK.trans hk
      replace hL_s_On := hL_s_On.kp hk
      replace hL_s_Off := hL_s_Off.kp hk
      refine HA.one (k := 4) ⟨(hS.box 2 rfl), (Go.Wk.at_nil _ _)⟩ (by kernel_rfl) ?_
      refine HS.call rfl (want_none) rfl (ec en_8 rfl rfl) (ref11_Of_walk (fr := (Ow.box b_4 24 #[.bool false, .slice none 0 0, .slice none 0 0] :: Ow.box b_2 24 #[.bool false, .slice none 0 0, .slice none 0 0] :: Ow.box b_1 24 #[.bool s_Exclude, vs_On, vs_Off] :: fr)) s_On vs_On hS hL_s_On hM) ?_
      rintro vr_1 h_4 ⟨F_1, r_1, _, rfl, hk, hS, _, hL_3, hM⟩
      replace hK := hK.trans hk
      replace hL_s_On := hL_s_On.kp hk
      replace hL_s_Off := hL_s_Off.kp hk
      refine Go.Wk.HA.re (fun h => (SliceIs h 17 e_api_Addr vr_1 r_1) ∧ (Blk h b_1 (.cells #[.bool s_Exclude, vs_On, vs_Off] 24 (0, 0)))) [] (fun L_ h_ hL_ ⟨hL_3, c202⟩ hs_ => ⟨c202, (Go.Wk.at_nil _ _)⟩) ?_
      refine HA.val (k := 5) (v := .agg #[.bool s_Exclude, vr_1, .slice none 0 0]) rfl rfl (by kernel_rfl) (by kernel_rfl) (want_none) rfl (fun _ ⟨hL_3, c202⟩ => q_build tp_24 (fill_cons (cs' := #[.bool s_Exclude, .slice none 0 0, .slice none 0 0]) (vc := #[.bool s_Exclude]) rfl rfl rfl (Nat.le_of_ble_eq_true rfl) rfl (fill_cons (cs' := #[.bool s_Exclude, vr_1, .slice none 0 0]) (vc := #[vr_1]) rfl (shp hL_3).cells rfl (Nat.le_of_ble_eq_true rfl) rfl rfl))) ?_
      refine HA.one (k := 7) ⟨⟨hL_3.is, (hS.box 2 rfl)⟩, (Go.Wk.at_nil _ _)⟩ (by kernel_rfl) ?_
      refine HS.sto rfl (want_none) rfl (st_storeAgg (c' := #[.bool s_Exclude, vr_1, .slice none 0 0]) hS (i := 0) rfl ta_24 rfl rfl rfl (List.forall_mem_cons.2 ⟨rfl, (List.forall_mem_cons.2 ⟨(shp hL_3.is).one, (List.forall_mem_cons.2 ⟨rfl, (fun _ h => by cases h)⟩)⟩)⟩) (Nat.le_of_ble_eq_true rfl) rfl) ?_
      rintro h_5 ⟨hS, hk⟩
      replace hS : St F_1 (Ow.box b_4 24 #[.bool s_Exclude, vr_1, .slice none 0 0] :: Ow.box b_2 24 #[.bool false, .slice none 0 0, .slice none 0 0] :: Ow.box b_1 24 #[.bool s_Exclude, vs_On, vs_Off] :: fr) h_5 := hS
      replace hK := hK.trans hk
      replace hL_s_On := hL_s_On.kp hk
      replace hL_s_Off := hL_s_Off.kp hk
      replace hL_3 := hL_3.kp hk
      refine HA.nil ⟨⟨hL_3.is, (hS.box 2 rfl)⟩, (Go.Wk.at_nil _ _)⟩ (by kernel_rfl) (thenQ_normal (?_))
      replace hS : St F_1 (Ow.box b_1 24 #[.bool s_Exclude, vs_On, vs_Off] :: Ow.box b_2 24 #[.bool false, .slice none 0 0, .slice none 0 0] :: Ow.box b_4 24 #[.bool s_Exclude, vr_1, .slice none 0 0] :: fr) h_5 := hS.perm2 [2, 1, 0] 3 rfl rfl
      exact ⟨F_1, r_1, b_4, vr_1, rfl, rfl, rfl, hK, hS, hL_s_On, hL_s_Off, hL_3, hM⟩
  · rintro f_1 h_6 ⟨F_2, out_1_1, b_3, vout_1_1, e1, e2, e3, hK, hS, hL_s_On, hL_s_Off, hL_2, hM⟩
    unfold ref15_Own_j1 at hM
    refine HW.fr [(1, .pointer (some ⟨b_1, 0, none⟩)), (2, .pointer (some ⟨b_2, 0, none⟩)), (3, .pointer (some ⟨b_3, 0, none⟩))] ⟨e1, e2, e3, trivial⟩ ?_
    refine HW.seq ?_
    refine HW.seq ?_
    refine HW.region ?_
    refine HO.val (v := .pointer (some ⟨b_1, 0, none⟩)) (want_none) rfl (q_fieldAddr fa_24_0 rfl rfl) ?_
    refine HO.val (v := .bool s_Exclude) (want_none) rfl (q_load to_4 rfl (Blk.cell (hS.box 0 rfl) rfl)) ?_
    refine HO.nil (thenQ_normal (?_))
    refine HW.cond s_Exclude rfl (fun c_1 => ?_) (fun c_1 => ?_)
    · replace hM := hM.1 c_1
      refine HW.regionA 8 mixed (fun h => (Blk h b_1 (.cells #[.bool s_Exclude, vs_On, vs_Off] 24 (0, 0)))) [(7, fun h => (Blk h b_3 (.cells #[.bool s_Exclude, vout_1_1, .slice none 0 0] 24 (0, 0))))] (by kernel_rfl) ?_
      refine HA.val (k := 0) (v := .pointer (some ⟨b_1, 2, none⟩)) rfl rfl (by kernel_rfl) (by kernel_rfl) (want_none) rfl (fun _ c204 => q_fieldAddr fa_24_2 rfl rfl) ?_
      refine HA.val (k := 1) (v := vs_Off) rfl rfl (by kernel_rfl) (by kernel_rfl) (want_none) rfl (fun _ c204 => q_load to_22 rfl (Blk.cell c204 rfl)) ?_
      refine HA.val (k := 3) (v := .pointer (some ⟨b_3, 1, none⟩)) rfl rfl (by kernel_rfl) (by kernel_rfl) (want_none) rfl (fun _ c204 => q_fieldAddr fa_24_1 rfl rfl) ?_
      refine Go.Wk.HA.valN (k := 4) (v := vout_1_1) 0 7 (fun h => (Blk h b_3 (.cells #[.bool s_Exclude, vout_1_1, .slice none 0 0] 24 (0, 0)))) rfl rfl (by kernel_rfl) (by kernel_rfl) (want_none) rfl rfl (by kernel_rfl) (fun _ c204 c206 => q_load to_22 rfl (Blk.cell c206 rfl)) ?_
      refine HA.one (k := 2) ⟨(hS.box 0 rfl), (at_now (hS.box 2 rfl) (Go.Wk.at_nil _ _))⟩ (by kernel_rfl) ?_
      refine HS.call rfl (want_none) rfl (ec en_8 rfl rfl) (ref11_Of_walk (fr := (Ow.box b_1 24 #[.bool s_Exclude, vs_On, vs_Off] :: Ow.box b_2 24 #[.bool false, .slice none 0 0, .slice none 0 0] :: Ow.box b_3 24 #[.bool s_Exclude, vout_1_1, .slice none 0 0] :: fr)) s_Off vs_Off hS hL_s_Off hM) ?_
      rintro vr_2 h_7 ⟨F_3, r_2, _, rfl, hk, hS, _, hL_4, hM⟩
      replace hK := hK.trans hk
      replace hL_s_On := hL_s_On.kp hk
      replace hL_s_Off := hL_s_Off.kp hk
      replace hL_2 := hL_2.kp hk
      refine HA.one (k := 5) ⟨(hS.box 0 rfl), (at_now (hS.box 2 rfl) (Go.Wk.at_nil _ _))⟩ (by kernel_rfl) ?_
      refine HS.call rfl (want_none) rfl (ec en_42 rfl rfl) (ref11_Pick_walk (fr := (Ow.box b_1 24 #[.bool s_Exclude, vs_On, vs_Off] :: Ow.box b_2 24 #[.bool false, .slice none 0 0, .slice none 0 0] :: Ow.box b_3 24 #[.bool s_Exclude, vout_1_1, .slice none 0 0] :: fr)) r_2 out_1_1 false vr_2 vout_1_1 hS hL_4 hL_2 hM) ?_
      rintro vr_3 h_8 ⟨F_4, r_3, _, rfl, hk, hS, _, _, hM⟩
      replace hK := hK.trans hk
      replace hL_s_On := hL_s_On.kp hk
      replace hL_s_Off := hL_s_Off.kp hk
      replace hL_2 := hL_2.kp hk
      replace hL_4 := hL_4.kp hk
      refine HA.val (k := 6) (v := .pointer (some ⟨b_3, 2, none⟩)) rfl rfl (by kernel_rfl) (by kernel_rfl) (want_none) rfl (fun _ c204 => q_fieldAddr fa_24_2 rfl rfl) ?_
      refine HA.one (k := 7) ⟨(hS.box 1 rfl), (at_now (hS.box 3 rfl) (Go.Wk.at_nil _ _))⟩ (by kernel_rfl) ?_
      refine HS.sto rfl (want_none) rfl (st_store (c' := #[.bool s_Exclude, vout_1_1, vr_3]) hS (i := 3) rfl to_22 rfl rfl (shp (hS.own 0 rfl).slice).cells (shp (hS.own 0 rfl).slice).one (Nat.le_of_ble_eq_true rfl) rfl) ?_
      rintro h_9 ⟨hS, hk⟩
      replace hS : St F_4 (Ow.own 34 17 e_api_Addr vr_3 r_3 :: Ow.box b_1 24 #[.bool s_Exclude, vs_On, vs_Off] :: Ow.box b_2 24 #[.bool false, .slice none 0 0, .slice none 0 0] :: Ow.box b_3 24 #[.bool s_Exclude, vout_1_1, vr_3] :: fr) h_9 := hS
      replace hK := hK.trans hk
      replace hL_s_On := hL_s_On.kp hk
      replace hL_s_Off := hL_s_Off.kp hk
      replace hL_2 := hL_2.kp hk
      replace hL_4 := hL_4.kp hk
      refine HA.nil ⟨(hS.box 1 rfl), (at_done (by kernel_rfl) (Go.Wk.at_nil _ _))⟩ (by kernel_rfl) (thenQ_normal (?_))
      refine HW.seq ?_
      refine HW.region ?_
      refine HO.val (v := .agg #[.bool s_Exclude, vout_1_1, vr_3]) (want_none) rfl (q_loadAgg (cs := [.bool s_Exclude, vout_1_1, vr_3]) ta_24 rfl rfl (Blk.cells (k := 3) (hS.box 3 rfl) rfl)) ?_
      refine HO.sto (want_none) rfl (st_storeAgg (c' := #[.bool s_Exclude, vout_1_1, vr_3]) hS (i := 2) rfl ta_24 rfl rfl rfl (List.forall_mem_cons.2 ⟨rfl, (List.forall_mem_cons.2 ⟨(shp hL_2.is).one, (List.forall_mem_cons.2 ⟨(shp (hS.own 0 rfl).slice).one, (fun _ h => by cases h)⟩)⟩)⟩) (Nat.le_of_ble_eq_true rfl) rfl) ?_
      rintro h_10 ⟨hS, hk⟩
      replace hS : St F_4 (Ow.own 34 17 e_api_Addr vr_3 r_3 :: Ow.box b_1 24 #[.bool s_Exclude, vs_On, vs_Off] :: Ow.box b_2 24 #[.bool s_Exclude, vout_1_1, vr_3] :: Ow.box b_3 24 #[.bool s_Exclude, vout_1_1, vr_3] :: fr) h_10 := hS
      replace hK := hK.trans hk
      replace hL_s_On := hL_s_On.kp hk
      replace hL_s_Off := hL_s_Off.kp hk
      replace hL_2 := hL_2.kp hk
      replace hL_4 := hL_4.kp hk
      refine HO.nil (thenQ_normal (?_))
      refine HW.ret (?_)
      refine ⟨.inr rfl, .agg #[.bool s_Exclude, vout_1_1, vr_3], res1 rfl (rca (cs := [.bool s_Exclude, vout_1_1, vr_3]) ta_24 rfl rfl (Blk.cells (k := 3) (hS.box 2 rfl) rfl)), ?_⟩
      replace hS : St F_4 (Ow.own 34 17 e_api_Addr vr_3 r_3 :: fr) h_10 := hS.perm2 [0] 4 rfl rfl
      exact ⟨F_4, s_Exclude, out_1_1, r_3, vout_1_1, vr_3, rfl, hK, hS, hL_s_On, hL_s_Off, hL_2, hM⟩
    · replace hM := hM.2 c_1
      refine HW.skip (thenQ_normal (?_))
      refine HW.seq ?_
      refine HW.region ?_
      refine HO.val (v := .agg #[.bool s_Exclude, vout_1_1, .slice none 0 0]) (want_none) rfl (q_loadAgg (cs := [.bool s_Exclude, vout_1_1, .slice none 0 0]) ta_24 rfl rfl (Blk.cells (k := 3) (hS.box 2 rfl) rfl)) ?_
      refine HO.sto (want_none) rfl (st_storeAgg (c' := #[.bool s_Exclude, vout_1_1, .slice none 0 0]) hS (i := 1) rfl ta_24 rfl rfl rfl (List.forall_mem_cons.2 ⟨rfl, (List.forall_mem_cons.2 ⟨(shp hL_2.is).one, (List.forall_mem_cons.2 ⟨rfl, (fun _ h => by cases h)⟩)⟩)⟩) (Nat.le_of_ble_eq_true rfl) rfl) ?_
      rintro h_11 ⟨hS, hk⟩
      replace hS : St F_2 (Ow.box b_1 24 #[.bool s_Exclude, vs_On, vs_Off] :: Ow.box b_2 24 #[.bool s_Exclude, vout_1_1, .slice none 0 0] :: Ow.box b_3 24 #[.bool s_Exclude, vout_1_1, .slice none 0 0] :: fr) h_11 := hS
      replace hK := hK.trans hk
      replace hL_s_On := hL_s_On.kp hk
      replace hL_s_Off := hL_s_Off.kp hk
      replace hL_2 := hL_2.kp hk
      refine HO.nil (thenQ_normal (?_))
      refine HW.ret (?_)
      refine ⟨.inr rfl, .agg #[.bool s_Exclude, vout_1_1, .slice none 0 0], res1 rfl (rca (cs := [.bool s_Exclude, vout_1_1, .slice none 0 0]) ta_24 rfl rfl (Blk.cells (k := 3) (hS.box 1 rfl) rfl)), ?_⟩
      replace hS := hS.nilOwn 34 17 e_api_Addr
      replace hS : St F_2 (Ow.own 34 17 e_api_Addr (.slice none 0 0) ([] : List T_api_Addr) :: fr) h_11 := hS.perm2 [0] 4 rfl rfl
      exact ⟨F_2, s_Exclude, out_1_1, [], vout_1_1, .slice none 0 0, rfl, hK, hS, hL_s_On, hL_s_Off, hL_2, hM⟩

def law15_Few_W (s_Exclude : Bool) (s_On : List T_api_Addr) (s_Off : List T_api_Addr) (Q : Bool → (List T_api_Addr) → (List T_api_Addr) → Prop) : Prop :=
  law08_Addrs_W s_On 6 (fun r_1 => law08_Addrs_W s_Off 6 (fun r_2 => ref15_Own_W s_Exclude r_1 r_2 (fun r_0_2 r_1_2 r_2_2 => Q r_0_2 r_1_2 r_2_2)))
set_option maxHeartbeats 40000000 in
set_option maxRecDepth 100000 in
theorem law15_Few_walk {F : Fz} {fr : List Ow} {h0 : Heap} (s_Exclude : Bool) (s_On : List T_api_Addr) (s_Off : List T_api_Addr) (vs_On : Value) (vs_Off : Value) (hS : St F (fr) h0) (hL_s_On : SliceF F h0 17 e_api_Addr vs_On s_On) (hL_s_Off : SliceF F h0 17 e_api_Addr vs_Off s_Off) {Q : Bool → (List T_api_Addr) → (List T_api_Addr) → Prop} (hM : law15_Few_W s_Exclude s_On s_Off Q) :
    HC Try.prog 7 #[.agg #[.bool s_Exclude, vs_On, vs_Off]] h0 fun u h' => ∃ (F' : Fz) (r_0_1 : Bool) (r_1_1 : List T_api_Addr) (r_2_1 : List T_api_Addr) (vr_1_1 : Value) (vr_2_1 : Value), u = .agg #[.bool r_0_1, vr_1_1, vr_2_1] ∧ Kp F h0 F' h' ∧ St F' (Ow.own 34 17 e_api_Addr vr_2_1 r_2_1 :: fr) h' ∧ (SliceF F' h' 17 e_api_Addr vs_On s_On) ∧ (SliceF F' h' 17 e_api_Addr vs_Off s_Off) ∧ (SliceF F' h' 17 e_api_Addr vr_1_1 r_1_1) ∧ Q r_0_1 r_1_1 r_2_1 := by
  unfold law15_Few_W at hM
  have hK := Kp.refl F h0
  refine HC.of_HW (n := 13) Try.func7 rfl rfl (Nat.le_of_ble_eq_true rfl) ?_
  refine HW.seq ?_
  refine HW.region ?_
  refine HO.eff (want_none) rfl (st_box (c := #[.bool s_Exclude, vs_On, vs_Off]) (k' := 3) hS rfl rfl) ?_
  rintro _ h_1 ⟨b_1, rfl, hS, hk⟩
  replace hK := hK.trans hk
  replace hL_s_On := hL_s_On.kp hk
  replace hL_s_Off := hL_s_Off.kp hk
  refine HO.eff (want_none) rfl (st_alloc (c := #[.bool false, .slice none 0 0, .slice none 0 0]) hS tz_24 rfl) ?_
  rintro _ h_2 ⟨b_2, rfl, hS, hk⟩
  replace hK := hK.trans hk
  replace hL_s_On := hL_s_On.kp hk
  replace hL_s_Off := hL_s_Off.kp hk
  refine HO.nil (thenQ_normal (?_))
  refine HW.seq ?_
  refine HW.regionA 11 mixed (fun h => (Blk h b_1 (.cells #[.bool s_Exclude, vs_On, vs_Off] 24 (0, 0)))) [] (by kernel_rfl) ?_
  refine HA.val (k := 0) (v := .pointer (some ⟨b_1, 0, none⟩)) rfl rfl (by kernel_rfl) (by kernel_rfl) (want_none) rfl (fun _ c202 => q_fieldAddr fa_24_0 rfl rfl) ?_
  refine HA.val (k := 1) (v := .bool s_Exclude) rfl rfl (by kernel_rfl) (by kernel_rfl) (want_none) rfl (fun _ c202 => q_load to_4 rfl (Blk.cell c202 rfl)) ?_
  refine HA.val (k := 2) (v := .pointer (some ⟨b_1, 1, none⟩)) rfl rfl (by kernel_rfl) (by kernel_rfl) (want_none) rfl (fun _ c202 => q_fieldAddr fa_24_1 rfl rfl) ?_
  refine HA.val (k := 3) (v := vs_On) rfl rfl (by kernel_rfl) (by kernel_rfl) (want_none) rfl (fun _ c202 => q_load to_22 rfl (Blk.cell c202 rfl)) ?_
  refine HA.val (k := 5) (v := .pointer (some ⟨b_1, 2, none⟩)) rfl rfl (by kernel_rfl) (by kernel_rfl) (want_none) rfl (fun _ c202 => q_fieldAddr fa_24_2 rfl rfl) ?_
  refine HA.val (k := 6) (v := vs_Off) rfl rfl (by kernel_rfl) (by kernel_rfl) (want_none) rfl (fun _ c202 => q_load to_22 rfl (Blk.cell c202 rfl)) ?_
  refine HA.one (k := 4) ⟨(hS.box 1 rfl), (Go.Wk.at_nil _ _)⟩ (by kernel_rfl) ?_
  refine HS.call rfl (want_none) rfl (ec en_9 rfl rfl) (law08_Addrs_walk (fr := (Ow.box b_2 24 #[.bool false, .slice none 0 0, .slice none 0 0] :: Ow.box b_1 24 #[.bool s_Exclude, vs_On, vs_Off] :: fr)) s_On 6 vs_On hS hL_s_On hM) ?_
  rintro vr_1 h_3 ⟨F_1, r_1, _, rfl, hk, hS, _, hM⟩
  replace hK := hK.trans hk
  replace hL_s_On := hL_s_On.kp hk
  replace hL_s_Off := hL_s_Off.kp hk
  refine Go.Wk.HA.re (fun h => (Blk h b_1 (.cells #[.bool s_Exclude, vs_On, vs_Off] 24 (0, 0)))) [(9, fun h => (OwnIs h 0 34 17 e_api_Addr vr_1 r_1))] (fun L_ h_ hL_ c202 hs_ => ⟨c202, (Go.Wk.at_nil _ _)⟩) ?_
  refine HA.one (k := 7) ⟨(hS.box 2 rfl), (at_now (hS.own 0 rfl) (Go.Wk.at_nil _ _))⟩ (by kernel_rfl) ?_
  refine HS.call rfl (want_none) rfl (ec en_9 rfl rfl) (law08_Addrs_walk (fr := (Ow.own 34 17 e_api_Addr vr_1 r_1 :: Ow.box b_2 24 #[.bool false, .slice none 0 0, .slice none 0 0] :: Ow.box b_1 24 #[.bool s_Exclude, vs_On, vs_Off] :: fr)) s_Off 6 vs_Off hS hL_s_Off hM) ?_
  rintro vr_2 h_4 ⟨F_2, r_2, _, rfl, hk, hS, _, hM⟩
  replace hK := hK.trans hk
  replace hL_s_On := hL_s_On.kp hk
  replace hL_s_Off := hL_s_Off.kp hk
  refine Go.Wk.HA.re (fun h => (Blk h b_1 (.cells #[.bool s_Exclude, vs_On, vs_Off] 24 (0, 0)))) [(9, fun h => (OwnIs h 0 34 17 e_api_Addr vr_2 r_2) ∧ (OwnIs h 0 34 17 e_api_Addr vr_1 r_1))] (fun L_ h_ hL_ c202 hs_ => ⟨c202, (at_keep 0 rfl hs_ (fun ⟨c246, c228⟩ => c228) (Go.Wk.at_nil _ _))⟩) ?_
  refine Go.Wk.HA.valN (k := 8) (v := .agg #[.bool s_Exclude, vr_1, vr_2]) 0 9 (fun h => (OwnIs h 0 34 17 e_api_Addr vr_2 r_2) ∧ (OwnIs h 0 34 17 e_api_Addr vr_1 r_1)) rfl rfl (by kernel_rfl) (by kernel_rfl) (want_none) rfl rfl (by kernel_rfl) (fun _ c202 ⟨c246, c228⟩ => q_build tp_24 (fill_cons (cs' := #[.bool s_Exclude, .slice none 0 0, .slice none 0 0]) (vc := #[.bool s_Exclude]) rfl rfl rfl (Nat.le_of_ble_eq_true rfl) rfl (fill_cons (cs' := #[.bool s_Exclude, vr_1, .slice none 0 0]) (vc := #[vr_1]) rfl (shp c228.slice).cells rfl (Nat.le_of_ble_eq_true rfl) rfl (fill_cons (cs' := #[.bool s_Exclude, vr_1, vr_2]) (vc := #[vr_2]) rfl (shp c246.slice).cells rfl (Nat.le_of_ble_eq_true rfl) rfl rfl)))) ?_
  refine HA.one (k := 9) ⟨(hS.box 3 rfl), (at_now ⟨(hS.own 0 rfl), (hS.own 1 rfl)⟩ (Go.Wk.at_nil _ _))⟩ (by kernel_rfl) ?_
  replace hS : St F_2 (Ow.own 34 17 e_api_Addr vr_1 r_1 :: Ow.own 34 17 e_api_Addr vr_2 r_2 :: Ow.box b_2 24 #[.bool false, .slice none 0 0, .slice none 0 0] :: Ow.box b_1 24 #[.bool s_Exclude, vs_On, vs_Off] :: fr) h_4 := hS.perm2 [1, 0, 2, 3] 4 rfl rfl
  obtain ⟨F_3, hS, hk, hL_2⟩ := hS.freezeOwn
  replace hK := hK.trans hk
  replace hL_s_On := hL_s_On.kp hk
  replace hL_s_Off := hL_s_Off.kp hk
  obtain ⟨F_4, hS, hk, hL_3⟩ := hS.freezeOwn
  replace hK := hK.trans hk
  replace hL_s_On := hL_s_On.kp hk
  replace hL_s_Off := hL_s_Off.kp hk
  replace hL_2 := hL_2.kp hk
  refine HS.call rfl (want_none) rfl (ec en_28 rfl rfl) (ref15_Own_walk (fr := (Ow.box b_2 24 #[.bool false, .slice none 0 0, .slice none 0 0] :: Ow.box b_1 24 #[.bool s_Exclude, vs_On, vs_Off] :: fr)) s_Exclude r_1 r_2 vr_1 vr_2 hS hL_2 hL_3 hM) ?_
  rintro _ h_5 ⟨F_5, r_0_2, r_1_2, r_2_2, vr_1_2, vr_2_2, rfl, hk, hS, _, _, hL_4, hM⟩
  replace hK := hK.trans hk
  replace hL_s_On := hL_s_On.kp hk
  replace hL_s_Off := hL_s_Off.kp hk
  replace hL_2 := hL_2.kp hk
  replace hL_3 := hL_3.kp hk
  refine HA.one (k := 10) ⟨(hS.box 2 rfl), (at_done (by kernel_rfl) (Go.Wk.at_nil _ _))⟩ (by kernel_rfl) ?_
  refine HS.sto rfl (want_none) rfl (st_storeAgg (c' := #[.bool r_0_2, vr_1_2, vr_2_2]) hS (i := 1) rfl ta_24 rfl rfl rfl (List.forall_mem_cons.2 ⟨rfl, (List.forall_mem_cons.2 ⟨(shp hL_4.is).one, (List.forall_mem_cons.2 ⟨(shp (hS.own 0 rfl).slice).one, (fun _ h => by cases h)⟩)⟩)⟩) (Nat.le_of_ble_eq_true rfl) rfl) ?_
  rintro h_6 ⟨hS, hk⟩
  replace hS : St F_5 (Ow.own 34 17 e_api_Addr vr_2_2 r_2_2 :: Ow.box b_2 24 #[.bool r_0_2, vr_1_2, vr_2_2] :: Ow.box b_1 24 #[.bool s_Exclude, vs_On, vs_Off] :: fr) h_6 := hS
  replace hK := hK.trans hk
  replace hL_s_On := hL_s_On.kp hk
  replace hL_s_Off := hL_s_Off.kp hk
  replace hL_2 := hL_2.kp hk
  replace hL_3 := hL_3.kp hk
  replace hL_4 := hL_4.kp hk
  refine HA.nil ⟨(hS.box 2 rfl), (at_done (by kernel_rfl) (Go.Wk.at_nil _ _))⟩ (by kernel_rfl) (thenQ_normal (?_))
  refine HW.ret (?_)
  refine ⟨.inr rfl, .agg #[.bool r_0_2, vr_1_2, vr_2_2], res1 rfl (rca (cs := [.bool r_0_2, vr_1_2, vr_2_2]) ta_24 rfl rfl (Blk.cells (k := 3) (hS.box 1 rfl) rfl)), ?_⟩
  replace hS : St F_5 (Ow.own 34 17 e_api_Addr vr_2_2 r_2_2 :: fr) h_6 := hS.perm2 [0] 3 rfl rfl
  exact ⟨F_5, r_0_2, r_1_2, r_2_2, vr_1_2, vr_2_2, rfl, hK, hS, hL_s_On, hL_s_Off, hL_4, hM⟩

def filter_Gone_W (s_Exclude : Bool) (s_On : List T_api_Addr) (s_Off : List T_api_Addr) (Q : Bool → Prop) : Prop :=
  ((!s_Exclude) = true → Q (decide ((s_On.length : Int) = 0))) ∧ ((!s_Exclude) = false → Q false)
set_option maxHeartbeats 40000000 in
set_option maxRecDepth 100000 in
theorem filter_Gone_walk {F : Fz} {fr : List Ow} {h0 : Heap} (s_Exclude : Bool) (s_On : List T_api_Addr) (s_Off : List T_api_Addr) (vs_On : Value) (vs_Off : Value) (hS : St F (fr) h0) (hL_s_On : SliceF F h0 17 e_api_Addr vs_On s_On) (hL_s_Off : SliceF F h0 17 e_api_Addr vs_Off s_Off) {Q : Bool → Prop} (hM : filter_Gone_W s_Exclude s_On s_Off Q) :
    HC Try.prog 14 #[.agg #[.bool s_Exclude, vs_On, vs_Off]] h0 fun u h' => ∃ (F' : Fz) (r_1 : Bool), u = .bool r_1 ∧ Kp F h0 F' h' ∧ St F' (fr) h' ∧ (SliceF F' h' 17 e_api_Addr vs_On s_On) ∧ (SliceF F' h' 17 e_api_Addr vs_Off s_Off) ∧ Q r_1 := by
  unfold filter_Gone_W at hM
  have hK := Kp.refl F h0
  refine HC.of_HW (n := 12) Try.func14 rfl rfl (Nat.le_of_ble_eq_true rfl) ?_
  refine HW.seq ?_
  refine HW.region ?_
  refine HO.eff (want_none) rfl (st_box (c := #[.bool s_Exclude, vs_On, vs_Off]) (k' := 3) hS rfl rfl) ?_
  rintro _ h_1 ⟨b_1, rfl, hS, hk⟩
  replace hK := hK.trans hk
  replace hL_s_On := hL_s_On.kp hk
  replace hL_s_Off := hL_s_Off.kp hk
  refine HO.val (v := .bool false) (want_none) rfl (q_assign rfl) ?_
  refine HO.nil (thenQ_normal (?_))
  refine HW.seq ?_
  refine HW.region ?_
  refine HO.val (v := .pointer (some ⟨b_1, 0, none⟩)) (want_none) rfl (q_fieldAddr fa_24_0 rfl rfl) ?_
  refine HO.val (v := .bool s_Exclude) (want_none) rfl (q_load to_4 rfl (Blk.cell (hS.box 0 rfl) rfl)) ?_
  refine HO.val (v := .bool (!s_Exclude)) (want_none) rfl (q_not rfl) ?_
  refine HO.val (v := .bool (!s_Exclude)) (want_none) rfl (q_move rfl) ?_
  rcases Bool.eq_false_or_eq_true (!s_Exclude) with c_1 | c_1
  · replace hM := hM.1 c_1
    refine HO.val (v := .pointer (some ⟨b_1, 1, none⟩)) (want_by rfl rfl c_1) rfl (q_fieldAddr fa_24_1 rfl rfl) ?_
    refine HO.val (v := vs_On) (want_by rfl rfl c_1) rfl (q_load to_22 rfl (Blk.cell (hS.box 0 rfl) rfl)) ?_
    refine HO.val (v := .int .i64 (s_On.length : Int)) (want_by rfl rfl c_1) rfl (q_len ts_22 (shp hL_s_On.is) rfl rfl) ?_
    refine HO.val (v := .bool (decide ((s_On.length : Int) = 0))) (want_by rfl rfl c_1) rfl (q_eql rfl rfl) ?_
    refine HO.val (v := .bool (decide ((s_On.length : Int) = 0))) (want_none) rfl (q_pickK true rfl c_1 rfl) ?_
    refine HO.val (v := .bool (decide ((s_On.length : Int) = 0))) (want_none) rfl (q_assign rfl) ?_
    refine HO.nil (thenQ_normal (?_))
    refine HW.ret (?_)
    refine ⟨.inr rfl, .bool (decide ((s_On.length : Int) = 0)), res1 rfl (rt rfl), ?_⟩
    replace hS : St F (fr) h_1 := hS.perm2 [] 1 rfl rfl
    exact ⟨F, decide ((s_On.length : Int) = 0), rfl, hK, hS, hL_s_On, hL_s_Off, hM⟩
  · replace hM := hM.2 c_1
    refine HO.past (past_by rfl rfl c_1) rfl ?_
    refine HO.past (past_by rfl rfl c_1) rfl ?_
    refine HO.past (past_by rfl rfl c_1) rfl ?_
    refine HO.past (past_by rfl rfl c_1) rfl ?_
    refine HO.val (v := .bool false) (want_none) rfl (q_pickK false rfl c_1 rfl) ?_
    refine HO.val (v := .bool false) (want_none) rfl (q_assign rfl) ?_
    refine HO.nil (thenQ_normal (?_))
    refine HW.ret (?_)
    refine ⟨.inr rfl, .bool false, res1 rfl (rt rfl), ?_⟩
    replace hS : St F (fr) h_1 := hS.perm2 [] 1 rfl rfl
    exact ⟨F, false, rfl, hK, hS, hL_s_On, hL_s_Off, hM⟩
end Go.Wk
