/- Walks and mirrors of Merge laws. -/
import Derived.Test.YtokodpeigafenaaDoorMrgW1
set_option linter.unusedSimpArgs false
set_option linter.unusedVariables false
set_option linter.unusedSectionVars false
namespace Go.Wk
open Go.HL
open Go.Proofs hiding encI
variable [DM]

def srcs_Good_l1 (l : List T_api_Addr) (Q : Bool → Prop) (K_1 : Int → Prop) (n_1 : Int) : Prop :=
  (n_1 < (l.length : Int) → ((0 : Int) ≤ n_1 ∧ n_1 < (l.length : Int)) ∧ (addr_Good_W (gi l n_1) (fun r_2 => ((!r_2) = true → Q false) ∧ ((!r_2) = false → (0 < n_1 → (I64 (n_1 - 1)) ∧ (((0 : Int) ≤ n_1 - 1 ∧ n_1 - 1 < (l.length : Int)) ∧ (addr_Cmp_W (gi l (n_1 - 1)) (gi l n_1) (fun r_3 => (0 ≤ r_3 → Q false) ∧ (¬ (0 ≤ r_3) → (I64 (n_1 + 1)) ∧ (K_1 (n_1 + 1))))))) ∧ (¬ (0 < n_1) → (I64 (n_1 + 1)) ∧ (K_1 (n_1 + 1))))))) ∧ (¬ (n_1 < (l.length : Int)) → Q true)
def srcs_Good_W (l : List T_api_Addr) (Q : Bool → Prop) : Prop :=
  loopW (fun (K_1 : Int → Prop) (s : Int) => srcs_Good_l1 l Q K_1 s) 0
set_option maxHeartbeats 40000000 in
set_option maxRecDepth 100000 in
theorem srcs_Good_walk {F : Fz} {fr : List Ow} {h0 : Heap} (l : List T_api_Addr) (vl : Value) (hS : St F (fr) h0) (hL_l : SliceF F h0 17 e_api_Addr vl l) {Q : Bool → Prop} (hM : srcs_Good_W l Q) :
    HC Tryd.prog 36 #[vl] h0 fun u h' => ∃ (F' : Fz) (r_1 : Bool), u = .bool r_1 ∧ Kp F h0 F' h' ∧ St F' (fr) h' ∧ (SliceF F' h' 17 e_api_Addr vl l) ∧ Q r_1 := by
  unfold srcs_Good_W at hM
  have hK := Kp.refl F h0
  refine HC.of_HW (n := 30) Tryd.func36 rfl rfl (Nat.le_of_ble_eq_true rfl) ?_
  refine HW.seq ?_
  refine HW.region ?_
  refine HO.val (v := .bool false) (want_none) rfl (q_assign rfl) ?_
  refine HO.nil (thenQ_normal (?_))
  refine HW.seq ?_
  refine HW.seq ?_
  refine HW.region ?_
  refine HO.val (v := vl) (want_none) rfl (q_move rfl) ?_
  refine HO.val (v := .int .i64 (l.length : Int)) (want_none) rfl (q_len ts_22 (shp hL_l.is) rfl rfl) ?_
  refine HO.val (v := .int .i64 0) (want_none) rfl (q_move rfl) ?_
  refine HO.nil (thenQ_normal (?_))
  refine HW.block ?_
  obtain ⟨I_1, m_1, hI_1, hR_1⟩ := hM
  refine HW.loop (S := Int) (fun n_1 f h => ∃ (F' : Fz), f 0 = vl ∧ f 2 = .bool false ∧ f 5 = vl ∧ f 6 = .int .i64 (l.length : Int) ∧ f 7 = .int .i64 n_1 ∧ Kp F h0 F' h ∧ St F' (fr) h ∧ (SliceF F' h 17 e_api_Addr vl l) ∧ I_1 n_1) m_1 0 ⟨F, rfl, rfl, rfl, rfl, rfl, hK, hS, hL_l, hI_1⟩ ?_
  rintro n_1 f_1 h_1 ⟨F_1, e0, e2, e5, e6, e7, hK, hS, hL_l, hI0⟩
  obtain ⟨K_1, hKe_1⟩ : ∃ K : Int → Prop, K = fun n_1' => I_1 n_1' ∧ m_1 n_1' < m_1 n_1 := ⟨_, rfl⟩
  have hM : srcs_Good_l1 l Q K_1 n_1 := by rw [hKe_1]; exact hR_1 n_1 hI0
  unfold srcs_Good_l1 at hM
  refine HW.fr [(0, vl), (2, .bool false), (5, vl), (6, .int .i64 (l.length : Int)), (7, .int .i64 n_1)] ⟨e0, e2, e5, e6, e7, trivial⟩ ?_
  refine HW.seq ?_
  refine HW.region ?_
  refine HO.val (v := .bool (decide (n_1 < (l.length : Int)))) (want_none) rfl (q_lss rfl rfl) ?_
  refine HO.nil (thenQ_normal (?_))
  refine HW.seq ?_
  refine HW.cond (decide (n_1 < (l.length : Int))) rfl (fun c_1 => ?_) (fun c_1 => ?_)
  · replace hM := hM.1 (of_decide_eq_true c_1)
    refine HW.skip (thenQ_normal (?_))
    refine HW.seq ?_
    refine HW.block ?_
    refine HW.seq ?_
    refine HW.region ?_
    refine HO.val (v := .int .i64 n_1) (want_none) rfl (q_move rfl) ?_
    obtain ⟨ho_1, hM⟩ := hM
    refine HO.val (v := elemPtr 17 vl (n_1).toNat) (want_none) rfl (q_idx ts_22 hL_l.is rfl rfl ho_1) ?_
    refine HO.val (v := .agg (e_api_Addr (gi l n_1)).toArray) (want_none) rfl (q_ldElemAgg (cs := (e_api_Addr (gi l n_1))) ta_27 hL_l.is rfl ho_1 rfl) ?_
    refine HO.eff (want_none) rfl (st_alloc (c := (e_api_Addr (false, (default : Ba 16))).toArray) hS tz_27 rfl) ?_
    rintro _ h_2 ⟨b_1, rfl, hS, hk⟩
    replace hK := hK.trans hk
    replace hL_l := hL_l.kp hk
    refine HO.val (v := .int .i64 n_1) (want_none) rfl (q_assign rfl) ?_
    refine HO.sto (want_none) rfl (st_storeAgg (c' := (e_api_Addr (gi l n_1)).toArray) hS (i := 0) rfl ta_27 rfl rfl rfl (one_e_api_Addr _) (Nat.le_of_ble_eq_true rfl) rfl) ?_
    rintro h_3 ⟨hS, hk⟩
    replace hS : St F_1 (Ow.box b_1 27 (e_api_Addr (gi l n_1)).toArray :: fr) h_3 := hS
    replace hK := hK.trans hk
    replace hL_l := hL_l.kp hk
    refine HO.nil (thenQ_normal (?_))
    refine HW.seq ?_
    refine HW.regionA 17 mixed (fun h => (SliceIs h 17 e_api_Addr vl l) ∧ (Blk h b_1 (.cells (e_api_Addr (gi l n_1)).toArray 27 (0, 0)))) [] (by kernel_rfl) ?_
    refine HA.val (k := 0) (v := .agg (e_api_Addr (gi l n_1)).toArray) rfl rfl (by kernel_rfl) (by kernel_rfl) (want_none) rfl (fun _ ⟨hL_l, c301⟩ => q_loadAgg (cs := (e_api_Addr (gi l n_1))) ta_27 rfl rfl (Blk.cells (k := 17) c301 rfl)) ?_
    refine HA.one (k := 1) ⟨⟨hL_l.is, (hS.box 0 rfl)⟩, (Go.Wk.at_nil _ _)⟩ (by kernel_rfl) ?_
    refine HS.call rfl (want_none) rfl (ec en_57 rfl rfl) (addr_Good_walk (fr := (Ow.box b_1 27 (e_api_Addr (gi l n_1)).toArray :: fr)) (gi l n_1) hS hM) ?_
    rintro _ h_4 ⟨F_2, r_2, rfl, hk, hS, hM⟩
    replace hK := hK.trans hk
    replace hL_l := hL_l.kp hk
    refine HA.val (k := 2) (v := .bool (!r_2)) rfl rfl (by kernel_rfl) (by kernel_rfl) (want_none) rfl (fun _ ⟨hL_l, c301⟩ => q_not rfl) ?_
    refine HA.val (k := 3) (v := .bool (!r_2)) rfl rfl (by kernel_rfl) (by kernel_rfl) (want_none) rfl (fun _ ⟨hL_l, c301⟩ => q_move rfl) ?_
    rcases Bool.eq_false_or_eq_true (!r_2) with c_2 | c_2
    · replace hM := hM.1 c_2
      refine HA.past (k := 4) rfl rfl (by kernel_rfl) (by kernel_rfl) (past_by rfl rfl c_2) rfl ?_
      refine HA.past (k := 5) rfl rfl (by kernel_rfl) (by kernel_rfl) (past_by rfl rfl c_2) rfl ?_
      refine HA.past (k := 6) rfl rfl (by kernel_rfl) (by kernel_rfl) (past_by rfl rfl c_2) rfl ?_
      refine HA.past (k := 7) rfl rfl (by kernel_rfl) (by kernel_rfl) (past_undef rfl rfl) rfl ?_
      refine HA.past (k := 8) rfl rfl (by kernel_rfl) (by kernel_rfl) (past_undef rfl rfl) rfl ?_
      refine HA.past (k := 9) rfl rfl (by kernel_rfl) (by kernel_rfl) (past_undef rfl rfl) rfl ?_
      refine HA.past (k := 10) rfl rfl (by kernel_rfl) (by kernel_rfl) (past_undef rfl rfl) rfl ?_
      refine HA.past (k := 11) rfl rfl (by kernel_rfl) (by kernel_rfl) (past_undef rfl rfl) rfl ?_
      refine HA.past (k := 12) rfl rfl (by kernel_rfl) (by kernel_rfl) (past_undef rfl rfl) rfl ?_
      refine HA.one (k := 13) ⟨⟨hL_l.is, (hS.box 0 rfl)⟩, (Go.Wk.at_nil _ _)⟩ (by kernel_rfl) ?_
      refine HS.past rfl (past_undef rfl rfl) rfl ?_
      refine HA.past (k := 14) rfl rfl (by kernel_rfl) (by kernel_rfl) (past_undef rfl rfl) rfl ?_
      refine HA.past (k := 15) rfl rfl (by kernel_rfl) (by kernel_rfl) (past_by rfl rfl c_2) rfl ?_
      refine HA.val (k := 16) (v := .bool true) rfl rfl (by kernel_rfl) (by kernel_rfl) (want_none) rfl (fun _ ⟨hL_l, c301⟩ => q_pickK true rfl c_2 rfl) ?_
      refine HA.nil ⟨⟨hL_l.is, (hS.box 0 rfl)⟩, (Go.Wk.at_nil _ _)⟩ (by kernel_rfl) (thenQ_normal (?_))
      refine HW.condT rfl ?_
      refine HW.seq ?_
      refine HW.region ?_
      refine HO.val (v := .bool false) (want_none) rfl (q_assign rfl) ?_
      refine HO.nil (thenQ_normal (?_))
      refine HW.ret (blockQ_ret (thenQ_ret (thenQ_ret (blockQ_ret (thenQ_ret (?_))))))
      refine ⟨.inr rfl, .bool false, res1 rfl (rt rfl), ?_⟩
      replace hS : St F_2 (fr) h_4 := hS.perm2 [] 1 rfl rfl
      exact ⟨F_2, false, rfl, hK, hS, hL_l, hM⟩
    · replace hM := hM.2 c_2
      refine HA.val (k := 4) (v := .int .i64 n_1) rfl rfl (by kernel_rfl) (by kernel_rfl) (want_by rfl rfl c_2) rfl (fun _ ⟨hL_l, c301⟩ => q_move rfl) ?_
      refine HA.val (k := 5) (v := .bool (decide (0 < n_1))) rfl rfl (by kernel_rfl) (by kernel_rfl) (want_by rfl rfl c_2) rfl (fun _ ⟨hL_l, c301⟩ => q_gtr rfl rfl) ?_
      refine HA.val (k := 6) (v := .bool (decide (0 < n_1))) rfl rfl (by kernel_rfl) (by kernel_rfl) (want_by rfl rfl c_2) rfl (fun _ ⟨hL_l, c301⟩ => q_move rfl) ?_
      rcases Bool.eq_false_or_eq_true (decide (0 < n_1)) with c_3 | c_3
      · replace hM := hM.1 (of_decide_eq_true c_3)
        refine HA.val (k := 7) (v := vl) rfl rfl (by kernel_rfl) (by kernel_rfl) (want_by rfl rfl c_3) rfl (fun _ ⟨hL_l, c301⟩ => q_move rfl) ?_
        refine HA.val (k := 8) (v := .int .i64 n_1) rfl rfl (by kernel_rfl) (by kernel_rfl) (want_by rfl rfl c_3) rfl (fun _ ⟨hL_l, c301⟩ => q_move rfl) ?_
        obtain ⟨ho_2, hM⟩ := hM
        refine HA.val (k := 9) (v := .int .i64 (n_1 - 1)) rfl rfl (by kernel_rfl) (by kernel_rfl) (want_by rfl rfl c_3) rfl (fun _ ⟨hL_l, c301⟩ => q_subN _ rfl rfl rfl ho_2.1 ho_2.2) ?_
        obtain ⟨ho_3, hM⟩ := hM
        refine HA.val (k := 10) (v := elemPtr 17 vl (n_1 - 1).toNat) rfl rfl (by kernel_rfl) (by kernel_rfl) (want_by rfl rfl c_3) rfl (fun _ ⟨hL_l, c301⟩ => q_idx ts_22 hL_l rfl rfl ho_3) ?_
        refine HA.val (k := 11) (v := .agg (e_api_Addr (gi l (n_1 - 1))).toArray) rfl rfl (by kernel_rfl) (by kernel_rfl) (want_by rfl rfl c_3) rfl (fun _ ⟨hL_l, c301⟩ => q_ldElemAgg (cs := (e_api_Addr (gi l (n_1 - 1)))) ta_27 hL_l rfl ho_3 rfl) ?_
        refine HA.val (k := 12) (v := .agg (e_api_Addr (gi l n_1)).toArray) rfl rfl (by kernel_rfl) (by kernel_rfl) (want_by rfl rfl c_3) rfl (fun _ ⟨hL_l, c301⟩ => q_loadAgg (cs := (e_api_Addr (gi l n_1))) ta_27 rfl rfl (Blk.cells (k := 17) c301 rfl)) ?_
        refine HA.one (k := 13) ⟨⟨hL_l.is, (hS.box 0 rfl)⟩, (Go.Wk.at_nil _ _)⟩ (by kernel_rfl) ?_
        refine HS.call rfl (want_by rfl rfl c_3) rfl (ec en_59 rfl rfl) (addr_Cmp_walk (fr := (Ow.box b_1 27 (e_api_Addr (gi l n_1)).toArray :: fr)) (gi l (n_1 - 1)) (gi l n_1) hS hM) ?_
        rintro _ h_5 ⟨F_3, r_3, rfl, hk, hS, hM⟩
        replace hK := hK.trans hk
        replace hL_l := hL_l.kp hk
        refine HA.val (k := 14) (v := .bool (decide (0 ≤ r_3))) rfl rfl (by kernel_rfl) (by kernel_rfl) (want_by rfl rfl c_3) rfl (fun _ ⟨hL_l, c301⟩ => q_geq rfl rfl) ?_
        refine HA.val (k := 15) (v := .bool (decide (0 ≤ r_3))) rfl rfl (by kernel_rfl) (by kernel_rfl) (want_by rfl rfl c_2) rfl (fun _ ⟨hL_l, c301⟩ => q_pickK true rfl c_3 rfl) ?_
        refine HA.val (k := 16) (v := .bool (decide (0 ≤ r_3))) rfl rfl (by kernel_rfl) (by kernel_rfl) (want_none) rfl (fun _ ⟨hL_l, c301⟩ => q_pickK false rfl c_2 rfl) ?_
        refine HA.nil ⟨⟨hL_l.is, (hS.box 0 rfl)⟩, (Go.Wk.at_nil _ _)⟩ (by kernel_rfl) (thenQ_normal (?_))
        refine HW.cond (decide (0 ≤ r_3)) rfl (fun c_4 => ?_) (fun c_4 => ?_)
        · replace hM := hM.1 (of_decide_eq_true c_4)
          refine HW.seq ?_
          refine HW.region ?_
          refine HO.val (v := .bool false) (want_none) rfl (q_assign rfl) ?_
          refine HO.nil (thenQ_normal (?_))
          refine HW.ret (blockQ_ret (thenQ_ret (thenQ_ret (blockQ_ret (thenQ_ret (?_))))))
          refine ⟨.inr rfl, .bool false, res1 rfl (rt rfl), ?_⟩
          replace hS : St F_3 (fr) h_5 := hS.perm2 [] 1 rfl rfl
          exact ⟨F_3, false, rfl, hK, hS, hL_l, hM⟩
        · replace hM := hM.2 (of_decide_eq_false c_4)
          refine HW.skip (blockQ_normal (thenQ_normal (?_)))
          refine HW.region ?_
          obtain ⟨ho_4, hM⟩ := hM
          refine HO.val (v := .int .i64 (n_1 + 1)) (want_none) rfl (q_addN _ rfl rfl rfl ho_4.1 ho_4.2) ?_
          refine HO.val (v := .int .i64 (n_1 + 1)) (want_none) rfl (q_move rfl) ?_
          refine HO.nil (thenQ_normal (?_))
          replace hS : St F_3 (fr) h_5 := hS.perm2 [] 1 rfl rfl
          rw [hKe_1] at hM
          exact ⟨n_1 + 1, ⟨F_3, rfl, rfl, rfl, rfl, rfl, hK, hS, hL_l, hM.1⟩, hM.2⟩
      · replace hM := hM.2 (of_decide_eq_false c_3)
        refine HA.past (k := 7) rfl rfl (by kernel_rfl) (by kernel_rfl) (past_by rfl rfl c_3) rfl ?_
        refine HA.past (k := 8) rfl rfl (by kernel_rfl) (by kernel_rfl) (past_by rfl rfl c_3) rfl ?_
        refine HA.past (k := 9) rfl rfl (by kernel_rfl) (by kernel_rfl) (past_by rfl rfl c_3) rfl ?_
        refine HA.past (k := 10) rfl rfl (by kernel_rfl) (by kernel_rfl) (past_by rfl rfl c_3) rfl ?_
        refine HA.past (k := 11) rfl rfl (by kernel_rfl) (by kernel_rfl) (past_by rfl rfl c_3) rfl ?_
        refine HA.past (k := 12) rfl rfl (by kernel_rfl) (by kernel_rfl) (past_by rfl rfl c_3) rfl ?_
        refine HA.one (k := 13) ⟨⟨hL_l.is, (hS.box 0 rfl)⟩, (Go.Wk.at_nil _ _)⟩ (by kernel_rfl) ?_
        refine HS.past rfl (past_by rfl rfl c_3) rfl ?_
        refine HA.past (k := 14) rfl rfl (by kernel_rfl) (by kernel_rfl) (past_by rfl rfl c_3) rfl ?_
        refine HA.val (k := 15) (v := .bool false) rfl rfl (by kernel_rfl) (by kernel_rfl) (want_by rfl rfl c_2) rfl (fun _ ⟨hL_l, c301⟩ => q_pickK false rfl c_3 rfl) ?_
        refine HA.val (k := 16) (v := .bool false) rfl rfl (by kernel_rfl) (by kernel_rfl) (want_none) rfl (fun _ ⟨hL_l, c301⟩ => q_pickK false rfl c_2 rfl) ?_
        refine HA.nil ⟨⟨hL_l.is, (hS.box 0 rfl)⟩, (Go.Wk.at_nil _ _)⟩ (by kernel_rfl) (thenQ_normal (?_))
        refine HW.condF rfl ?_
        refine HW.skip (blockQ_normal (thenQ_normal (?_)))
        refine HW.region ?_
        obtain ⟨ho_5, hM⟩ := hM
        refine HO.val (v := .int .i64 (n_1 + 1)) (want_none) rfl (q_addN _ rfl rfl rfl ho_5.1 ho_5.2) ?_
        refine HO.val (v := .int .i64 (n_1 + 1)) (want_none) rfl (q_move rfl) ?_
        refine HO.nil (thenQ_normal (?_))
        replace hS : St F_2 (fr) h_4 := hS.perm2 [] 1 rfl rfl
        rw [hKe_1] at hM
        exact ⟨n_1 + 1, ⟨F_2, rfl, rfl, rfl, rfl, rfl, hK, hS, hL_l, hM.1⟩, hM.2⟩
  · replace hM := hM.2 (of_decide_eq_false c_1)
    refine HW.exit (thenQ_exit (thenQ_exit (blockQ_exit (thenQ_normal (?_)))))
    refine HW.seq ?_
    refine HW.region ?_
    refine HO.val (v := .bool true) (want_none) rfl (q_assign rfl) ?_
    refine HO.nil (thenQ_normal (?_))
    refine HW.ret (?_)
    refine ⟨.inr rfl, .bool true, res1 rfl (rt rfl), ?_⟩
    exact ⟨F_1, true, rfl, hK, hS, hL_l, hM⟩

def merge_Good_W (f_Exclude : Bool) (f_Sources : List T_api_Addr) (Q : Bool → Prop) : Prop :=
  srcs_Good_W f_Sources (fun r_2 => Q r_2)
set_option maxHeartbeats 40000000 in
set_option maxRecDepth 100000 in
theorem merge_Good_walk {F : Fz} {fr : List Ow} {h0 : Heap} (f_Exclude : Bool) (f_Sources : List T_api_Addr) (vf_Sources : Value) (hS : St F (fr) h0) (hL_f_Sources : SliceF F h0 17 e_api_Addr vf_Sources f_Sources) {Q : Bool → Prop} (hM : merge_Good_W f_Exclude f_Sources Q) :
    HC Tryd.prog 22 #[.agg #[.bool f_Exclude, vf_Sources]] h0 fun u h' => ∃ (F' : Fz) (r_1 : Bool), u = .bool r_1 ∧ Kp F h0 F' h' ∧ St F' (fr) h' ∧ (SliceF F' h' 17 e_api_Addr vf_Sources f_Sources) ∧ Q r_1 := by
  unfold merge_Good_W at hM
  have hK := Kp.refl F h0
  refine HC.of_HW (n := 6) Tryd.func22 rfl rfl (Nat.le_of_ble_eq_true rfl) ?_
  refine HW.seq ?_
  refine HW.region ?_
  refine HO.eff (want_none) rfl (st_box (c := #[.bool f_Exclude, vf_Sources]) (k' := 2) hS rfl rfl) ?_
  rintro _ h_1 ⟨b_1, rfl, hS, hk⟩
  replace hK := hK.trans hk
  replace hL_f_Sources := hL_f_Sources.kp hk
  refine HO.val (v := .bool false) (want_none) rfl (q_assign rfl) ?_
  refine HO.nil (thenQ_normal (?_))
  refine HW.seq ?_
  refine HW.region ?_
  refine HO.val (v := .pointer (some ⟨b_1, 1, none⟩)) (want_none) rfl (q_fieldAddr fa_24_1 rfl rfl) ?_
  refine HO.val (v := vf_Sources) (want_none) rfl (q_load to_22 rfl (Blk.cell (hS.box 0 rfl) rfl)) ?_
  refine HO.call (want_none) rfl (ec en_36 rfl rfl) (srcs_Good_walk (fr := (Ow.box b_1 24 #[.bool f_Exclude, vf_Sources] :: fr)) f_Sources vf_Sources hS hL_f_Sources hM) ?_
  rintro _ h_2 ⟨F_1, r_2, rfl, hk, hS, _, hM⟩
  replace hK := hK.trans hk
  replace hL_f_Sources := hL_f_Sources.kp hk
  refine HO.val (v := .bool r_2) (want_none) rfl (q_assign rfl) ?_
  refine HO.nil (thenQ_normal (?_))
  refine HW.ret (?_)
  refine ⟨.inr rfl, .bool r_2, res1 rfl (rt rfl), ?_⟩
  replace hS : St F_1 (fr) h_2 := hS.perm2 [] 1 rfl rfl
  exact ⟨F_1, r_2, rfl, hK, hS, hL_f_Sources, hM⟩

def law19_four_W (last : Int) (Q : T_api_Addr → Prop) : Prop :=
  ((0 : Int) ≤ last ∧ last < 256) ∧ (Q (false, mkB 16 [10, 0, 0, last, 0, 0, 0, 0, 0, 0, 0, 0, 0, 0, 0, 0]))
set_option maxHeartbeats 40000000 in
set_option maxRecDepth 100000 in
theorem law19_four_walk {F : Fz} {fr : List Ow} {h0 : Heap} (last : Int) (hS : St F (fr) h0)  {Q : T_api_Addr → Prop} (hM : law19_four_W last Q) :
    HC Tryd.prog 50 #[.int .u8 last] h0 fun u h' => ∃ (F' : Fz) (r_1 : T_api_Addr), u = .agg (e_api_Addr r_1).toArray ∧ Kp F h0 F' h' ∧ St F' (fr) h' ∧ Q r_1 := by
  unfold law19_four_W at hM
  have hK := Kp.refl F h0
  refine HC.of_HW (n := 6) Tryd.func50 rfl rfl (Nat.le_of_ble_eq_true rfl) ?_
  refine HW.seq ?_
  refine HW.region ?_
  refine HO.eff (want_none) rfl (st_alloc (c := (e_api_Addr (false, (default : Ba 16))).toArray) hS tz_27 rfl) ?_
  rintro _ h_1 ⟨b_1, rfl, hS, hk⟩
  replace hK := hK.trans hk
  refine HO.nil (thenQ_normal (?_))
  refine HW.seq ?_
  refine HW.region ?_
  refine HO.val (v := .int .u8 last) (want_none) rfl (q_move rfl) ?_
  obtain ⟨ho_1, hM⟩ := hM
  refine HO.val (v := .agg (arrCells (mkB 16 [10, 0, 0, last, 0, 0, 0, 0, 0, 0, 0, 0, 0, 0, 0, 0])).toArray) (want_none) rfl ((q_buildA (cells := #[.int .u8 10, .int .u8 0, .int .u8 0, .int .u8 last, .int .u8 0, .int .u8 0, .int .u8 0, .int .u8 0, .int .u8 0, .int .u8 0, .int .u8 0, .int .u8 0, .int .u8 0, .int .u8 0, .int .u8 0, .int .u8 0]) tb_25 rfl).of_eq (mkB_agg (n := 16) (l := [10, 0, 0, last, 0, 0, 0, 0, 0, 0, 0, 0, 0, 0, 0, 0]) rfl ⟨⟨by decide, by decide⟩, ⟨⟨by decide, by decide⟩, ⟨⟨by decide, by decide⟩, ⟨ho_1, ⟨⟨by decide, by decide⟩, ⟨⟨by decide, by decide⟩, ⟨⟨by decide, by decide⟩, ⟨⟨by decide, by decide⟩, ⟨⟨by decide, by decide⟩, ⟨⟨by decide, by decide⟩, ⟨⟨by decide, by decide⟩, ⟨⟨by decide, by decide⟩, ⟨⟨by decide, by decide⟩, ⟨⟨by decide, by decide⟩, ⟨⟨by decide, by decide⟩, ⟨⟨by decide, by decide⟩, trivial⟩⟩⟩⟩⟩⟩⟩⟩⟩⟩⟩⟩⟩⟩⟩⟩)) ?_
  refine HO.val (v := .agg (e_api_Addr (false, mkB 16 [10, 0, 0, last, 0, 0, 0, 0, 0, 0, 0, 0, 0, 0, 0, 0])).toArray) (want_none) rfl (q_build tp_27 (fill_cons (cs' := (e_api_Addr (false, mkB 16 [10, 0, 0, last, 0, 0, 0, 0, 0, 0, 0, 0, 0, 0, 0, 0])).toArray) (vc := (arrCells (mkB 16 [10, 0, 0, last, 0, 0, 0, 0, 0, 0, 0, 0, 0, 0, 0, 0])).toArray) rfl rfl rfl (Nat.le_of_ble_eq_true rfl) rfl rfl)) ?_
  refine HO.sto (want_none) rfl (st_storeAgg (c' := (e_api_Addr (false, mkB 16 [10, 0, 0, last, 0, 0, 0, 0, 0, 0, 0, 0, 0, 0, 0, 0])).toArray) hS (i := 0) rfl ta_27 rfl rfl rfl (one_e_api_Addr _) (Nat.le_of_ble_eq_true rfl) rfl) ?_
  rintro h_2 ⟨hS, hk⟩
  replace hS : St F (Ow.box b_1 27 (e_api_Addr (false, mkB 16 [10, 0, 0, last, 0, 0, 0, 0, 0, 0, 0, 0, 0, 0, 0, 0])).toArray :: fr) h_2 := hS
  replace hK := hK.trans hk
  refine HO.nil (thenQ_normal (?_))
  refine HW.ret (?_)
  refine ⟨.inr rfl, .agg (e_api_Addr (false, mkB 16 [10, 0, 0, last, 0, 0, 0, 0, 0, 0, 0, 0, 0, 0, 0, 0])).toArray, res1 rfl (rca (cs := (e_api_Addr (false, mkB 16 [10, 0, 0, last, 0, 0, 0, 0, 0, 0, 0, 0, 0, 0, 0, 0]))) ta_27 rfl rfl (Blk.cells (k := 17) (hS.box 0 rfl) rfl)), ?_⟩
  replace hS : St F (fr) h_2 := hS.perm2 [] 1 rfl rfl
  exact ⟨F, (false, mkB 16 [10, 0, 0, last, 0, 0, 0, 0, 0, 0, 0, 0, 0, 0, 0, 0]), rfl, hK, hS, hM⟩

def addr_word_W (a : T_api_Addr) (i : Int) (Q : Int → Prop) : Prop :=
  (I64 (2 * i)) ∧ (((0 : Int) ≤ 2 * i ∧ 2 * i < 16) ∧ ((I64 ((2 * i) + 1)) ∧ (((0 : Int) ≤ (2 * i) + 1 ∧ (2 * i) + 1 < 16) ∧ (Q (bits .or .u64 (IntKind.u64.wrap ((IntKind.u64.wrap (b8 a.2 (2 * i))) * 2 ^ (min (8 : Int).toNat IntKind.u64.bits))) (IntKind.u64.wrap (b8 a.2 ((2 * i) + 1))))))))
set_option maxHeartbeats 40000000 in
set_option maxRecDepth 100000 in
theorem addr_word_walk {F : Fz} {fr : List Ow} {h0 : Heap} (a : T_api_Addr) (i : Int) (hS : St F (fr) h0)  {Q : Int → Prop} (hM : addr_word_W a i Q) :
    HC Tryd.prog 108 #[.agg (e_api_Addr a).toArray, .int .i64 i] h0 fun u h' => ∃ (F' : Fz) (r_1 : Int), u = .int .u64 r_1 ∧ Kp F h0 F' h' ∧ St F' (fr) h' ∧ Q r_1 := by
  unfold addr_word_W at hM
  have hK := Kp.refl F h0
  refine HC.of_HW (n := 20) Tryd.func108 rfl rfl (Nat.le_of_ble_eq_true rfl) ?_
  refine HW.seq ?_
  refine HW.region ?_
  refine HO.eff (want_none) rfl (st_box (c := (e_api_Addr a).toArray) (k' := 17) hS rfl rfl) ?_
  rintro _ h_1 ⟨b_1, rfl, hS, hk⟩
  replace hK := hK.trans hk
  refine HO.val (v := .int .u64 0) (want_none) rfl (q_assign rfl) ?_
  refine HO.nil (thenQ_normal (?_))
  refine HW.seq ?_
  refine HW.regionA 16 mixed (fun h => (Blk h b_1 (.cells (e_api_Addr a).toArray 27 (0, 0)))) [] (by kernel_rfl) ?_
  refine HA.val (k := 0) (v := .int .i64 i) rfl rfl (by kernel_rfl) (by kernel_rfl) (want_none) rfl (fun _ c201 => q_move rfl) ?_
  obtain ⟨ho_1, hM⟩ := hM
  refine HA.val (k := 1) (v := .int .i64 (2 * i)) rfl rfl (by kernel_rfl) (by kernel_rfl) (want_none) rfl (fun _ c201 => q_mulN _ rfl rfl rfl ho_1.1 ho_1.2) ?_
  refine HA.val (k := 2) (v := .pointer (some ⟨b_1, 1, none⟩)) rfl rfl (by kernel_rfl) (by kernel_rfl) (want_none) rfl (fun _ c201 => q_fieldAddr fa_27_1 rfl rfl) ?_
  obtain ⟨ho_2, hM⟩ := hM
  refine HA.val (k := 3) (v := .pointer (some ⟨b_1, 1 + (2 * i).toNat, none⟩)) rfl rfl (by kernel_rfl) (by kernel_rfl) (want_none) rfl (fun _ c201 => q_idxA (o := 1) (t := 2 * i) tr_25 rfl rfl ho_2) ?_
  refine HA.val (k := 4) (v := .int .u8 (b8 a.2 (2 * i))) rfl rfl (by kernel_rfl) (by kernel_rfl) (want_none) rfl (fun _ c201 => q_ldArr (o := 1) (t := 2 * i) (X := a.2) to_5 rfl c201 rfl ho_2) ?_
  refine HA.val (k := 5) (v := .int .u64 (IntKind.u64.wrap (b8 a.2 (2 * i)))) rfl rfl (by kernel_rfl) (by kernel_rfl) (want_none) rfl (fun _ c201 => q_convInt Tryd.underlying5 Tryd.underlying95 rfl rfl) ?_
  refine HA.val (k := 6) (v := .int .u64 (IntKind.u64.wrap ((IntKind.u64.wrap (b8 a.2 (2 * i))) * 2 ^ (min (8 : Int).toNat IntKind.u64.bits)))) rfl rfl (by kernel_rfl) (by kernel_rfl) (want_none) rfl (fun _ c201 => q_shl rfl rfl (by decide) rfl) ?_
  refine HA.val (k := 7) (v := .int .i64 i) rfl rfl (by kernel_rfl) (by kernel_rfl) (want_none) rfl (fun _ c201 => q_move rfl) ?_
  refine HA.val (k := 8) (v := .int .i64 (2 * i)) rfl rfl (by kernel_rfl) (by kernel_rfl) (want_none) rfl (fun _ c201 => q_mulN _ rfl rfl rfl ho_1.1 ho_1.2) ?_
  obtain ⟨ho_3, hM⟩ := hM
  refine HA.val (k := 9) (v := .int .i64 ((2 * i) + 1)) rfl rfl (by kernel_rfl) (by kernel_rfl) (want_none) rfl (fun _ c201 => q_addN _ rfl rfl rfl ho_3.1 ho_3.2) ?_
  refine HA.val (k := 10) (v := .pointer (some ⟨b_1, 1, none⟩)) rfl rfl (by kernel_rfl) (by kernel_rfl) (want_none) rfl (fun _ c201 => q_fieldAddr fa_27_1 rfl rfl) ?_
  obtain ⟨ho_4, hM⟩ := hM
  refine HA.val (k := 11) (v := .pointer (some ⟨b_1, 1 + ((2 * i) + 1).toNat, none⟩)) rfl rfl (by kernel_rfl) (by kernel_rfl) (want_none) rfl (fun _ c201 => q_idxA (o := 1) (t := (2 * i) + 1) tr_25 rfl rfl ho_4) ?_
  refine HA.val (k := 12) (v := .int .u8 (b8 a.2 ((2 * i) + 1))) rfl rfl (by kernel_rfl) (by kernel_rfl) (want_none) rfl (fun _ c201 => q_ldArr (o := 1) (t := (2 * i) + 1) (X := a.2) to_5 rfl c201 rfl ho_4) ?_
  refine HA.val (k := 13) (v := .int .u64 (IntKind.u64.wrap (b8 a.2 ((2 * i) + 1)))) rfl rfl (by kernel_rfl) (by kernel_rfl) (want_none) rfl (fun _ c201 => q_convInt Tryd.underlying5 Tryd.underlying95 rfl rfl) ?_
  refine HA.val (k := 14) (v := .int .u64 (bits .or .u64 (IntKind.u64.wrap ((IntKind.u64.wrap (b8 a.2 (2 * i))) * 2 ^ (min (8 : Int).toNat IntKind.u64.bits))) (IntKind.u64.wrap (b8 a.2 ((2 * i) + 1))))) rfl rfl (by kernel_rfl) (by kernel_rfl) (want_none) rfl (fun _ c201 => q_bits (by simp) rfl rfl) ?_
  refine HA.val (k := 15) (v := .int .u64 (bits .or .u64 (IntKind.u64.wrap ((IntKind.u64.wrap (b8 a.2 (2 * i))) * 2 ^ (min (8 : Int).toNat IntKind.u64.bits))) (IntKind.u64.wrap (b8 a.2 ((2 * i) + 1))))) rfl rfl (by kernel_rfl) (by kernel_rfl) (want_none) rfl (fun _ c201 => q_assign rfl) ?_
  refine HA.nil ⟨(hS.box 0 rfl), (Go.Wk.at_nil _ _)⟩ (by kernel_rfl) (thenQ_normal (?_))
  refine HW.ret (?_)
  refine ⟨.inr rfl, .int .u64 (bits .or .u64 (IntKind.u64.wrap ((IntKind.u64.wrap (b8 a.2 (2 * i))) * 2 ^ (min (8 : Int).toNat IntKind.u64.bits))) (IntKind.u64.wrap (b8 a.2 ((2 * i) + 1)))), res1 rfl (rt rfl), ?_⟩
  replace hS : St F (fr) h_1 := hS.perm2 [] 1 rfl rfl
  exact ⟨F, bits .or .u64 (IntKind.u64.wrap ((IntKind.u64.wrap (b8 a.2 (2 * i))) * 2 ^ (min (8 : Int).toNat IntKind.u64.bits))) (IntKind.u64.wrap (b8 a.2 ((2 * i) + 1))), rfl, hK, hS, hM⟩

def addr_row_j1 (n_1 : Int) (most_1 : Int) (i_1 : Int) (K_1 : Int → Int → Int → Prop) (n_2 : Int) : Prop :=
  (most_1 < n_2 → (I64 (n_2 + 1)) ∧ ((I64 (i_1 + (n_2 + 1))) ∧ (K_1 i_1 n_2 (i_1 + (n_2 + 1))))) ∧ (¬ (most_1 < n_2) → (I64 (n_2 + 1)) ∧ ((I64 (i_1 + (n_2 + 1))) ∧ (K_1 n_1 most_1 (i_1 + (n_2 + 1)))))
def addr_row_l2 (a : T_api_Addr) (n_1 : Int) (most_1 : Int) (i_1 : Int) (K_1 : Int → Int → Int → Prop) (K_2 : Int → Prop) (n_3 : Int) : Prop :=
  (I64 (i_1 + n_3)) ∧ (((i_1 + n_3) < 8 → addr_word_W a (i_1 + n_3) (fun r_1 => (r_1 = 0 → (I64 (n_3 + 1)) ∧ (K_2 (n_3 + 1))) ∧ (¬ (r_1 = 0) → addr_row_j1 n_1 most_1 i_1 K_1 n_3))) ∧ (¬ ((i_1 + n_3) < 8) → addr_row_j1 n_1 most_1 i_1 K_1 n_3))
def addr_row_l1 (a : T_api_Addr) (Q : Int → Int → Prop) (K_1 : Int → Int → Int → Prop) (n_1 : Int) (most_1 : Int) (i_1 : Int) : Prop :=
  (i_1 < 8 → loopW (fun (K_2 : Int → Prop) (s : Int) => addr_row_l2 a n_1 most_1 i_1 K_1 K_2 s) 0) ∧ (¬ (i_1 < 8) → Q n_1 most_1)
def addr_row_W (a : T_api_Addr) (Q : Int → Int → Prop) : Prop :=
  loopW (fun (K_1 : (Int × Int × Int) → Prop) (s : Int × Int × Int) => addr_row_l1 a Q (fun n_1 most_1 i_1 => K_1 (n_1, most_1, i_1)) s.1 s.2.1 s.2.2) (0, 1, 0)
set_option maxHeartbeats 40000000 in
set_option maxRecDepth 100000 in
theorem addr_row_walk {F : Fz} {fr : List Ow} {h0 : Heap} (a : T_api_Addr) (hS : St F (fr) h0)  {Q : Int → Int → Prop} (hM : addr_row_W a Q) :
    HC Tryd.prog 103 #[.agg (e_api_Addr a).toArray] h0 fun u h' => ∃ (F' : Fz) (r0_1 : Int) (r1_1 : Int), u = .tuple #[.int .i64 r0_1, .int .i64 r1_1] ∧ Kp F h0 F' h' ∧ St F' (fr) h' ∧ Q r0_1 r1_1 := by
  unfold addr_row_W at hM
  have hK := Kp.refl F h0
  refine HC.of_HW (n := 35) Tryd.func103 rfl rfl (Nat.le_of_ble_eq_true rfl) ?_
  refine HW.seq ?_
  refine HW.region ?_
  refine HO.eff (want_none) rfl (st_box (c := (e_api_Addr a).toArray) (k' := 17) hS rfl rfl) ?_
  rintro _ h_1 ⟨b_1, rfl, hS, hk⟩
  replace hK := hK.trans hk
  refine HO.val (v := .int .i64 0) (want_none) rfl (q_assign rfl) ?_
  refine HO.val (v := .int .i64 0) (want_none) rfl (q_assign rfl) ?_
  refine HO.nil (thenQ_normal (?_))
  refine HW.seq ?_
  refine HW.region ?_
  refine HO.val (v := .int .i64 0) (want_none) rfl (q_assign rfl) ?_
  refine HO.val (v := .int .i64 1) (want_none) rfl (q_assign rfl) ?_
  refine HO.nil (thenQ_normal (?_))
  refine HW.seq ?_
  refine HW.seq ?_
  refine HW.region ?_
  refine HO.val (v := .int .i64 0) (want_none) rfl (q_assign rfl) ?_
  refine HO.nil (thenQ_normal (?_))
  refine HW.block ?_
  obtain ⟨I_1, m_1, hI_1, hR_1⟩ := hM
  refine HW.loop (S := Int × Int × Int) (fun s f h => match s with | (n_1, most_1, i_1) => ∃ (F' : Fz), f 1 = .pointer (some ⟨b_1, 0, none⟩) ∧ f 2 = .int .i64 0 ∧ f 3 = .int .i64 0 ∧ f 4 = .int .i64 n_1 ∧ f 5 = .int .i64 most_1 ∧ f 6 = .int .i64 i_1 ∧ Kp F h0 F' h ∧ St F' (Ow.box b_1 27 (e_api_Addr a).toArray :: fr) h ∧ I_1 (n_1, most_1, i_1)) m_1 (0, 1, 0) ⟨F, rfl, rfl, rfl, rfl, rfl, rfl, hK, hS, hI_1⟩ ?_
  rintro ⟨n_1, most_1, i_1⟩ f_1 h_2 ⟨F_1, e1, e2, e3, e4, e5, e6, hK, hS, hI0⟩
  obtain ⟨K_1, hKe_1⟩ : ∃ K : Int → Int → Int → Prop, K = fun n_1' most_1' i_1' => I_1 (n_1', most_1', i_1') ∧ m_1 (n_1', most_1', i_1') < m_1 (n_1, most_1, i_1) := ⟨_, rfl⟩
  have hM : addr_row_l1 a Q K_1 n_1 most_1 i_1 := by rw [hKe_1]; exact hR_1 (n_1, most_1, i_1) hI0
  unfold addr_row_l1 at hM
  refine HW.fr [(1, .pointer (some ⟨b_1, 0, none⟩)), (2, .int .i64 0), (3, .int .i64 0), (4, .int .i64 n_1), (5, .int .i64 most_1), (6, .int .i64 i_1)] ⟨e1, e2, e3, e4, e5, e6, trivial⟩ ?_
  refine HW.seq ?_
  refine HW.seq ?_
  refine HW.region ?_
  refine HO.val (v := .int .i64 i_1) (want_none) rfl (q_move rfl) ?_
  refine HO.val (v := .bool (decide (i_1 < 8))) (want_none) rfl (q_lss rfl rfl) ?_
  refine HO.nil (thenQ_normal (?_))
  refine HW.cond (decide (i_1 < 8)) rfl (fun c_1 => ?_) (fun c_1 => ?_)
  · replace hM := hM.1 (of_decide_eq_true c_1)
    refine HW.skip (thenQ_normal (?_))
    refine HW.block ?_
    refine HW.seq ?_
    refine HW.region ?_
    refine HO.val (v := .int .i64 0) (want_none) rfl (q_assign rfl) ?_
    refine HO.nil (thenQ_normal (?_))
    refine HW.seq_mid (fun f h => ∃ (F' : Fz) (n_2 : Int), f 1 = .pointer (some ⟨b_1, 0, none⟩) ∧ f 2 = .int .i64 0 ∧ f 3 = .int .i64 0 ∧ f 4 = .int .i64 n_1 ∧ f 5 = .int .i64 most_1 ∧ f 6 = .int .i64 i_1 ∧ f 7 = .int .i64 n_2 ∧ Kp F h0 F' h ∧ St F' (Ow.box b_1 27 (e_api_Addr a).toArray :: fr) h ∧ addr_row_j1 n_1 most_1 i_1 K_1 n_2) ?_ ?_
    · refine HW.block ?_
      obtain ⟨I_2, m_2, hI_2, hR_2⟩ := hM
      refine HW.loop (S := Int) (fun n_3 f h => ∃ (F' : Fz), f 1 = .pointer (some ⟨b_1, 0, none⟩) ∧ f 2 = .int .i64 0 ∧ f 3 = .int .i64 0 ∧ f 4 = .int .i64 n_1 ∧ f 5 = .int .i64 most_1 ∧ f 6 = .int .i64 i_1 ∧ f 7 = .int .i64 n_3 ∧ Kp F h0 F' h ∧ St F' (Ow.box b_1 27 (e_api_Addr a).toArray :: fr) h ∧ I_2 n_3) m_2 0 ⟨F_1, rfl, rfl, rfl, rfl, rfl, rfl, rfl, hK, hS, hI_2⟩ ?_
      rintro n_3 f_2 h_3 ⟨F_2, e1, e2, e3, e4, e5, e6, e7, hK, hS, hI0⟩
      obtain ⟨K_2, hKe_2⟩ : ∃ K : Int → Prop, K = fun n_3' => I_2 n_3' ∧ m_2 n_3' < m_2 n_3 := ⟨_, rfl⟩
      have hM : addr_row_l2 a n_1 most_1 i_1 K_1 K_2 n_3 := by rw [hKe_2]; exact hR_2 n_3 hI0
      unfold addr_row_l2 at hM
      refine HW.fr [(1, .pointer (some ⟨b_1, 0, none⟩)), (2, .int .i64 0), (3, .int .i64 0), (4, .int .i64 n_1), (5, .int .i64 most_1), (6, .int .i64 i_1), (7, .int .i64 n_3)] ⟨e1, e2, e3, e4, e5, e6, e7, trivial⟩ ?_
      refine HW.seq ?_
      refine HW.seq ?_
      refine HW.region ?_
      refine HO.val (v := .int .i64 i_1) (want_none) rfl (q_move rfl) ?_
      refine HO.val (v := .int .i64 n_3) (want_none) rfl (q_move rfl) ?_
      obtain ⟨ho_1, hM⟩ := hM
      refine HO.val (v := .int .i64 (i_1 + n_3)) (want_none) rfl (q_addN _ rfl rfl rfl ho_1.1 ho_1.2) ?_
      refine HO.val (v := .bool (decide ((i_1 + n_3) < 8))) (want_none) rfl (q_lss rfl rfl) ?_
      refine HO.val (v := .bool (decide ((i_1 + n_3) < 8))) (want_none) rfl (q_move rfl) ?_
      rcases Bool.eq_false_or_eq_true (decide ((i_1 + n_3) < 8)) with c_2 | c_2
      · replace hM := hM.1 (of_decide_eq_true c_2)
        refine HO.val (v := .agg (e_api_Addr a).toArray) (want_by rfl rfl c_2) rfl (q_loadAgg (cs := (e_api_Addr a)) ta_27 rfl rfl (Blk.cells (k := 17) (hS.box 0 rfl) rfl)) ?_
        refine HO.val (v := .int .i64 i_1) (want_by rfl rfl c_2) rfl (q_move rfl) ?_
        refine HO.val (v := .int .i64 n_3) (want_by rfl rfl c_2) rfl (q_move rfl) ?_
        refine HO.val (v := .int .i64 (i_1 + n_3)) (want_by rfl rfl c_2) rfl (q_addN _ rfl rfl rfl ho_1.1 ho_1.2) ?_
        refine HO.call (want_by rfl rfl c_2) rfl (ec en_108 rfl rfl) (addr_word_walk (fr := (Ow.box b_1 27 (e_api_Addr a).toArray :: fr)) a (i_1 + n_3) hS hM) ?_
        rintro _ h_4 ⟨F_3, r_1, rfl, hk, hS, hM⟩
        replace hK := hK.trans hk
        refine HO.val (v := .bool (decide (r_1 = 0))) (want_by rfl rfl c_2) rfl (q_eql rfl rfl) ?_
        refine HO.val (v := .bool (decide (r_1 = 0))) (want_none) rfl (q_pickK true rfl c_2 rfl) ?_
        refine HO.nil (thenQ_normal (?_))
        refine HW.cond (decide (r_1 = 0)) rfl (fun c_3 => ?_) (fun c_3 => ?_)
        · replace hM := hM.1 (of_decide_eq_true c_3)
          refine HW.skip (thenQ_normal (?_))
          refine HW.block ?_
          refine HW.region ?_
          refine HO.val (v := .int .i64 n_3) (want_none) rfl (q_move rfl) ?_
          obtain ⟨ho_2, hM⟩ := hM
          refine HO.val (v := .int .i64 (n_3 + 1)) (want_none) rfl (q_addN _ rfl rfl rfl ho_2.1 ho_2.2) ?_
          refine HO.val (v := .int .i64 (n_3 + 1)) (want_none) rfl (q_assign rfl) ?_
          refine HO.nil (blockQ_normal (thenQ_normal (?_)))
          rw [hKe_2] at hM
          exact ⟨n_3 + 1, ⟨F_3, rfl, rfl, rfl, rfl, rfl, rfl, rfl, hK, hS, hM.1⟩, hM.2⟩
        · replace hM := hM.2 (of_decide_eq_false c_3)
          refine HW.exit (thenQ_exit (thenQ_exit (blockQ_exit (thenQ_normal (?_)))))
          exact ⟨F_3, n_3, rfl, rfl, rfl, rfl, rfl, rfl, rfl, hK, hS, hM⟩
      · replace hM := hM.2 (of_decide_eq_false c_2)
        refine HO.past (past_by rfl rfl c_2) rfl ?_
        refine HO.past (past_by rfl rfl c_2) rfl ?_
        refine HO.past (past_by rfl rfl c_2) rfl ?_
        refine HO.past (past_by rfl rfl c_2) rfl ?_
        refine HO.past (past_by rfl rfl c_2) rfl ?_
        refine HO.past (past_by rfl rfl c_2) rfl ?_
        refine HO.val (v := .bool false) (want_none) rfl (q_pickK false rfl c_2 rfl) ?_
        refine HO.nil (thenQ_normal (?_))
        refine HW.condF rfl ?_
        refine HW.exit (thenQ_exit (thenQ_exit (blockQ_exit (thenQ_normal (?_)))))
        exact ⟨F_2, n_3, rfl, rfl, rfl, rfl, rfl, rfl, rfl, hK, hS, hM⟩
    · rintro f_3 h_5 ⟨F_4, n_2, e1, e2, e3, e4, e5, e6, e7, hK, hS, hM⟩
      unfold addr_row_j1 at hM
      refine HW.fr [(1, .pointer (some ⟨b_1, 0, none⟩)), (2, .int .i64 0), (3, .int .i64 0), (4, .int .i64 n_1), (5, .int .i64 most_1), (6, .int .i64 i_1), (7, .int .i64 n_2)] ⟨e1, e2, e3, e4, e5, e6, e7, trivial⟩ ?_
      refine HW.seq ?_
      refine HW.seq ?_
      refine HW.region ?_
      refine HO.val (v := .int .i64 n_2) (want_none) rfl (q_move rfl) ?_
      refine HO.val (v := .int .i64 most_1) (want_none) rfl (q_move rfl) ?_
      refine HO.val (v := .bool (decide (most_1 < n_2))) (want_none) rfl (q_gtr rfl rfl) ?_
      refine HO.nil (thenQ_normal (?_))
      refine HW.cond (decide (most_1 < n_2)) rfl (fun c_4 => ?_) (fun c_4 => ?_)
      · replace hM := hM.1 (of_decide_eq_true c_4)
        refine HW.region ?_
        refine HO.val (v := .int .i64 i_1) (want_none) rfl (q_move rfl) ?_
        refine HO.val (v := .int .i64 n_2) (want_none) rfl (q_move rfl) ?_
        refine HO.val (v := .int .i64 i_1) (want_none) rfl (q_assign rfl) ?_
        refine HO.val (v := .int .i64 n_2) (want_none) rfl (q_assign rfl) ?_
        refine HO.nil (thenQ_normal (?_))
        refine HW.region ?_
        refine HO.val (v := .int .i64 i_1) (want_none) rfl (q_move rfl) ?_
        refine HO.val (v := .int .i64 n_2) (want_none) rfl (q_move rfl) ?_
        obtain ⟨ho_3, hM⟩ := hM
        refine HO.val (v := .int .i64 (n_2 + 1)) (want_none) rfl (q_addN _ rfl rfl rfl ho_3.1 ho_3.2) ?_
        obtain ⟨ho_4, hM⟩ := hM
        refine HO.val (v := .int .i64 (i_1 + (n_2 + 1))) (want_none) rfl (q_addN _ rfl rfl rfl ho_4.1 ho_4.2) ?_
        refine HO.val (v := .int .i64 (i_1 + (n_2 + 1))) (want_none) rfl (q_assign rfl) ?_
        refine HO.nil (blockQ_normal (thenQ_normal (?_)))
        rw [hKe_1] at hM
        exact ⟨(i_1, n_2, i_1 + (n_2 + 1)), ⟨F_4, rfl, rfl, rfl, rfl, rfl, rfl, hK, hS, hM.1⟩, hM.2⟩
      · replace hM := hM.2 (of_decide_eq_false c_4)
        refine HW.skip (thenQ_normal (?_))
        refine HW.region ?_
        refine HO.val (v := .int .i64 i_1) (want_none) rfl (q_move rfl) ?_
        refine HO.val (v := .int .i64 n_2) (want_none) rfl (q_move rfl) ?_
        obtain ⟨ho_5, hM⟩ := hM
        refine HO.val (v := .int .i64 (n_2 + 1)) (want_none) rfl (q_addN _ rfl rfl rfl ho_5.1 ho_5.2) ?_
        obtain ⟨ho_6, hM⟩ := hM
        refine HO.val (v := .int .i64 (i_1 + (n_2 + 1))) (want_none) rfl (q_addN _ rfl rfl rfl ho_6.1 ho_6.2) ?_
        refine HO.val (v := .int .i64 (i_1 + (n_2 + 1))) (want_none) rfl (q_assign rfl) ?_
        refine HO.nil (blockQ_normal (thenQ_normal (?_)))
        rw [hKe_1] at hM
        exact ⟨(n_1, most_1, i_1 + (n_2 + 1)), ⟨F_4, rfl, rfl, rfl, rfl, rfl, rfl, hK, hS, hM.1⟩, hM.2⟩
  · replace hM := hM.2 (of_decide_eq_false c_1)
    refine HW.exit (thenQ_exit (thenQ_exit (blockQ_exit (thenQ_normal (?_)))))
    refine HW.seq ?_
    refine HW.region ?_
    refine HO.val (v := .int .i64 n_1) (want_none) rfl (q_move rfl) ?_
    refine HO.val (v := .int .i64 most_1) (want_none) rfl (q_move rfl) ?_
    refine HO.val (v := .int .i64 n_1) (want_none) rfl (q_assign rfl) ?_
    refine HO.val (v := .int .i64 most_1) (want_none) rfl (q_assign rfl) ?_
    refine HO.nil (thenQ_normal (?_))
    refine HW.ret (?_)
    refine ⟨.inr rfl, .tuple #[.int .i64 n_1, .int .i64 most_1], res2 rfl (rt rfl) (rt rfl), ?_⟩
    replace hS : St F_1 (fr) h_2 := hS.perm2 [] 1 rfl rfl
    exact ⟨F_1, n_1, most_1, rfl, hK, hS, hM⟩

def addr_list_l1 (a : T_api_Addr) (from1 : Int) (to : Int) (Q : Str → Prop) (K_1 : Prop) : Prop :=
  (from1 < to → addr_word_W a from1 (fun r_2 => False)) ∧ (¬ (from1 < to) → ((([] : List Str)).length ≤ 140737488355328 ∧ (joinS ([] : List Str) ([58] : Str)).length ≤ 140737488355328) ∧ (Q (joinS ([] : List Str) ([58] : Str))))
def addr_list_W (a : T_api_Addr) (from1 : Int) (to : Int) (Q : Str → Prop) : Prop :=
  loopW (fun (K_1 : Unit → Prop) (s : Unit) => addr_list_l1 a from1 to Q (K_1 ())) ()
set_option maxHeartbeats 40000000 in
set_option maxRecDepth 100000 in
theorem addr_list_walk {F : Fz} {fr : List Ow} {h0 : Heap} (a : T_api_Addr) (from1 : Int) (to : Int) (hS : St F (fr) h0)  (hD : DM.on = false) {Q : Str → Prop} (hM : addr_list_W a from1 to Q) :
    HC Tryd.prog 104 #[.agg (e_api_Addr a).toArray, .int .i64 from1, .int .i64 to] h0 fun u h' => ∃ (F' : Fz) (r_1 : Str), u = .string (bs r_1) ∧ Kp F h0 F' h' ∧ St F' (fr) h' ∧ Q r_1 := by
  unfold addr_list_W at hM
  have hK := Kp.refl F h0
  refine HC.of_HW (n := 24) Tryd.func104 rfl rfl (Nat.le_of_ble_eq_true rfl) ?_
  refine HW.seq ?_
  refine HW.region ?_
  refine HO.eff (want_none) rfl (st_box (c := (e_api_Addr a).toArray) (k' := 17) hS rfl rfl) ?_
  rintro _ h_1 ⟨b_1, rfl, hS, hk⟩
  replace hK := hK.trans hk
  refine HO.val (v := .string (bs [])) (want_none) rfl (q_assign rfl) ?_
  refine HO.nil (thenQ_normal (?_))
  refine HW.seq ?_
  refine HW.region ?_
  refine HO.val (v := .slice none 0 0) (want_none) rfl (q_assign rfl) ?_
  refine HO.nil (thenQ_normal (?_))
  refine HW.seq ?_
  refine HW.seq ?_
  refine HW.region ?_
  refine HO.val (v := .int .i64 from1) (want_none) rfl (q_move rfl) ?_
  refine HO.val (v := .int .i64 from1) (want_none) rfl (q_assign rfl) ?_
  refine HO.nil (thenQ_normal (?_))
  refine HW.block ?_
  obtain ⟨I_1, m_1, hI_1, hR_1⟩ := hM
  refine HW.loop (S := Unit) (fun _ f h => ∃ (F' : Fz), f 2 = .int .i64 to ∧ f 3 = .pointer (some ⟨b_1, 0, none⟩) ∧ f 6 = .string (bs []) ∧ f 7 = .slice none 0 0 ∧ f 8 = .int .i64 from1 ∧ Kp F h0 F' h ∧ St F' (Ow.box b_1 27 (e_api_Addr a).toArray :: fr) h ∧ I_1 ()) m_1 () ⟨F, rfl, rfl, rfl, rfl, rfl, hK, hS, hI_1⟩ ?_
  rintro _ f_1 h_2 ⟨F_1, e2, e3, e6, e7, e8, hK, hS, hI0⟩
  obtain ⟨K_1, hKe_1⟩ : ∃ K : Prop, K = (I_1 () ∧ m_1 () < m_1 ()) := ⟨_, rfl⟩
  have hM : addr_list_l1 a from1 to Q K_1 := by rw [hKe_1]; exact hR_1 () hI0
  unfold addr_list_l1 at hM
  refine HW.fr [(2, .int .i64 to), (3, .pointer (some ⟨b_1, 0, none⟩)), (6, .string (bs [])), (7, .slice none 0 0), (8, .int .i64 from1)] ⟨e2, e3, e6, e7, e8, trivial⟩ ?_
  refine HW.seq ?_
  refine HW.seq ?_
  refine HW.region ?_
  refine HO.val (v := .int .i64 from1) (want_none) rfl (q_move rfl) ?_
  refine HO.val (v := .int .i64 to) (want_none) rfl (q_move rfl) ?_
  refine HO.val (v := .bool (decide (from1 < to))) (want_none) rfl (q_lss rfl rfl) ?_
  refine HO.nil (thenQ_normal (?_))
  refine HW.cond (decide (from1 < to)) rfl (fun c_1 => ?_) (fun c_1 => ?_)
  · replace hM := hM.1 (of_decide_eq_true c_1)
    refine HW.skip (thenQ_normal (?_))
    refine HW.seq ?_
    refine HW.block ?_
    refine HW.region ?_
    refine HO.val (v := .slice none 0 0) (want_none) rfl (q_move rfl) ?_
    refine HO.val (v := .agg (e_api_Addr a).toArray) (want_none) rfl (q_loadAgg (cs := (e_api_Addr a)) ta_27 rfl rfl (Blk.cells (k := 17) (hS.box 0 rfl) rfl)) ?_
    refine HO.val (v := .int .i64 from1) (want_none) rfl (q_move rfl) ?_
    refine HO.call (want_none) rfl (ec en_108 rfl rfl) (addr_word_walk (fr := (Ow.box b_1 27 (e_api_Addr a).toArray :: fr)) a from1 hS hM) ?_
    rintro _ h_3 ⟨F_2, r_2, rfl, hk, hS, hM⟩
    replace hK := hK.trans hk
    exact hM.elim
  · replace hM := hM.2 (of_decide_eq_false c_1)
    refine HW.exit (thenQ_exit (thenQ_exit (blockQ_exit (thenQ_normal (?_)))))
    refine HW.seq ?_
    refine HW.region ?_
    refine HO.val (v := .slice none 0 0) (want_none) rfl (q_move rfl) ?_
    obtain ⟨ho_1, hM⟩ := hM
    refine HO.call (want_none) rfl (ec en_90 rfl rfl) (strJoin_hc hD Tryd.join Tryd.joinX ([58] : Str) hS (SliceIs.nil _ _ _) ho_1.1 ho_1.2) ?_
    rintro _ h_4 ⟨rfl, hS, hk⟩
    replace hK := hK.trans hk
    refine HO.val (v := .string (bs (joinS ([] : List Str) ([58] : Str)))) (want_none) rfl (q_assign rfl) ?_
    refine HO.nil (thenQ_normal (?_))
    refine HW.ret (?_)
    refine ⟨.inr rfl, .string (bs (joinS ([] : List Str) ([58] : Str))), res1 rfl (rt rfl), ?_⟩
    replace hS : St F_1 (fr) h_4 := hS.perm2 [] 1 rfl rfl
    exact ⟨F_1, joinS ([] : List Str) ([58] : Str), rfl, hK, hS, hM⟩

def addr_text_l2 (a : T_api_Addr) (Q : Str → Prop) (K_1 : (List Str) → Int → Prop) (l_1 : List Str) (n_1 : Int) : Prop :=
  (n_1 < ((cut a.2.1 0 4).length : Int) → ((0 : Int) ≤ n_1 ∧ n_1 < ((cut a.2.1 0 4).length : Int)) ∧ ((I64 ((gi (cut a.2.1 0 4) n_1).toNat : Int)) ∧ (((0 : Int) ≤ ((gi (cut a.2.1 0 4) n_1).toNat : Int) ∧ ((gi (cut a.2.1 0 4) n_1).toNat : Int) < 100) ∧ (((l_1.length + ([dec ((gi (cut a.2.1 0 4) n_1).toNat : Int)] : List Str).length) * 16 ≤ 140737488355328) ∧ ((I64 (n_1 + 1)) ∧ (K_1 (l_1 ++ ([dec ((gi (cut a.2.1 0 4) n_1).toNat : Int)] : List Str)) (n_1 + 1))))))) ∧ (¬ (n_1 < ((cut a.2.1 0 4).length : Int)) → ((l_1).length ≤ 140737488355328 ∧ (joinS l_1 ([46] : Str)).length ≤ 140737488355328) ∧ (Q (joinS l_1 ([46] : Str))))
def addr_text_W (a : T_api_Addr) (Q : Str → Prop) : Prop :=
  ((!a.1) = true → loopW (fun (K_1 : (List Str × Int) → Prop) (s : List Str × Int) => addr_text_l2 a Q (fun l_1 n_1 => K_1 (l_1, n_1)) s.1 s.2) ([], 0)) ∧ ((!a.1) = false → addr_row_W a (fun r0_1 r1_1 => (r1_1 < 2 → addr_list_W a 0 8 (fun r_2 => Q r_2)) ∧ (¬ (r1_1 < 2) → (I64 (r0_1 + r1_1)) ∧ (addr_list_W a 0 r0_1 (fun r_3 => ((r_3.length : Int) + ((([58, 58] : Str)).length : Int) ≤ 9223372036854775807) ∧ (addr_list_W a (r0_1 + r1_1) 8 (fun r_4 => (((r_3 ++ ([58, 58] : Str)).length : Int) + (r_4.length : Int) ≤ 9223372036854775807) ∧ (Q ((r_3 ++ ([58, 58] : Str)) ++ r_4)))))))))
set_option maxHeartbeats 40000000 in
set_option maxRecDepth 100000 in
theorem addr_text_walk {F : Fz} {fr : List Ow} {h0 : Heap} (a : T_api_Addr) (hS : St F (fr) h0)  (hD : DM.on = false) {Q : Str → Prop} (hM : addr_text_W a Q) :
    HC Tryd.prog 97 #[.agg (e_api_Addr a).toArray] h0 fun u h' => ∃ (F' : Fz) (r_1 : Str), u = .string (bs r_1) ∧ Kp F h0 F' h' ∧ St F' (fr) h' ∧ Q r_1 := by
  unfold addr_text_W at hM
  have hK := Kp.refl F h0
  refine HC.of_HW (n := 46) Tryd.func97 rfl rfl (Nat.le_of_ble_eq_true rfl) ?_
  refine HW.seq ?_
  refine HW.region ?_
  refine HO.eff (want_none) rfl (st_box (c := (e_api_Addr a).toArray) (k' := 17) hS rfl rfl) ?_
  rintro _ h_1 ⟨b_1, rfl, hS, hk⟩
  replace hK := hK.trans hk
  refine HO.val (v := .string (bs [])) (want_none) rfl (q_assign rfl) ?_
  refine HO.nil (thenQ_normal (?_))
  refine HW.seq ?_
  refine HW.seq ?_
  refine HW.region ?_
  refine HO.val (v := .pointer (some ⟨b_1, 0, none⟩)) (want_none) rfl (q_fieldAddr fa_27_0 rfl rfl) ?_
  refine HO.val (v := .bool a.1) (want_none) rfl (q_load to_4 rfl (Blk.cell (hS.box 0 rfl) rfl)) ?_
  refine HO.val (v := .bool (!a.1)) (want_none) rfl (q_not rfl) ?_
  refine HO.nil (thenQ_normal (?_))
  refine HW.cond (!a.1) rfl (fun c_1 => ?_) (fun c_1 => ?_)
  · replace hM := hM.1 c_1
    refine HW.seq ?_
    refine HW.region ?_
    refine HO.val (v := .slice none 0 0) (want_none) rfl (q_assign rfl) ?_
    refine HO.nil (thenQ_normal (?_))
    refine HW.seq ?_
    refine HW.seq ?_
    refine HW.region ?_
    refine HO.val (v := .pointer (some ⟨b_1, 1, none⟩)) (want_none) rfl (q_fieldAddr fa_27_1 rfl rfl) ?_
    refine HO.val (v := arrV b_1 1 16 0 4) (want_none) rfl (q_sliceA (o := 1) (lo := 0) (hi := 4) (kl := .i64) tr_25 rfl (.inl ⟨rfl, rfl⟩) (.inr ⟨_, rfl, rfl⟩) ⟨by decide, by decide, by decide⟩) ?_
    refine HO.val (v := .int .i64 ((cut a.2.1 0 4).length : Int)) (want_none) rfl (q_len ts_96 (shp (arrSl (o := 1) (n := 16) (X := a.2) (lo := 0) (hi := 4) (hS.box 0 rfl) rfl ⟨by decide, by decide, by decide⟩ (by decide))) rfl rfl) ?_
    refine HO.val (v := .int .i64 0) (want_none) rfl (q_move rfl) ?_
    refine HO.nil (thenQ_normal (?_))
    refine HW.block ?_
    obtain ⟨I_1, m_1, hI_1, hR_1⟩ := hM
    replace hS := hS.nilOwn 9 1 encT
    replace hS : St F (Ow.box b_1 27 (e_api_Addr a).toArray :: Ow.own 9 1 encT (.slice none 0 0) ([] : List Str) :: fr) h_1 := hS.perm2 [1, 0] 2 rfl rfl
    refine HW.loop (S := List Str × Int) (fun s f h => match s with | (l_1, n_1) => ∃ (F' : Fz) (vl_1 : Value), f 1 = .pointer (some ⟨b_1, 0, none⟩) ∧ f 2 = .string (bs []) ∧ f 3 = vl_1 ∧ f 12 = arrV b_1 1 16 0 4 ∧ f 13 = .int .i64 ((cut a.2.1 0 4).length : Int) ∧ f 14 = .int .i64 n_1 ∧ Kp F h0 F' h ∧ St F' (Ow.box b_1 27 (e_api_Addr a).toArray :: Ow.own 9 1 encT vl_1 l_1 :: fr) h ∧ I_1 (l_1, n_1)) m_1 ([], 0) ⟨F, .slice none 0 0, rfl, rfl, rfl, rfl, rfl, rfl, hK, hS, hI_1⟩ ?_
    rintro ⟨l_1, n_1⟩ f_1 h_2 ⟨F_1, vl_1, e1, e2, e3, e12, e13, e14, hK, hS, hI0⟩
    obtain ⟨K_1, hKe_1⟩ : ∃ K : (List Str) → Int → Prop, K = fun l_1' n_1' => I_1 (l_1', n_1') ∧ m_1 (l_1', n_1') < m_1 (l_1, n_1) := ⟨_, rfl⟩
    have hM : addr_text_l2 a Q K_1 l_1 n_1 := by rw [hKe_1]; exact hR_1 (l_1, n_1) hI0
    unfold addr_text_l2 at hM
    refine HW.fr [(1, .pointer (some ⟨b_1, 0, none⟩)), (2, .string (bs [])), (3, vl_1), (12, arrV b_1 1 16 0 4), (13, .int .i64 ((cut a.2.1 0 4).length : Int)), (14, .int .i64 n_1)] ⟨e1, e2, e3, e12, e13, e14, trivial⟩ ?_
    refine HW.seq ?_
    refine HW.region ?_
    refine HO.val (v := .bool (decide (n_1 < ((cut a.2.1 0 4).length : Int)))) (want_none) rfl (q_lss rfl rfl) ?_
    refine HO.nil (thenQ_normal (?_))
    refine HW.seq ?_
    refine HW.cond (decide (n_1 < ((cut a.2.1 0 4).length : Int))) rfl (fun c_2 => ?_) (fun c_2 => ?_)
    · replace hM := hM.1 (of_decide_eq_true c_2)
      refine HW.skip (thenQ_normal (?_))
      refine HW.seq ?_
      refine HW.block ?_
      refine HW.seq ?_
      refine HW.region ?_
      obtain ⟨ho_1, hM⟩ := hM
      refine HO.val (v := elemPtr 1 (arrV b_1 1 16 0 4) (n_1).toNat) (want_none) rfl (q_idx ts_96 (arrSl (o := 1) (n := 16) (X := a.2) (lo := 0) (hi := 4) (hS.box 0 rfl) rfl ⟨by decide, by decide, by decide⟩ (by decide)) rfl rfl ho_1) ?_
      refine HO.val (v := .int .u8 ((gi (cut a.2.1 0 4) n_1).toNat : Int)) (want_none) rfl (q_ldElem to_5 (arrSl (o := 1) (n := 16) (X := a.2) (lo := 0) (hi := 4) (hS.box 0 rfl) rfl ⟨by decide, by decide, by decide⟩ (by decide)) rfl ho_1 rfl) ?_
      refine HO.val (v := .int .u8 ((gi (cut a.2.1 0 4) n_1).toNat : Int)) (want_none) rfl (q_assign rfl) ?_
      refine HO.nil (thenQ_normal (?_))
      refine HW.region ?_
      refine HO.val (v := vl_1) (want_none) rfl (q_move rfl) ?_
      refine HO.val (v := .int .u8 ((gi (cut a.2.1 0 4) n_1).toNat : Int)) (want_none) rfl (q_move rfl) ?_
      obtain ⟨ho_2, hM⟩ := hM
      refine HO.val (v := .int .i64 ((gi (cut a.2.1 0 4) n_1).toNat : Int)) (want_none) rfl (q_convInt Tryd.underlying5 Tryd.underlying3 rfl (wrap_i64 ho_2.1 ho_2.2)) ?_
      obtain ⟨ho_3, hM⟩ := hM
      refine HO.call (want_none) rfl (ec en_102 rfl rfl) (itoa_hc Tryd.itoa ((gi (cut a.2.1 0 4) n_1).toNat : Int) ho_3 _) ?_
      rintro _ h_3 ⟨rfl, hEq⟩
      rw [hEq]
      refine HO.eff (want_none) rfl (st_lit (enc := encT) (cells := #[.string (bs (dec ((gi (cut a.2.1 0 4) n_1).toNat : Int)))]) #[.string (bs [])] ([dec ((gi (cut a.2.1 0 4) n_1).toNat : Int)] : List Str) hS tl_97 (by decide) (by decide) (by kernel_rfl) (by kernel_rfl) rfl (by intro x hx; rfl) rfl) ?_
      rintro _ h_4 ⟨b_2, rfl, hS, hk⟩
      replace hK := hK.trans hk
      obtain ⟨ho_4, hM⟩ := hM
      refine HO.eff (want_none) rfl (st_append te_97 hS (i := 2) rfl (hS.own 0 rfl).slice rfl rfl rfl (by intro a _ u hu; simp [encT, encI, encN, encB, encT] at hu; subst hu; rfl) ho_4 (by omega)) ?_
      rintro v_1 h_5 ⟨hS, hk⟩
      replace hS : St F_1 (Ow.own 9 1 encT (.slice (some ⟨b_2, 0, none⟩) 1 1) ([dec ((gi (cut a.2.1 0 4) n_1).toNat : Int)] : List Str) :: Ow.box b_1 27 (e_api_Addr a).toArray :: Ow.own 9 1 encT v_1 (l_1 ++ ([dec ((gi (cut a.2.1 0 4) n_1).toNat : Int)] : List Str)) :: fr) h_5 := hS
      replace hK := hK.trans hk
      refine HO.val (v := v_1) (want_none) rfl (q_assign rfl) ?_
      refine HO.nil (blockQ_normal (thenQ_normal (?_)))
      refine HW.region ?_
      obtain ⟨ho_5, hM⟩ := hM
      refine HO.val (v := .int .i64 (n_1 + 1)) (want_none) rfl (q_addN _ rfl rfl rfl ho_5.1 ho_5.2) ?_
      refine HO.val (v := .int .i64 (n_1 + 1)) (want_none) rfl (q_move rfl) ?_
      refine HO.nil (thenQ_normal (?_))
      replace hS : St F_1 (Ow.box b_1 27 (e_api_Addr a).toArray :: Ow.own 9 1 encT v_1 (l_1 ++ ([dec ((gi (cut a.2.1 0 4) n_1).toNat : Int)] : List Str)) :: fr) h_5 := hS.perm2 [1, 2] 3 rfl rfl
      rw [hKe_1] at hM
      exact ⟨(l_1 ++ ([dec ((gi (cut a.2.1 0 4) n_1).toNat : Int)] : List Str), n_1 + 1), ⟨F_1, v_1, rfl, rfl, rfl, rfl, rfl, rfl, hK, hS, hM.1⟩, hM.2⟩
    · replace hM := hM.2 (of_decide_eq_false c_2)
      refine HW.exit (thenQ_exit (thenQ_exit (blockQ_exit (thenQ_normal (?_)))))
      refine HW.seq ?_
      refine HW.region ?_
      refine HO.val (v := vl_1) (want_none) rfl (q_move rfl) ?_
      obtain ⟨ho_6, hM⟩ := hM
      refine HO.call (want_none) rfl (ec en_90 rfl rfl) (strJoin_hc hD Tryd.join Tryd.joinX ([46] : Str) hS (hS.own 1 rfl).slice ho_6.1 ho_6.2) ?_
      rintro _ h_6 ⟨rfl, hS, hk⟩
      replace hK := hK.trans hk
      refine HO.val (v := .string (bs (joinS l_1 ([46] : Str)))) (want_none) rfl (q_assign rfl) ?_
      refine HO.nil (thenQ_normal (?_))
      refine HW.ret (thenQ_ret (?_))
      refine ⟨.inr rfl, .string (bs (joinS l_1 ([46] : Str))), res1 rfl (rt rfl), ?_⟩
      replace hS : St F_1 (fr) h_6 := hS.perm2 [] 2 rfl rfl
      exact ⟨F_1, joinS l_1 ([46] : Str), rfl, hK, hS, hM⟩
  · replace hM := hM.2 c_1
    refine HW.skip (thenQ_normal (?_))
    refine HW.seq ?_
    refine HW.region ?_
    refine HO.val (v := .agg (e_api_Addr a).toArray) (want_none) rfl (q_loadAgg (cs := (e_api_Addr a)) ta_27 rfl rfl (Blk.cells (k := 17) (hS.box 0 rfl) rfl)) ?_
    refine HO.call (want_none) rfl (ec en_103 rfl rfl) (addr_row_walk (fr := (Ow.box b_1 27 (e_api_Addr a).toArray :: fr)) a hS hM) ?_
    rintro _ h_7 ⟨F_2, r0_1, r1_1, rfl, hk, hS, hM⟩
    replace hK := hK.trans hk
    refine HO.val (v := .tuple #[.int .i64 r0_1, .int .i64 r1_1]) (want_none) rfl (q_move rfl) ?_
    refine HO.val (v := .int .i64 r0_1) (want_none) rfl (q_extract rfl rfl) ?_
    refine HO.val (v := .int .i64 r1_1) (want_none) rfl (q_extract rfl rfl) ?_
    refine HO.val (v := .int .i64 r0_1) (want_none) rfl (q_assign rfl) ?_
    refine HO.val (v := .int .i64 r1_1) (want_none) rfl (q_assign rfl) ?_
    refine HO.nil (thenQ_normal (?_))
    refine HW.seq ?_
    refine HW.seq ?_
    refine HW.region ?_
    refine HO.val (v := .int .i64 r1_1) (want_none) rfl (q_move rfl) ?_
    refine HO.val (v := .bool (decide (r1_1 < 2))) (want_none) rfl (q_lss rfl rfl) ?_
    refine HO.nil (thenQ_normal (?_))
    refine HW.cond (decide (r1_1 < 2)) rfl (fun c_3 => ?_) (fun c_3 => ?_)
    · replace hM := hM.1 (of_decide_eq_true c_3)
      refine HW.seq ?_
      refine HW.region ?_
      refine HO.val (v := .agg (e_api_Addr a).toArray) (want_none) rfl (q_loadAgg (cs := (e_api_Addr a)) ta_27 rfl rfl (Blk.cells (k := 17) (hS.box 0 rfl) rfl)) ?_
      refine HO.call (want_none) rfl (ec en_104 rfl rfl) (addr_list_walk (fr := (Ow.box b_1 27 (e_api_Addr a).toArray :: fr)) a 0 8 hS hD hM) ?_
      rintro _ h_8 ⟨F_3, r_2, rfl, hk, hS, hM⟩
      replace hK := hK.trans hk
      refine HO.val (v := .string (bs r_2)) (want_none) rfl (q_assign rfl) ?_
      refine HO.nil (thenQ_normal (?_))
      refine HW.ret (thenQ_ret (?_))
      refine ⟨.inr rfl, .string (bs r_2), res1 rfl (rt rfl), ?_⟩
      replace hS : St F_3 (fr) h_8 := hS.perm2 [] 1 rfl rfl
      exact ⟨F_3, r_2, rfl, hK, hS, hM⟩
    · replace hM := hM.2 (of_decide_eq_false c_3)
      refine HW.skip (thenQ_normal (?_))
      refine HW.seq ?_
      refine HW.regionA 11 mixed (fun h => (Blk h b_1 (.cells (e_api_Addr a).toArray 27 (0, 0)))) [] (by kernel_rfl) ?_
      refine HA.val (k := 0) (v := .agg (e_api_Addr a).toArray) rfl rfl (by kernel_rfl) (by kernel_rfl) (want_none) rfl (fun _ c201 => q_loadAgg (cs := (e_api_Addr a)) ta_27 rfl rfl (Blk.cells (k := 17) c201 rfl)) ?_
      refine HA.val (k := 1) (v := .int .i64 r0_1) rfl rfl (by kernel_rfl) (by kernel_rfl) (want_none) rfl (fun _ c201 => q_move rfl) ?_
      refine HA.val (k := 4) (v := .agg (e_api_Addr a).toArray) rfl rfl (by kernel_rfl) (by kernel_rfl) (want_none) rfl (fun _ c201 => q_loadAgg (cs := (e_api_Addr a)) ta_27 rfl rfl (Blk.cells (k := 17) c201 rfl)) ?_
      refine HA.val (k := 5) (v := .int .i64 r0_1) rfl rfl (by kernel_rfl) (by kernel_rfl) (want_none) rfl (fun _ c201 => q_move rfl) ?_
      refine HA.val (k := 6) (v := .int .i64 r1_1) rfl rfl (by kernel_rfl) (by kernel_rfl) (want_none) rfl (fun _ c201 => q_move rfl) ?_
      obtain ⟨ho_7, hM⟩ := hM
      refine HA.val (k := 7) (v := .int .i64 (r0_1 + r1_1)) rfl rfl (by kernel_rfl) (by kernel_rfl) (want_none) rfl (fun _ c201 => q_addN _ rfl rfl rfl ho_7.1 ho_7.2) ?_
      refine HA.one (k := 2) ⟨(hS.box 0 rfl), (Go.Wk.at_nil _ _)⟩ (by kernel_rfl) ?_
      refine HS.call rfl (want_none) rfl (ec en_104 rfl rfl) (addr_list_walk (fr := (Ow.box b_1 27 (e_api_Addr a).toArray :: fr)) a 0 r0_1 hS hD hM) ?_
      rintro _ h_9 ⟨F_4, r_3, rfl, hk, hS, hM⟩
      replace hK := hK.trans hk
      obtain ⟨ho_8, hM⟩ := hM
      refine HA.val (k := 3) (v := .string (bs (r_3 ++ ([58, 58] : Str)))) rfl rfl (by kernel_rfl) (by kernel_rfl) (want_none) rfl (fun _ c201 => q_addT rfl rfl ho_8) ?_
      refine HA.one (k := 8) ⟨(hS.box 0 rfl), (Go.Wk.at_nil _ _)⟩ (by kernel_rfl) ?_
      refine HS.call rfl (want_none) rfl (ec en_104 rfl rfl) (addr_list_walk (fr := (Ow.box b_1 27 (e_api_Addr a).toArray :: fr)) a (r0_1 + r1_1) 8 hS hD hM) ?_
      rintro _ h_10 ⟨F_5, r_4, rfl, hk, hS, hM⟩
      replace hK := hK.trans hk
      obtain ⟨ho_9, hM⟩ := hM
      refine HA.val (k := 9) (v := .string (bs ((r_3 ++ ([58, 58] : Str)) ++ r_4))) rfl rfl (by kernel_rfl) (by kernel_rfl) (want_none) rfl (fun _ c201 => q_addT rfl rfl ho_9) ?_
      refine HA.val (k := 10) (v := .string (bs ((r_3 ++ ([58, 58] : Str)) ++ r_4))) rfl rfl (by kernel_rfl) (by kernel_rfl) (want_none) rfl (fun _ c201 => q_assign rfl) ?_
      refine HA.nil ⟨(hS.box 0 rfl), (Go.Wk.at_nil _ _)⟩ (by kernel_rfl) (thenQ_normal (?_))
      refine HW.ret (?_)
      refine ⟨.inr rfl, .string (bs ((r_3 ++ ([58, 58] : Str)) ++ r_4)), res1 rfl (rt rfl), ?_⟩
      replace hS : St F_5 (fr) h_10 := hS.perm2 [] 1 rfl rfl
      exact ⟨F_5, (r_3 ++ ([58, 58] : Str)) ++ r_4, rfl, hK, hS, hM⟩

def addr_Print_W (a : T_api_Addr) (Q : Str → Prop) : Prop :=
  addr_text_W a (fun r_2 => Q r_2)
set_option maxHeartbeats 40000000 in
set_option maxRecDepth 100000 in
theorem addr_Print_walk {F : Fz} {fr : List Ow} {h0 : Heap} (a : T_api_Addr) (hS : St F (fr) h0)  (hD : DM.on = false) {Q : Str → Prop} (hM : addr_Print_W a Q) :
    HC Tryd.prog 89 #[.agg (e_api_Addr a).toArray] h0 fun u h' => ∃ (F' : Fz) (r_1 : Str), u = .string (bs r_1) ∧ Kp F h0 F' h' ∧ St F' (fr) h' ∧ Q r_1 := by
  unfold addr_Print_W at hM
  have hK := Kp.refl F h0
  refine HC.of_HW (n := 5) Tryd.func89 rfl rfl (Nat.le_of_ble_eq_true rfl) ?_
  refine HW.seq ?_
  refine HW.region ?_
  refine HO.eff (want_none) rfl (st_box (c := (e_api_Addr a).toArray) (k' := 17) hS rfl rfl) ?_
  rintro _ h_1 ⟨b_1, rfl, hS, hk⟩
  replace hK := hK.trans hk
  refine HO.val (v := .string (bs [])) (want_none) rfl (q_assign rfl) ?_
  refine HO.nil (thenQ_normal (?_))
  refine HW.seq ?_
  refine HW.region ?_
  refine HO.val (v := .agg (e_api_Addr a).toArray) (want_none) rfl (q_loadAgg (cs := (e_api_Addr a)) ta_27 rfl rfl (Blk.cells (k := 17) (hS.box 0 rfl) rfl)) ?_
  refine HO.call (want_none) rfl (ec en_97 rfl rfl) (addr_text_walk (fr := (Ow.box b_1 27 (e_api_Addr a).toArray :: fr)) a hS hD hM) ?_
  rintro _ h_2 ⟨F_1, r_2, rfl, hk, hS, hM⟩
  replace hK := hK.trans hk
  refine HO.val (v := .string (bs r_2)) (want_none) rfl (q_assign rfl) ?_
  refine HO.nil (thenQ_normal (?_))
  refine HW.ret (?_)
  refine ⟨.inr rfl, .string (bs r_2), res1 rfl (rt rfl), ?_⟩
  replace hS : St F_1 (fr) h_2 := hS.perm2 [] 1 rfl rfl
  exact ⟨F_1, r_2, rfl, hK, hS, hM⟩

def srcs_text_l1 (l : List T_api_Addr) (Q : Str → Prop) (K_1 : (List Str) → Int → Prop) (out_1 : List Str) (n_1 : Int) : Prop :=
  (n_1 < (l.length : Int) → ((0 : Int) ≤ n_1 ∧ n_1 < (l.length : Int)) ∧ (addr_Print_W (gi l n_1) (fun r_2 => ((out_1.length + ([r_2] : List Str).length) * 16 ≤ 140737488355328) ∧ ((I64 (n_1 + 1)) ∧ (K_1 (out_1 ++ ([r_2] : List Str)) (n_1 + 1)))))) ∧ (¬ (n_1 < (l.length : Int)) → ((out_1).length ≤ 140737488355328 ∧ (joinS out_1 ([44] : Str)).length ≤ 140737488355328) ∧ (Q (joinS out_1 ([44] : Str))))
def srcs_text_W (l : List T_api_Addr) (Q : Str → Prop) : Prop :=
  ((l.length : Int) = 0 → Q [45]) ∧ (¬ ((l.length : Int) = 0) → loopW (fun (K_1 : (List Str × Int) → Prop) (s : List Str × Int) => srcs_text_l1 l Q (fun out_1 n_1 => K_1 (out_1, n_1)) s.1 s.2) ([], 0))
set_option maxHeartbeats 40000000 in
set_option maxRecDepth 100000 in
theorem srcs_text_walk {F : Fz} {fr : List Ow} {h0 : Heap} (l : List T_api_Addr) (vl : Value) (hS : St F (fr) h0) (hL_l : SliceF F h0 17 e_api_Addr vl l) (hD : DM.on = false) {Q : Str → Prop} (hM : srcs_text_W l Q) :
    HC Tryd.prog 76 #[vl] h0 fun u h' => ∃ (F' : Fz) (r_1 : Str), u = .string (bs r_1) ∧ Kp F h0 F' h' ∧ St F' (fr) h' ∧ (SliceF F' h' 17 e_api_Addr vl l) ∧ Q r_1 := by
  unfold srcs_text_W at hM
  have hK := Kp.refl F h0
  refine HC.of_HW (n := 23) Tryd.func76 rfl rfl (Nat.le_of_ble_eq_true rfl) ?_
  refine HW.seq ?_
  refine HW.region ?_
  refine HO.val (v := .string (bs [])) (want_none) rfl (q_assign rfl) ?_
  refine HO.nil (thenQ_normal (?_))
  refine HW.seq ?_
  refine HW.seq ?_
  refine HW.region ?_
  refine HO.val (v := vl) (want_none) rfl (q_move rfl) ?_
  refine HO.val (v := .int .i64 (l.length : Int)) (want_none) rfl (q_len ts_22 (shp hL_l.is) rfl rfl) ?_
  refine HO.val (v := .bool (decide ((l.length : Int) = 0))) (want_none) rfl (q_eql rfl rfl) ?_
  refine HO.nil (thenQ_normal (?_))
  refine HW.cond (decide ((l.length : Int) = 0)) rfl (fun c_1 => ?_) (fun c_1 => ?_)
  · replace hM := hM.1 (of_decide_eq_true c_1)
    refine HW.seq ?_
    refine HW.region ?_
    refine HO.val (v := .string (bs [45])) (want_none) rfl (q_assign rfl) ?_
    refine HO.nil (thenQ_normal (?_))
    refine HW.ret (thenQ_ret (?_))
    refine ⟨.inr rfl, .string (bs [45]), res1 rfl (rt rfl), ?_⟩
    exact ⟨F, [45], rfl, hK, hS, hL_l, hM⟩
  · replace hM := hM.2 (of_decide_eq_false c_1)
    refine HW.skip (thenQ_normal (?_))
    refine HW.seq ?_
    refine HW.region ?_
    refine HO.val (v := .slice none 0 0) (want_none) rfl (q_assign rfl) ?_
    refine HO.nil (thenQ_normal (?_))
    refine HW.seq ?_
    refine HW.seq ?_
    refine HW.region ?_
    refine HO.val (v := vl) (want_none) rfl (q_move rfl) ?_
    refine HO.val (v := .int .i64 (l.length : Int)) (want_none) rfl (q_len ts_22 (shp hL_l.is) rfl rfl) ?_
    refine HO.val (v := .int .i64 0) (want_none) rfl (q_move rfl) ?_
    refine HO.nil (thenQ_normal (?_))
    refine HW.block ?_
    obtain ⟨I_1, m_1, hI_1, hR_1⟩ := hM
    replace hS := hS.nilOwn 9 1 encT
    refine HW.loop (S := List Str × Int) (fun s f h => match s with | (out_1, n_1) => ∃ (F' : Fz) (vout_1 : Value), f 2 = .string (bs []) ∧ f 3 = vout_1 ∧ f 9 = vl ∧ f 10 = .int .i64 (l.length : Int) ∧ f 11 = .int .i64 n_1 ∧ Kp F h0 F' h ∧ St F' (Ow.own 9 1 encT vout_1 out_1 :: fr) h ∧ (SliceF F' h 17 e_api_Addr vl l) ∧ I_1 (out_1, n_1)) m_1 ([], 0) ⟨F, .slice none 0 0, rfl, rfl, rfl, rfl, rfl, hK, hS, hL_l, hI_1⟩ ?_
    rintro ⟨out_1, n_1⟩ f_1 h_1 ⟨F_1, vout_1, e2, e3, e9, e10, e11, hK, hS, hL_l, hI0⟩
    obtain ⟨K_1, hKe_1⟩ : ∃ K : (List Str) → Int → Prop, K = fun out_1' n_1' => I_1 (out_1', n_1') ∧ m_1 (out_1', n_1') < m_1 (out_1, n_1) := ⟨_, rfl⟩
    have hM : srcs_text_l1 l Q K_1 out_1 n_1 := by rw [hKe_1]; exact hR_1 (out_1, n_1) hI0
    unfold srcs_text_l1 at hM
    refine HW.fr [(2, .string (bs [])), (3, vout_1), (9, vl), (10, .int .i64 (l.length : Int)), (11, .int .i64 n_1)] ⟨e2, e3, e9, e10, e11, trivial⟩ ?_
    refine HW.seq ?_
    refine HW.region ?_
    refine HO.val (v := .bool (decide (n_1 < (l.length : Int)))) (want_none) rfl (q_lss rfl rfl) ?_
    refine HO.nil (thenQ_normal (?_))
    refine HW.seq ?_
    refine HW.cond (decide (n_1 < (l.length : Int))) rfl (fun c_2 => ?_) (fun c_2 => ?_)
    · replace hM := hM.1 (of_decide_eq_true c_2)
      refine HW.skip (thenQ_normal (?_))
      refine HW.seq ?_
      refine HW.block ?_
      refine HW.seq ?_
      refine HW.region ?_
      obtain ⟨ho_1, hM⟩ := hM
      refine HO.val (v := elemPtr 17 vl (n_1).toNat) (want_none) rfl (q_idx ts_22 hL_l.is rfl rfl ho_1) ?_
      refine HO.val (v := .agg (e_api_Addr (gi l n_1)).toArray) (want_none) rfl (q_ldElemAgg (cs := (e_api_Addr (gi l n_1))) ta_27 hL_l.is rfl ho_1 rfl) ?_
      refine HO.eff (want_none) rfl (st_alloc (c := (e_api_Addr (false, (default : Ba 16))).toArray) hS tz_27 rfl) ?_
      rintro _ h_2 ⟨b_1, rfl, hS, hk⟩
      replace hK := hK.trans hk
      replace hL_l := hL_l.kp hk
      refine HO.sto (want_none) rfl (st_storeAgg (c' := (e_api_Addr (gi l n_1)).toArray) hS (i := 0) rfl ta_27 rfl rfl rfl (one_e_api_Addr _) (Nat.le_of_ble_eq_true rfl) rfl) ?_
      rintro h_3 ⟨hS, hk⟩
      replace hS : St F_1 (Ow.box b_1 27 (e_api_Addr (gi l n_1)).toArray :: Ow.own 9 1 encT vout_1 out_1 :: fr) h_3 := hS
      replace hK := hK.trans hk
      replace hL_l := hL_l.kp hk
      refine HO.nil (thenQ_normal (?_))
      refine HW.region ?_
      refine HO.val (v := vout_1) (want_none) rfl (q_move rfl) ?_
      refine HO.val (v := .agg (e_api_Addr (gi l n_1)).toArray) (want_none) rfl (q_loadAgg (cs := (e_api_Addr (gi l n_1))) ta_27 rfl rfl (Blk.cells (k := 17) (hS.box 0 rfl) rfl)) ?_
      refine HO.call (want_none) rfl (ec en_89 rfl rfl) (addr_Print_walk (fr := (Ow.box b_1 27 (e_api_Addr (gi l n_1)).toArray :: Ow.own 9 1 encT vout_1 out_1 :: fr)) (gi l n_1) hS hD hM) ?_
      rintro _ h_4 ⟨F_2, r_2, rfl, hk, hS, hM⟩
      replace hK := hK.trans hk
      replace hL_l := hL_l.kp hk
      refine HO.eff (want_none) rfl (st_lit (enc := encT) (cells := #[.string (bs r_2)]) #[.string (bs [])] ([r_2] : List Str) hS tl_97 (by decide) (by decide) (by kernel_rfl) (by kernel_rfl) rfl (by intro x hx; rfl) rfl) ?_
      rintro _ h_5 ⟨b_2, rfl, hS, hk⟩
      replace hK := hK.trans hk
      replace hL_l := hL_l.kp hk
      obtain ⟨ho_2, hM⟩ := hM
      refine HO.eff (want_none) rfl (st_append te_97 hS (i := 2) rfl (hS.own 0 rfl).slice rfl rfl rfl (by intro a _ u hu; simp [encT, encI, encN, encB, encT] at hu; subst hu; rfl) ho_2 (by omega)) ?_
      rintro v_1 h_6 ⟨hS, hk⟩
      replace hS : St F_2 (Ow.own 9 1 encT (.slice (some ⟨b_2, 0, none⟩) 1 1) ([r_2] : List Str) :: Ow.box b_1 27 (e_api_Addr (gi l n_1)).toArray :: Ow.own 9 1 encT v_1 (out_1 ++ ([r_2] : List Str)) :: fr) h_6 := hS
      replace hK := hK.trans hk
      replace hL_l := hL_l.kp hk
      refine HO.val (v := v_1) (want_none) rfl (q_assign rfl) ?_
      refine HO.nil (blockQ_normal (thenQ_normal (?_)))
      refine HW.region ?_
      obtain ⟨ho_3, hM⟩ := hM
      refine HO.val (v := .int .i64 (n_1 + 1)) (want_none) rfl (q_addN _ rfl rfl rfl ho_3.1 ho_3.2) ?_
      refine HO.val (v := .int .i64 (n_1 + 1)) (want_none) rfl (q_move rfl) ?_
      refine HO.nil (thenQ_normal (?_))
      replace hS : St F_2 (Ow.own 9 1 encT v_1 (out_1 ++ ([r_2] : List Str)) :: fr) h_6 := hS.perm2 [2] 3 rfl rfl
      rw [hKe_1] at hM
      exact ⟨(out_1 ++ ([r_2] : List Str), n_1 + 1), ⟨F_2, v_1, rfl, rfl, rfl, rfl, rfl, hK, hS, hL_l, hM.1⟩, hM.2⟩
    · replace hM := hM.2 (of_decide_eq_false c_2)
      refine HW.exit (thenQ_exit (thenQ_exit (blockQ_exit (thenQ_normal (?_)))))
      refine HW.seq ?_
      refine HW.region ?_
      refine HO.val (v := vout_1) (want_none) rfl (q_move rfl) ?_
      obtain ⟨ho_4, hM⟩ := hM
      refine HO.call (want_none) rfl (ec en_90 rfl rfl) (strJoin_hc hD Tryd.join Tryd.joinX ([44] : Str) hS (hS.own 0 rfl).slice ho_4.1 ho_4.2) ?_
      rintro _ h_7 ⟨rfl, hS, hk⟩
      replace hK := hK.trans hk
      replace hL_l := hL_l.kp hk
      refine HO.val (v := .string (bs (joinS out_1 ([44] : Str)))) (want_none) rfl (q_assign rfl) ?_
      refine HO.nil (thenQ_normal (?_))
      refine HW.ret (?_)
      refine ⟨.inr rfl, .string (bs (joinS out_1 ([44] : Str))), res1 rfl (rt rfl), ?_⟩
      replace hS : St F_1 (fr) h_7 := hS.perm2 [] 1 rfl rfl
      exact ⟨F_1, joinS out_1 ([44] : Str), rfl, hK, hS, hL_l, hM⟩

def srcs_Print_W (l : List T_api_Addr) (Q : Str → Prop) : Prop :=
  srcs_text_W l (fun r_2 => Q r_2)
set_option maxHeartbeats 40000000 in
set_option maxRecDepth 100000 in
theorem srcs_Print_walk {F : Fz} {fr : List Ow} {h0 : Heap} (l : List T_api_Addr) (vl : Value) (hS : St F (fr) h0) (hL_l : SliceF F h0 17 e_api_Addr vl l) (hD : DM.on = false) {Q : Str → Prop} (hM : srcs_Print_W l Q) :
    HC Tryd.prog 63 #[vl] h0 fun u h' => ∃ (F' : Fz) (r_1 : Str), u = .string (bs r_1) ∧ Kp F h0 F' h' ∧ St F' (fr) h' ∧ (SliceF F' h' 17 e_api_Addr vl l) ∧ Q r_1 := by
  unfold srcs_Print_W at hM
  have hK := Kp.refl F h0
  refine HC.of_HW (n := 5) Tryd.func63 rfl rfl (Nat.le_of_ble_eq_true rfl) ?_
  refine HW.seq ?_
  refine HW.region ?_
  refine HO.val (v := .string (bs [])) (want_none) rfl (q_assign rfl) ?_
  refine HO.nil (thenQ_normal (?_))
  refine HW.seq ?_
  refine HW.region ?_
  refine HO.val (v := vl) (want_none) rfl (q_move rfl) ?_
  refine HO.call (want_none) rfl (ec en_76 rfl rfl) (srcs_text_walk (fr := (fr)) l vl hS hL_l hD hM) ?_
  rintro _ h_1 ⟨F_1, r_2, rfl, hk, hS, _, hM⟩
  replace hK := hK.trans hk
  replace hL_l := hL_l.kp hk
  refine HO.val (v := .string (bs r_2)) (want_none) rfl (q_assign rfl) ?_
  refine HO.nil (thenQ_normal (?_))
  refine HW.ret (?_)
  refine ⟨.inr rfl, .string (bs r_2), res1 rfl (rt rfl), ?_⟩
  exact ⟨F_1, r_2, rfl, hK, hS, hL_l, hM⟩

def merge_text_W (f_Exclude : Bool) (f_Sources : List T_api_Addr) (Q : Str → Prop) : Prop :=
  (f_Exclude = true → srcs_Print_W f_Sources (fun r_2 => (((([101, 120, 32] : Str)).length : Int) + (r_2.length : Int) ≤ 9223372036854775807) ∧ (Q (([101, 120, 32] : Str) ++ r_2)))) ∧ (f_Exclude = false → srcs_Print_W f_Sources (fun r_3 => (((([105, 110, 32] : Str)).length : Int) + (r_3.length : Int) ≤ 9223372036854775807) ∧ (Q (([105, 110, 32] : Str) ++ r_3))))
set_option maxHeartbeats 40000000 in
set_option maxRecDepth 100000 in
theorem merge_text_walk {F : Fz} {fr : List Ow} {h0 : Heap} (f_Exclude : Bool) (f_Sources : List T_api_Addr) (vf_Sources : Value) (hS : St F (fr) h0) (hL_f_Sources : SliceF F h0 17 e_api_Addr vf_Sources f_Sources) (hD : DM.on = false) {Q : Str → Prop} (hM : merge_text_W f_Exclude f_Sources Q) :
    HC Tryd.prog 67 #[.agg #[.bool f_Exclude, vf_Sources]] h0 fun u h' => ∃ (F' : Fz) (r_1 : Str), u = .string (bs r_1) ∧ Kp F h0 F' h' ∧ St F' (fr) h' ∧ (SliceF F' h' 17 e_api_Addr vf_Sources f_Sources) ∧ Q r_1 := by
  unfold merge_text_W at hM
  have hK := Kp.refl F h0
  refine HC.of_HW (n := 13) Tryd.func67 rfl rfl (Nat.le_of_ble_eq_true rfl) ?_
  refine HW.seq ?_
  refine HW.region ?_
  refine HO.eff (want_none) rfl (st_box (c := #[.bool f_Exclude, vf_Sources]) (k' := 2) hS rfl rfl) ?_
  rintro _ h_1 ⟨b_1, rfl, hS, hk⟩
  replace hK := hK.trans hk
  replace hL_f_Sources := hL_f_Sources.kp hk
  refine HO.val (v := .string (bs [])) (want_none) rfl (q_assign rfl) ?_
  refine HO.nil (thenQ_normal (?_))
  refine HW.seq ?_
  refine HW.seq ?_
  refine HW.region ?_
  refine HO.val (v := .pointer (some ⟨b_1, 0, none⟩)) (want_none) rfl (q_fieldAddr fa_24_0 rfl rfl) ?_
  refine HO.val (v := .bool f_Exclude) (want_none) rfl (q_load to_4 rfl (Blk.cell (hS.box 0 rfl) rfl)) ?_
  refine HO.nil (thenQ_normal (?_))
  refine HW.cond f_Exclude rfl (fun c_1 => ?_) (fun c_1 => ?_)
  · replace hM := hM.1 c_1
    refine HW.seq ?_
    refine HW.region ?_
    refine HO.val (v := .pointer (some ⟨b_1, 1, none⟩)) (want_none) rfl (q_fieldAddr fa_24_1 rfl rfl) ?_
    refine HO.val (v := vf_Sources) (want_none) rfl (q_load to_22 rfl (Blk.cell (hS.box 0 rfl) rfl)) ?_
    refine HO.call (want_none) rfl (ec en_63 rfl rfl) (srcs_Print_walk (fr := (Ow.box b_1 24 #[.bool f_Exclude, vf_Sources] :: fr)) f_Sources vf_Sources hS hL_f_Sources hD hM) ?_
    rintro _ h_2 ⟨F_1, r_2, rfl, hk, hS, _, hM⟩
    replace hK := hK.trans hk
    replace hL_f_Sources := hL_f_Sources.kp hk
    obtain ⟨ho_1, hM⟩ := hM
    refine HO.val (v := .string (bs (([101, 120, 32] : Str) ++ r_2))) (want_none) rfl (q_addT rfl rfl ho_1) ?_
    refine HO.val (v := .string (bs (([101, 120, 32] : Str) ++ r_2))) (want_none) rfl (q_assign rfl) ?_
    refine HO.nil (thenQ_normal (?_))
    refine HW.ret (thenQ_ret (?_))
    refine ⟨.inr rfl, .string (bs (([101, 120, 32] : Str) ++ r_2)), res1 rfl (rt rfl), ?_⟩
    replace hS : St F_1 (fr) h_2 := hS.perm2 [] 1 rfl rfl
    exact ⟨F_1, ([101, 120, 32] : Str) ++ r_2, rfl, hK, hS, hL_f_Sources, hM⟩
  · replace hM := hM.2 c_1
    refine HW.skip (thenQ_normal (?_))
    refine HW.seq ?_
    refine HW.region ?_
    refine HO.val (v := .pointer (some ⟨b_1, 1, none⟩)) (want_none) rfl (q_fieldAddr fa_24_1 rfl rfl) ?_
    refine HO.val (v := vf_Sources) (want_none) rfl (q_load to_22 rfl (Blk.cell (hS.box 0 rfl) rfl)) ?_
    refine HO.call (want_none) rfl (ec en_63 rfl rfl) (srcs_Print_walk (fr := (Ow.box b_1 24 #[.bool f_Exclude, vf_Sources] :: fr)) f_Sources vf_Sources hS hL_f_Sources hD hM) ?_
    rintro _ h_3 ⟨F_2, r_3, rfl, hk, hS, _, hM⟩
    replace hK := hK.trans hk
    replace hL_f_Sources := hL_f_Sources.kp hk
    obtain ⟨ho_2, hM⟩ := hM
    refine HO.val (v := .string (bs (([105, 110, 32] : Str) ++ r_3))) (want_none) rfl (q_addT rfl rfl ho_2) ?_
    refine HO.val (v := .string (bs (([105, 110, 32] : Str) ++ r_3))) (want_none) rfl (q_assign rfl) ?_
    refine HO.nil (thenQ_normal (?_))
    refine HW.ret (?_)
    refine ⟨.inr rfl, .string (bs (([105, 110, 32] : Str) ++ r_3)), res1 rfl (rt rfl), ?_⟩
    replace hS : St F_2 (fr) h_3 := hS.perm2 [] 1 rfl rfl
    exact ⟨F_2, ([105, 110, 32] : Str) ++ r_3, rfl, hK, hS, hL_f_Sources, hM⟩

def merge_Print_W (f_Exclude : Bool) (f_Sources : List T_api_Addr) (Q : Str → Prop) : Prop :=
  merge_text_W f_Exclude f_Sources (fun r_2 => Q r_2)
set_option maxHeartbeats 40000000 in
set_option maxRecDepth 100000 in
theorem merge_Print_walk {F : Fz} {fr : List Ow} {h0 : Heap} (f_Exclude : Bool) (f_Sources : List T_api_Addr) (vf_Sources : Value) (hS : St F (fr) h0) (hL_f_Sources : SliceF F h0 17 e_api_Addr vf_Sources f_Sources) (hD : DM.on = false) {Q : Str → Prop} (hM : merge_Print_W f_Exclude f_Sources Q) :
    HC Tryd.prog 51 #[.agg #[.bool f_Exclude, vf_Sources]] h0 fun u h' => ∃ (F' : Fz) (r_1 : Str), u = .string (bs r_1) ∧ Kp F h0 F' h' ∧ St F' (fr) h' ∧ (SliceF F' h' 17 e_api_Addr vf_Sources f_Sources) ∧ Q r_1 := by
  unfold merge_Print_W at hM
  have hK := Kp.refl F h0
  refine HC.of_HW (n := 5) Tryd.func51 rfl rfl (Nat.le_of_ble_eq_true rfl) ?_
  refine HW.seq ?_
  refine HW.region ?_
  refine HO.eff (want_none) rfl (st_box (c := #[.bool f_Exclude, vf_Sources]) (k' := 2) hS rfl rfl) ?_
  rintro _ h_1 ⟨b_1, rfl, hS, hk⟩
  replace hK := hK.trans hk
  replace hL_f_Sources := hL_f_Sources.kp hk
  refine HO.val (v := .string (bs [])) (want_none) rfl (q_assign rfl) ?_
  refine HO.nil (thenQ_normal (?_))
  refine HW.seq ?_
  refine HW.region ?_
  refine HO.val (v := .agg #[.bool f_Exclude, vf_Sources]) (want_none) rfl (q_loadAgg (cs := [.bool f_Exclude, vf_Sources]) ta_24 rfl rfl (Blk.cells (k := 2) (hS.box 0 rfl) rfl)) ?_
  refine HO.call (want_none) rfl (ec en_67 rfl rfl) (merge_text_walk (fr := (Ow.box b_1 24 #[.bool f_Exclude, vf_Sources] :: fr)) f_Exclude f_Sources vf_Sources hS hL_f_Sources hD hM) ?_
  rintro _ h_2 ⟨F_1, r_2, rfl, hk, hS, _, hM⟩
  replace hK := hK.trans hk
  replace hL_f_Sources := hL_f_Sources.kp hk
  refine HO.val (v := .string (bs r_2)) (want_none) rfl (q_assign rfl) ?_
  refine HO.nil (thenQ_normal (?_))
  refine HW.ret (?_)
  refine ⟨.inr rfl, .string (bs r_2), res1 rfl (rt rfl), ?_⟩
  replace hS : St F_1 (fr) h_2 := hS.perm2 [] 1 rfl rfl
  exact ⟨F_1, r_2, rfl, hK, hS, hL_f_Sources, hM⟩

def law19_lives_W (Q : Bool → Prop) : Prop :=
  law19_four_W 1 (fun r_2 => law19_four_W 1 (fun r_3 => law19_four_W 2 (fun r_4 => ∀ b_1 : Nat, (∀ b_2 : Nat, (merge_All_W ([(false, (.slice (some ⟨b_1, 0, none⟩) 1 1, ([r_2] : List T_api_Addr))), (true, (.slice (some ⟨b_2, 0, none⟩) 2 2, ([r_3, r_4] : List T_api_Addr)))] : List T_api_Filter) (fun r_0_1 r_1_1 => (r_0_1 = true → ((r_1_1.length : Int) = 1 → ((0 : Int) ≤ 0 ∧ 0 < (r_1_1.length : Int)) ∧ (law19_four_W 2 (fun r_5 => (((gi r_1_1 0) : T_api_Addr) = r_5 → merge_Print_W r_0_1 r_1_1 (fun r_6 => Q (decide ((r_6 : Str) = [101, 120, 32, 49, 48, 46, 48, 46, 48, 46, 50])))) ∧ (¬ (((gi r_1_1 0) : T_api_Addr) = r_5) → Q false)))) ∧ (¬ ((r_1_1.length : Int) = 1) → Q false)) ∧ (r_0_1 = false → Q false)))))))
set_option maxHeartbeats 40000000 in
set_option maxRecDepth 100000 in
theorem law19_lives_walk {F : Fz} {fr : List Ow} {h0 : Heap}  (hS : St F (fr) h0)  (hD : DM.on = false) {Q : Bool → Prop} (hM : law19_lives_W Q) :
    HC Tryd.prog 16 #[] h0 fun u h' => ∃ (F' : Fz) (r_1 : Bool), u = .bool r_1 ∧ Kp F h0 F' h' ∧ St F' (fr) h' ∧ Q r_1 := by
  unfold law19_lives_W at hM
  have hK := Kp.refl F h0
  refine HC.of_HW (n := 32) Tryd.func16 rfl rfl (Nat.le_of_ble_eq_true rfl) ?_
  refine HW.seq ?_
  refine HW.region ?_
  refine HO.val (v := .bool false) (want_none) rfl (q_assign rfl) ?_
  refine HO.nil (thenQ_normal (?_))
  refine HW.seq ?_
  refine HW.region ?_
  refine HO.call (want_none) rfl (ec en_50 rfl rfl) (law19_four_walk (fr := (fr)) 1 hS hM) ?_
  rintro _ h_1 ⟨F_1, r_2, rfl, hk, hS, hM⟩
  replace hK := hK.trans hk
  refine HO.eff (want_none) rfl (st_lit (enc := e_api_Addr) (cells := #[.bool r_2.1, .int .u8 (b8 r_2.2 0), .int .u8 (b8 r_2.2 1), .int .u8 (b8 r_2.2 2), .int .u8 (b8 r_2.2 3), .int .u8 (b8 r_2.2 4), .int .u8 (b8 r_2.2 5), .int .u8 (b8 r_2.2 6), .int .u8 (b8 r_2.2 7), .int .u8 (b8 r_2.2 8), .int .u8 (b8 r_2.2 9), .int .u8 (b8 r_2.2 10), .int .u8 (b8 r_2.2 11), .int .u8 (b8 r_2.2 12), .int .u8 (b8 r_2.2 13), .int .u8 (b8 r_2.2 14), .int .u8 (b8 r_2.2 15)]) #[.bool false, .int .u8 0, .int .u8 0, .int .u8 0, .int .u8 0, .int .u8 0, .int .u8 0, .int .u8 0, .int .u8 0, .int .u8 0, .int .u8 0, .int .u8 0, .int .u8 0, .int .u8 0, .int .u8 0, .int .u8 0, .int .u8 0] ([r_2] : List T_api_Addr) hS tl_22 (by decide) (by decide) (by kernel_rfl) (by kernel_rfl) rfl (by intro x hx; rfl) rfl) ?_
  rintro _ h_2 ⟨b_1, rfl, hS, hk⟩
  replace hK := hK.trans hk
  refine HO.val (v := .agg #[.bool false, .slice (some ⟨b_1, 0, none⟩) 1 1]) (want_none) rfl (q_build tp_24 rfl) ?_
  refine HO.call (want_none) rfl (ec en_50 rfl rfl) (law19_four_walk (fr := (Ow.own 27 17 e_api_Addr (.slice (some ⟨b_1, 0, none⟩) 1 1) ([r_2] : List T_api_Addr) :: fr)) 1 hS hM) ?_
  rintro _ h_3 ⟨F_2, r_3, rfl, hk, hS, hM⟩
  replace hK := hK.trans hk
  refine HO.call (want_none) rfl (ec en_50 rfl rfl) (law19_four_walk (fr := (Ow.own 27 17 e_api_Addr (.slice (some ⟨b_1, 0, none⟩) 1 1) ([r_2] : List T_api_Addr) :: fr)) 2 hS hM) ?_
  rintro _ h_4 ⟨F_3, r_4, rfl, hk, hS, hM⟩
  replace hK := hK.trans hk
  refine HO.eff (want_none) rfl (st_lit (enc := e_api_Addr) (cells := #[.bool r_3.1, .int .u8 (b8 r_3.2 0), .int .u8 (b8 r_3.2 1), .int .u8 (b8 r_3.2 2), .int .u8 (b8 r_3.2 3), .int .u8 (b8 r_3.2 4), .int .u8 (b8 r_3.2 5), .int .u8 (b8 r_3.2 6), .int .u8 (b8 r_3.2 7), .int .u8 (b8 r_3.2 8), .int .u8 (b8 r_3.2 9), .int .u8 (b8 r_3.2 10), .int .u8 (b8 r_3.2 11), .int .u8 (b8 r_3.2 12), .int .u8 (b8 r_3.2 13), .int .u8 (b8 r_3.2 14), .int .u8 (b8 r_3.2 15), .bool r_4.1, .int .u8 (b8 r_4.2 0), .int .u8 (b8 r_4.2 1), .int .u8 (b8 r_4.2 2), .int .u8 (b8 r_4.2 3), .int .u8 (b8 r_4.2 4), .int .u8 (b8 r_4.2 5), .int .u8 (b8 r_4.2 6), .int .u8 (b8 r_4.2 7), .int .u8 (b8 r_4.2 8), .int .u8 (b8 r_4.2 9), .int .u8 (b8 r_4.2 10), .int .u8 (b8 r_4.2 11), .int .u8 (b8 r_4.2 12), .int .u8 (b8 r_4.2 13), .int .u8 (b8 r_4.2 14), .int .u8 (b8 r_4.2 15)]) #[.bool false, .int .u8 0, .int .u8 0, .int .u8 0, .int .u8 0, .int .u8 0, .int .u8 0, .int .u8 0, .int .u8 0, .int .u8 0, .int .u8 0, .int .u8 0, .int .u8 0, .int .u8 0, .int .u8 0, .int .u8 0, .int .u8 0, .bool false, .int .u8 0, .int .u8 0, .int .u8 0, .int .u8 0, .int .u8 0, .int .u8 0, .int .u8 0, .int .u8 0, .int .u8 0, .int .u8 0, .int .u8 0, .int .u8 0, .int .u8 0, .int .u8 0, .int .u8 0, .int .u8 0] ([r_3, r_4] : List T_api_Addr) hS tl_22 (by decide) (by decide) (by kernel_rfl) (by kernel_rfl) rfl (by intro x hx; rfl) rfl) ?_
  rintro _ h_5 ⟨b_2, rfl, hS, hk⟩
  replace hK := hK.trans hk
  refine HO.val (v := .agg #[.bool true, .slice (some ⟨b_2, 0, none⟩) 2 2]) (want_none) rfl (q_build tp_24 rfl) ?_
  replace hS : St F_3 (Ow.own 27 17 e_api_Addr (.slice (some ⟨b_1, 0, none⟩) 1 1) ([r_2] : List T_api_Addr) :: Ow.own 27 17 e_api_Addr (.slice (some ⟨b_2, 0, none⟩) 2 2) ([r_3, r_4] : List T_api_Addr) :: fr) h_5 := hS.perm2 [1, 0] 2 rfl rfl
  obtain ⟨F_4, hS, hk, hL_1⟩ := hS.freezeOwn
  replace hK := hK.trans hk
  obtain ⟨F_5, hS, hk, hL_2⟩ := hS.freezeOwn
  replace hK := hK.trans hk
  replace hL_1 := hL_1.kp hk
  replace hM := hM b_1
  replace hM := hM b_2
  refine HO.eff (want_none) rfl (st_lit (enc := e_api_Filter) (cells := #[.bool false, .slice (some ⟨b_1, 0, none⟩) 1 1, .bool true, .slice (some ⟨b_2, 0, none⟩) 2 2]) #[.bool false, .slice none 0 0, .bool false, .slice none 0 0] ([(false, (.slice (some ⟨b_1, 0, none⟩) 1 1, ([r_2] : List T_api_Addr))), (true, (.slice (some ⟨b_2, 0, none⟩) 2 2, ([r_3, r_4] : List T_api_Addr)))] : List T_api_Filter) hS tl_45 (by decide) (by decide) (by kernel_rfl) (by kernel_rfl) rfl (by intro x hx; rfl) rfl) ?_
  rintro _ h_6 ⟨b_3, rfl, hS, hk⟩
  replace hK := hK.trans hk
  replace hL_1 := hL_1.kp hk
  replace hL_2 := hL_2.kp hk
  have hN_1 : NfL nf_api_Filter F_5 h_6 ([(false, (.slice (some ⟨b_1, 0, none⟩) 1 1, ([r_2] : List T_api_Addr))), (true, (.slice (some ⟨b_2, 0, none⟩) 2 2, ([r_3, r_4] : List T_api_Addr)))] : List T_api_Filter) := (NfL.cons (nfm_api_Filter (false, (.slice (some ⟨b_1, 0, none⟩) 1 1, ([r_2] : List T_api_Addr))) hL_1) (NfL.cons (nfm_api_Filter (true, (.slice (some ⟨b_2, 0, none⟩) 2 2, ([r_3, r_4] : List T_api_Addr))) hL_2) (NfL.nil _ _ _)))
  have hZ_1 := hS
  have hkz_1 := (hS.freeze).2
  replace hS := hS.freeze.1
  have hL_3 : SliceF (fun b => F_5 b ∨ (Ow.own 24 2 e_api_Filter (.slice (some ⟨b_3, 0, none⟩) 2 2) ([(false, (.slice (some ⟨b_1, 0, none⟩) 1 1, ([r_2] : List T_api_Addr))), (true, (.slice (some ⟨b_2, 0, none⟩) 2 2, ([r_3, r_4] : List T_api_Addr)))] : List T_api_Filter)).foot b) h_6 2 e_api_Filter (.slice (some ⟨b_3, 0, none⟩) 2 2) ([(false, (.slice (some ⟨b_1, 0, none⟩) 1 1, ([r_2] : List T_api_Addr))), (true, (.slice (some ⟨b_2, 0, none⟩) 2 2, ([r_3, r_4] : List T_api_Addr)))] : List T_api_Filter) := ⟨(hZ_1.own 0 rfl).slice, fun _ b hb => .inr hb⟩
  refine HO.call (want_none) rfl (ec en_17 rfl rfl) (merge_All_walk (fr := (fr)) ([(false, (.slice (some ⟨b_1, 0, none⟩) 1 1, ([r_2] : List T_api_Addr))), (true, (.slice (some ⟨b_2, 0, none⟩) 2 2, ([r_3, r_4] : List T_api_Addr)))] : List T_api_Filter) (.slice (some ⟨b_3, 0, none⟩) 2 2) hS (NfL.kp hN_1 hkz_1) hL_3 hM) ?_
  rintro _ h_7 ⟨F_6, r_0_1, r_1_1, vr_1_1, rfl, hk, hS, _, _, hM⟩
  obtain ⟨hS, hk⟩ := hZ_1.back hk hS
  generalize (fun b => F_6 b ∧ ¬ (Ow.own 24 2 e_api_Filter (.slice (some ⟨b_3, 0, none⟩) 2 2) ([(false, (.slice (some ⟨b_1, 0, none⟩) 1 1, ([r_2] : List T_api_Addr))), (true, (.slice (some ⟨b_2, 0, none⟩) 2 2, ([r_3, r_4] : List T_api_Addr)))] : List T_api_Filter)).foot b) = F_7 at hS hk
  replace hK := hK.trans hk
  replace hL_1 := hL_1.kp hk
  replace hL_2 := hL_2.kp hk
  replace hN_1 := hN_1.kp hk
  refine HO.eff (want_none) rfl (st_alloc (c := #[.bool false, .slice none 0 0]) hS tz_24 rfl) ?_
  rintro _ h_8 ⟨b_4, rfl, hS, hk⟩
  replace hK := hK.trans hk
  replace hL_1 := hL_1.kp hk
  replace hL_2 := hL_2.kp hk
  replace hN_1 := hN_1.kp hk
  refine HO.sto (want_none) rfl (st_storeAgg (c' := #[.bool r_0_1, vr_1_1]) hS (i := 0) rfl ta_24 rfl rfl rfl (List.forall_mem_cons.2 ⟨rfl, (List.forall_mem_cons.2 ⟨(shp (hS.own 2 rfl).slice).one, (fun _ h => by cases h)⟩)⟩) (Nat.le_of_ble_eq_true rfl) rfl) ?_
  rintro h_9 ⟨hS, hk⟩
  replace hS : St F_7 (Ow.box b_4 24 #[.bool r_0_1, vr_1_1] :: Ow.own 24 2 e_api_Filter (.slice (some ⟨b_3, 0, none⟩) 2 2) ([(false, (.slice (some ⟨b_1, 0, none⟩) 1 1, ([r_2] : List T_api_Addr))), (true, (.slice (some ⟨b_2, 0, none⟩) 2 2, ([r_3, r_4] : List T_api_Addr)))] : List T_api_Filter) :: Ow.own 27 17 e_api_Addr vr_1_1 r_1_1 :: fr) h_9 := hS
  replace hK := hK.trans hk
  replace hL_1 := hL_1.kp hk
  replace hL_2 := hL_2.kp hk
  replace hN_1 := hN_1.kp hk
  refine HO.nil (thenQ_normal (?_))
  refine HW.seq ?_
  refine HW.regionA 22 mixed (fun h => (Blk h b_4 (.cells #[.bool r_0_1, vr_1_1] 24 (0, 0))) ∧ (OwnIs h 0 27 17 e_api_Addr vr_1_1 r_1_1)) [] (by kernel_rfl) ?_
  refine HA.val (k := 0) (v := .pointer (some ⟨b_4, 0, none⟩)) rfl rfl (by kernel_rfl) (by kernel_rfl) (want_none) rfl (fun _ ⟨c205, c204⟩ => q_fieldAddr fa_24_0 rfl rfl) ?_
  refine HA.val (k := 1) (v := .bool r_0_1) rfl rfl (by kernel_rfl) (by kernel_rfl) (want_none) rfl (fun _ ⟨c205, c204⟩ => q_load to_4 rfl (Blk.cell c205 rfl)) ?_
  refine HA.val (k := 2) (v := .bool r_0_1) rfl rfl (by kernel_rfl) (by kernel_rfl) (want_none) rfl (fun _ ⟨c205, c204⟩ => q_move rfl) ?_
  rcases Bool.eq_false_or_eq_true r_0_1 with c_1 | c_1
  · replace hM := hM.1 c_1
    refine HA.val (k := 3) (v := .pointer (some ⟨b_4, 1, none⟩)) rfl rfl (by kernel_rfl) (by kernel_rfl) (want_by rfl rfl c_1) rfl (fun _ ⟨c205, c204⟩ => q_fieldAddr fa_24_1 rfl rfl) ?_
    refine HA.val (k := 4) (v := vr_1_1) rfl rfl (by kernel_rfl) (by kernel_rfl) (want_by rfl rfl c_1) rfl (fun _ ⟨c205, c204⟩ => q_load to_22 rfl (Blk.cell c205 rfl)) ?_
    refine HA.val (k := 5) (v := .int .i64 (r_1_1.length : Int)) rfl rfl (by kernel_rfl) (by kernel_rfl) (want_by rfl rfl c_1) rfl (fun _ ⟨c205, c204⟩ => q_len ts_22 (shp c204.slice) rfl rfl) ?_
    refine HA.val (k := 6) (v := .bool (decide ((r_1_1.length : Int) = 1))) rfl rfl (by kernel_rfl) (by kernel_rfl) (want_by rfl rfl c_1) rfl (fun _ ⟨c205, c204⟩ => q_eql rfl rfl) ?_
    refine HA.val (k := 7) (v := .bool (decide ((r_1_1.length : Int) = 1))) rfl rfl (by kernel_rfl) (by kernel_rfl) (want_none) rfl (fun _ ⟨c205, c204⟩ => q_pickK true rfl c_1 rfl) ?_
    refine HA.val (k := 8) (v := .bool (decide ((r_1_1.length : Int) = 1))) rfl rfl (by kernel_rfl) (by kernel_rfl) (want_none) rfl (fun _ ⟨c205, c204⟩ => q_move rfl) ?_
    rcases Bool.eq_false_or_eq_true (decide ((r_1_1.length : Int) = 1)) with c_2 | c_2
    · replace hM := hM.1 (of_decide_eq_true c_2)
      refine HA.val (k := 9) (v := .pointer (some ⟨b_4, 1, none⟩)) rfl rfl (by kernel_rfl) (by kernel_rfl) (want_by rfl rfl c_2) rfl (fun _ ⟨c205, c204⟩ => q_fieldAddr fa_24_1 rfl rfl) ?_
      refine HA.val (k := 10) (v := vr_1_1) rfl rfl (by kernel_rfl) (by kernel_rfl) (want_by rfl rfl c_2) rfl (fun _ ⟨c205, c204⟩ => q_load to_22 rfl (Blk.cell c205 rfl)) ?_
      obtain ⟨ho_1, hM⟩ := hM
      refine HA.val (k := 11) (v := elemPtr 17 vr_1_1 (0 : Int).toNat) rfl rfl (by kernel_rfl) (by kernel_rfl) (want_by rfl rfl c_2) rfl (fun _ ⟨c205, c204⟩ => q_idx ts_22 c204.slice rfl rfl ho_1) ?_
      refine HA.val (k := 12) (v := .agg (e_api_Addr (gi r_1_1 0)).toArray) rfl rfl (by kernel_rfl) (by kernel_rfl) (want_by rfl rfl c_2) rfl (fun _ ⟨c205, c204⟩ => q_ldElemAgg (cs := (e_api_Addr (gi r_1_1 0))) ta_27 c204.slice rfl ho_1 rfl) ?_
      refine HA.one (k := 13) ⟨⟨(hS.box 0 rfl), (hS.own 2 rfl)⟩, (Go.Wk.at_nil _ _)⟩ (by kernel_rfl) ?_
      refine HS.call rfl (want_by rfl rfl c_2) rfl (ec en_50 rfl rfl) (law19_four_walk (fr := (Ow.box b_4 24 #[.bool r_0_1, vr_1_1] :: Ow.own 24 2 e_api_Filter (.slice (some ⟨b_3, 0, none⟩) 2 2) ([(false, (.slice (some ⟨b_1, 0, none⟩) 1 1, ([r_2] : List T_api_Addr))), (true, (.slice (some ⟨b_2, 0, none⟩) 2 2, ([r_3, r_4] : List T_api_Addr)))] : List T_api_Filter) :: Ow.own 27 17 e_api_Addr vr_1_1 r_1_1 :: fr)) 2 hS hM) ?_
      rintro _ h_10 ⟨F_8, r_5, rfl, hk, hS, hM⟩
      replace hK := hK.trans hk
      replace hL_1 := hL_1.kp hk
      replace hL_2 := hL_2.kp hk
      replace hN_1 := hN_1.kp hk
      refine HA.val (k := 14) (v := .bool (decide (((gi r_1_1 0) : T_api_Addr) = r_5))) rfl rfl (by kernel_rfl) (by kernel_rfl) (want_by rfl rfl c_2) rfl (fun _ ⟨c205, c204⟩ => q_eqlAgg (a := (gi r_1_1 0)) (b := r_5) (fun a b w => teq_27 9997 a b w) (by kernel_rfl) rfl rfl rfl rfl) ?_
      refine HA.val (k := 15) (v := .bool (decide (((gi r_1_1 0) : T_api_Addr) = r_5))) rfl rfl (by kernel_rfl) (by kernel_rfl) (want_none) rfl (fun _ ⟨c205, c204⟩ => q_pickK true rfl c_2 rfl) ?_
      refine HA.val (k := 16) (v := .bool (decide (((gi r_1_1 0) : T_api_Addr) = r_5))) rfl rfl (by kernel_rfl) (by kernel_rfl) (want_none) rfl (fun _ ⟨c205, c204⟩ => q_move rfl) ?_
      rcases Bool.eq_false_or_eq_true (decide (((gi r_1_1 0) : T_api_Addr) = r_5)) with c_3 | c_3
      · replace hM := hM.1 (of_decide_eq_true c_3)
        refine HA.val (k := 17) (v := .agg #[.bool r_0_1, vr_1_1]) rfl rfl (by kernel_rfl) (by kernel_rfl) (want_by rfl rfl c_3) rfl (fun _ ⟨c205, c204⟩ => q_loadAgg (cs := [.bool r_0_1, vr_1_1]) ta_24 rfl rfl (Blk.cells (k := 2) c205 rfl)) ?_
        refine HA.one (k := 18) ⟨⟨(hS.box 0 rfl), (hS.own 2 rfl)⟩, (Go.Wk.at_nil _ _)⟩ (by kernel_rfl) ?_
        replace hS : St F_8 (Ow.own 27 17 e_api_Addr vr_1_1 r_1_1 :: Ow.box b_4 24 #[.bool r_0_1, vr_1_1] :: Ow.own 24 2 e_api_Filter (.slice (some ⟨b_3, 0, none⟩) 2 2) ([(false, (.slice (some ⟨b_1, 0, none⟩) 1 1, ([r_2] : List T_api_Addr))), (true, (.slice (some ⟨b_2, 0, none⟩) 2 2, ([r_3, r_4] : List T_api_Addr)))] : List T_api_Filter) :: fr) h_10 := hS.perm2 [2, 0, 1] 3 rfl rfl
        have hZ_2 := hS
        have hkz_2 := (hS.freeze).2
        replace hS := hS.freeze.1
        have hL_4 : SliceF (fun b => F_8 b ∨ (Ow.own 27 17 e_api_Addr vr_1_1 r_1_1).foot b) h_10 17 e_api_Addr vr_1_1 r_1_1 := ⟨(hZ_2.own 0 rfl).slice, fun _ b hb => .inr hb⟩
        refine HS.call rfl (want_by rfl rfl c_3) rfl (ec en_51 rfl rfl) (merge_Print_walk (fr := (Ow.box b_4 24 #[.bool r_0_1, vr_1_1] :: Ow.own 24 2 e_api_Filter (.slice (some ⟨b_3, 0, none⟩) 2 2) ([(false, (.slice (some ⟨b_1, 0, none⟩) 1 1, ([r_2] : List T_api_Addr))), (true, (.slice (some ⟨b_2, 0, none⟩) 2 2, ([r_3, r_4] : List T_api_Addr)))] : List T_api_Filter) :: fr)) r_0_1 r_1_1 vr_1_1 hS hL_4 hD hM) ?_
        rintro _ h_11 ⟨F_9, r_6, rfl, hk, hS, _, hM⟩
        obtain ⟨hS, hk⟩ := hZ_2.back hk hS
        generalize (fun b => F_9 b ∧ ¬ (Ow.own 27 17 e_api_Addr vr_1_1 r_1_1).foot b) = F_10 at hS hk
        replace hK := hK.trans hk
        replace hL_1 := hL_1.kp hk
        replace hL_2 := hL_2.kp hk
        replace hN_1 := hN_1.kp hk
        refine HA.val (k := 19) (v := .bool (decide ((r_6 : Str) = [101, 120, 32, 49, 48, 46, 48, 46, 48, 46, 50]))) rfl rfl (by kernel_rfl) (by kernel_rfl) (want_by rfl rfl c_3) rfl (fun _ ⟨c205, c204⟩ => q_eqlT rfl rfl) ?_
        refine HA.val (k := 20) (v := .bool (decide ((r_6 : Str) = [101, 120, 32, 49, 48, 46, 48, 46, 48, 46, 50]))) rfl rfl (by kernel_rfl) (by kernel_rfl) (want_none) rfl (fun _ ⟨c205, c204⟩ => q_pickK true rfl c_3 rfl) ?_
        refine HA.val (k := 21) (v := .bool (decide ((r_6 : Str) = [101, 120, 32, 49, 48, 46, 48, 46, 48, 46, 50]))) rfl rfl (by kernel_rfl) (by kernel_rfl) (want_none) rfl (fun _ ⟨c205, c204⟩ => q_assign rfl) ?_
        refine HA.nil ⟨⟨(hS.box 1 rfl), (hS.own 0 rfl)⟩, (Go.Wk.at_nil _ _)⟩ (by kernel_rfl) (thenQ_normal (?_))
        refine HW.ret (?_)
        refine ⟨.inr rfl, .bool (decide ((r_6 : Str) = [101, 120, 32, 49, 48, 46, 48, 46, 48, 46, 50])), res1 rfl (rt rfl), ?_⟩
        replace hS : St F_10 (fr) h_11 := hS.perm2 [] 3 rfl rfl
        exact ⟨F_10, decide ((r_6 : Str) = [101, 120, 32, 49, 48, 46, 48, 46, 48, 46, 50]), rfl, hK, hS, hM⟩
      · replace hM := hM.2 (of_decide_eq_false c_3)
        refine HA.past (k := 17) rfl rfl (by kernel_rfl) (by kernel_rfl) (past_by rfl rfl c_3) rfl ?_
        refine HA.one (k := 18) ⟨⟨(hS.box 0 rfl), (hS.own 2 rfl)⟩, (Go.Wk.at_nil _ _)⟩ (by kernel_rfl) ?_
        refine HS.past rfl (past_by rfl rfl c_3) rfl ?_
        refine HA.past (k := 19) rfl rfl (by kernel_rfl) (by kernel_rfl) (past_by rfl rfl c_3) rfl ?_
        refine HA.val (k := 20) (v := .bool false) rfl rfl (by kernel_rfl) (by kernel_rfl) (want_none) rfl (fun _ ⟨c205, c204⟩ => q_pickK false rfl c_3 rfl) ?_
        refine HA.val (k := 21) (v := .bool false) rfl rfl (by kernel_rfl) (by kernel_rfl) (want_none) rfl (fun _ ⟨c205, c204⟩ => q_assign rfl) ?_
        refine HA.nil ⟨⟨(hS.box 0 rfl), (hS.own 2 rfl)⟩, (Go.Wk.at_nil _ _)⟩ (by kernel_rfl) (thenQ_normal (?_))
        refine HW.ret (?_)
        refine ⟨.inr rfl, .bool false, res1 rfl (rt rfl), ?_⟩
        replace hS : St F_8 (fr) h_10 := hS.perm2 [] 3 rfl rfl
        exact ⟨F_8, false, rfl, hK, hS, hM⟩
    · replace hM := hM.2 (of_decide_eq_false c_2)
      refine HA.past (k := 9) rfl rfl (by kernel_rfl) (by kernel_rfl) (past_by rfl rfl c_2) rfl ?_
      refine HA.past (k := 10) rfl rfl (by kernel_rfl) (by kernel_rfl) (past_by rfl rfl c_2) rfl ?_
      refine HA.past (k := 11) rfl rfl (by kernel_rfl) (by kernel_rfl) (past_by rfl rfl c_2) rfl ?_
      refine HA.past (k := 12) rfl rfl (by kernel_rfl) (by kernel_rfl) (past_by rfl rfl c_2) rfl ?_
      refine HA.one (k := 13) ⟨⟨(hS.box 0 rfl), (hS.own 2 rfl)⟩, (Go.Wk.at_nil _ _)⟩ (by kernel_rfl) ?_
      refine HS.past rfl (past_by rfl rfl c_2) rfl ?_
      refine HA.past (k := 14) rfl rfl (by kernel_rfl) (by kernel_rfl) (past_by rfl rfl c_2) rfl ?_
      refine HA.val (k := 15) (v := .bool false) rfl rfl (by kernel_rfl) (by kernel_rfl) (want_none) rfl (fun _ ⟨c205, c204⟩ => q_pickK false rfl c_2 rfl) ?_
      refine HA.val (k := 16) (v := .bool false) rfl rfl (by kernel_rfl) (by kernel_rfl) (want_none) rfl (fun _ ⟨c205, c204⟩ => q_move rfl) ?_
      refine HA.past (k := 17) rfl rfl (by kernel_rfl) (by kernel_rfl) (past_some rfl rfl) rfl ?_
      refine HA.one (k := 18) ⟨⟨(hS.box 0 rfl), (hS.own 2 rfl)⟩, (Go.Wk.at_nil _ _)⟩ (by kernel_rfl) ?_
      refine HS.past rfl (past_some rfl rfl) rfl ?_
      refine HA.past (k := 19) rfl rfl (by kernel_rfl) (by kernel_rfl) (past_some rfl rfl) rfl ?_
      refine HA.val (k := 20) (v := .bool false) rfl rfl (by kernel_rfl) (by kernel_rfl) (want_none) rfl (fun _ ⟨c205, c204⟩ => q_pick rfl rfl) ?_
      refine HA.val (k := 21) (v := .bool false) rfl rfl (by kernel_rfl) (by kernel_rfl) (want_none) rfl (fun _ ⟨c205, c204⟩ => q_assign rfl) ?_
      refine HA.nil ⟨⟨(hS.box 0 rfl), (hS.own 2 rfl)⟩, (Go.Wk.at_nil _ _)⟩ (by kernel_rfl) (thenQ_normal (?_))
      refine HW.ret (?_)
      refine ⟨.inr rfl, .bool false, res1 rfl (rt rfl), ?_⟩
      replace hS : St F_7 (fr) h_9 := hS.perm2 [] 3 rfl rfl
      exact ⟨F_7, false, rfl, hK, hS, hM⟩
  · replace hM := hM.2 c_1
    refine HA.past (k := 3) rfl rfl (by kernel_rfl) (by kernel_rfl) (past_by rfl rfl c_1) rfl ?_
    refine HA.past (k := 4) rfl rfl (by kernel_rfl) (by kernel_rfl) (past_by rfl rfl c_1) rfl ?_
    refine HA.past (k := 5) rfl rfl (by kernel_rfl) (by kernel_rfl) (past_by rfl rfl c_1) rfl ?_
    refine HA.past (k := 6) rfl rfl (by kernel_rfl) (by kernel_rfl) (past_by rfl rfl c_1) rfl ?_
    refine HA.val (k := 7) (v := .bool false) rfl rfl (by kernel_rfl) (by kernel_rfl) (want_none) rfl (fun _ ⟨c205, c204⟩ => q_pickK false rfl c_1 rfl) ?_
    refine HA.val (k := 8) (v := .bool false) rfl rfl (by kernel_rfl) (by kernel_rfl) (want_none) rfl (fun _ ⟨c205, c204⟩ => q_move rfl) ?_
    refine HA.past (k := 9) rfl rfl (by kernel_rfl) (by kernel_rfl) (past_some rfl rfl) rfl ?_
    refine HA.past (k := 10) rfl rfl (by kernel_rfl) (by kernel_rfl) (past_some rfl rfl) rfl ?_
    refine HA.past (k := 11) rfl rfl (by kernel_rfl) (by kernel_rfl) (past_some rfl rfl) rfl ?_
    refine HA.past (k := 12) rfl rfl (by kernel_rfl) (by kernel_rfl) (past_some rfl rfl) rfl ?_
    refine HA.one (k := 13) ⟨⟨(hS.box 0 rfl), (hS.own 2 rfl)⟩, (Go.Wk.at_nil _ _)⟩ (by kernel_rfl) ?_
    refine HS.past rfl (past_some rfl rfl) rfl ?_
    refine HA.past (k := 14) rfl rfl (by kernel_rfl) (by kernel_rfl) (past_some rfl rfl) rfl ?_
    refine HA.val (k := 15) (v := .bool false) rfl rfl (by kernel_rfl) (by kernel_rfl) (want_none) rfl (fun _ ⟨c205, c204⟩ => q_pick rfl rfl) ?_
    refine HA.val (k := 16) (v := .bool false) rfl rfl (by kernel_rfl) (by kernel_rfl) (want_none) rfl (fun _ ⟨c205, c204⟩ => q_move rfl) ?_
    refine HA.past (k := 17) rfl rfl (by kernel_rfl) (by kernel_rfl) (past_some rfl rfl) rfl ?_
    refine HA.one (k := 18) ⟨⟨(hS.box 0 rfl), (hS.own 2 rfl)⟩, (Go.Wk.at_nil _ _)⟩ (by kernel_rfl) ?_
    refine HS.past rfl (past_some rfl rfl) rfl ?_
    refine HA.past (k := 19) rfl rfl (by kernel_rfl) (by kernel_rfl) (past_some rfl rfl) rfl ?_
    refine HA.val (k := 20) (v := .bool false) rfl rfl (by kernel_rfl) (by kernel_rfl) (want_none) rfl (fun _ ⟨c205, c204⟩ => q_pick rfl rfl) ?_
    refine HA.val (k := 21) (v := .bool false) rfl rfl (by kernel_rfl) (by kernel_rfl) (want_none) rfl (fun _ ⟨c205, c204⟩ => q_assign rfl) ?_
    refine HA.nil ⟨⟨(hS.box 0 rfl), (hS.own 2 rfl)⟩, (Go.Wk.at_nil _ _)⟩ (by kernel_rfl) (thenQ_normal (?_))
    refine HW.ret (?_)
    refine ⟨.inr rfl, .bool false, res1 rfl (rt rfl), ?_⟩
    replace hS : St F_7 (fr) h_9 := hS.perm2 [] 3 rfl rfl
    exact ⟨F_7, false, rfl, hK, hS, hM⟩

def law19_MergeAll_l1 (a : T_api_Addr) (Q : Bool → Prop) (r_0_1 : Bool) (r_1_1 : List T_api_Addr) (r_3 : List T_api_Filter) (K_1 : Bool → Int → Prop) (some_1 : Bool) (i_1 : Int) : Prop :=
  (i_1 < (r_3.length : Int) → (some_1 = true → (I64 (i_1 + 1)) ∧ (K_1 true (i_1 + 1))) ∧ (some_1 = false → ((0 : Int) ≤ i_1 ∧ i_1 < (r_3.length : Int)) ∧ (law19_Few_W ((gi r_3 i_1).1) (((gi r_3 i_1).2).2) (fun r_0_2 r_1_2 => merge_Lets_W r_0_2 r_1_2 a (fun r_4 => (I64 (i_1 + 1)) ∧ (K_1 r_4 (i_1 + 1))))))) ∧ (¬ (i_1 < (r_3.length : Int)) → ref19_All_W r_3 (fun r_0_3 r_1_3 => ref19_Same_W r_0_1 r_1_1 r_0_3 r_1_3 (fun r_5 => (r_5 = true → merge_Lets_W r_0_1 r_1_1 a (fun r_6 => ((r_6 == some_1) = true → merge_Good_W r_0_1 r_1_1 (fun r_7 => (r_7 = true → law19_lives_W  (fun r_8 => Q r_8)) ∧ (r_7 = false → Q false))) ∧ ((r_6 == some_1) = false → Q false))) ∧ (r_5 = false → Q false))))
def law19_MergeAll_W (l : List T_api_Filter) (a : T_api_Addr) (Q : Bool → Prop) : Prop :=
  law19_few_W l (fun r_2 => merge_All_W r_2 (fun r_0_1 r_1_1 => law19_few_W l (fun r_3 => loopW (fun (K_1 : (Bool × Int) → Prop) (s : Bool × Int) => law19_MergeAll_l1 a Q r_0_1 r_1_1 r_3 (fun some_1 i_1 => K_1 (some_1, i_1)) s.1 s.2) (false, 0))))
set_option maxHeartbeats 40000000 in
set_option maxRecDepth 100000 in
theorem law19_MergeAll_walk {F : Fz} {fr : List Ow} {h0 : Heap} (l : List T_api_Filter) (a : T_api_Addr) (vl : Value) (hS : St F (fr) h0) (hN_l : NfL nf_api_Filter F h0 l) (hL_l : SliceF F h0 2 e_api_Filter vl l) (hD : DM.on = false) {Q : Bool → Prop} (hM : law19_MergeAll_W l a Q) :
    HC Tryd.prog 4 #[vl, .agg (e_api_Addr a).toArray] h0 fun u h' => ∃ (F' : Fz) (r_1 : Bool), u = .bool r_1 ∧ Kp F h0 F' h' ∧ St F' (fr) h' ∧ (NfL nf_api_Filter F' h' l) ∧ (SliceF F' h' 2 e_api_Filter vl l) ∧ Q r_1 := by
  unfold law19_MergeAll_W at hM
  have hK := Kp.refl F h0
  refine HC.of_HW (n := 48) Tryd.func4 rfl rfl (Nat.le_of_ble_eq_true rfl) ?_
  refine HW.seq ?_
  refine HW.region ?_
  refine HO.eff (want_none) rfl (st_box (c := (e_api_Addr a).toArray) (k' := 17) hS rfl rfl) ?_
  rintro _ h_1 ⟨b_1, rfl, hS, hk⟩
  replace hK := hK.trans hk
  replace hN_l := hN_l.kp hk
  replace hL_l := hL_l.kp hk
  refine HO.val (v := .bool false) (want_none) rfl (q_assign rfl) ?_
  refine HO.nil (thenQ_normal (?_))
  refine HW.seq ?_
  refine HW.region ?_
  refine HO.val (v := vl) (want_none) rfl (q_move rfl) ?_
  refine HO.call (want_none) rfl (ec en_18 rfl rfl) (law19_few_walk (fr := (Ow.box b_1 27 (e_api_Addr a).toArray :: fr)) l vl hS hN_l hL_l hM) ?_
  rintro vr_1 h_2 ⟨F_1, r_2, _, rfl, hk, hS, _, _, hL_1, hM⟩
  replace hK := hK.trans hk
  replace hN_l := hN_l.kp hk
  replace hL_l := hL_l.kp hk
  have hZ_1 := hS
  have hkz_1 := (hS.freeze).2
  replace hS := hS.freeze.1
  have hL_2 : SliceF (fun b => F_1 b ∨ (Ow.own 24 2 e_api_Filter vr_1 r_2).foot b) h_2 2 e_api_Filter vr_1 r_2 := ⟨(hZ_1.own 0 rfl).slice, fun _ b hb => .inr hb⟩
  refine HO.call (want_none) rfl (ec en_17 rfl rfl) (merge_All_walk (fr := (Ow.box b_1 27 (e_api_Addr a).toArray :: fr)) r_2 vr_1 hS (NfL.kp hL_1 hkz_1) hL_2 hM) ?_
  rintro _ h_3 ⟨F_2, r_0_1, r_1_1, vr_1_1, rfl, hk, hS, _, _, hM⟩
  obtain ⟨hS, hk⟩ := hZ_1.back hk hS
  generalize (fun b => F_2 b ∧ ¬ (Ow.own 24 2 e_api_Filter vr_1 r_2).foot b) = F_3 at hS hk
  replace hK := hK.trans hk
  replace hN_l := hN_l.kp hk
  replace hL_l := hL_l.kp hk
  replace hL_1 := hL_1.kp hk
  refine HO.eff (want_none) rfl (st_alloc (c := #[.bool false, .slice none 0 0]) hS tz_24 rfl) ?_
  rintro _ h_4 ⟨b_2, rfl, hS, hk⟩
  replace hK := hK.trans hk
  replace hN_l := hN_l.kp hk
  replace hL_l := hL_l.kp hk
  replace hL_1 := hL_1.kp hk
  refine HO.sto (want_none) rfl (st_storeAgg (c' := #[.bool r_0_1, vr_1_1]) hS (i := 0) rfl ta_24 rfl rfl rfl (List.forall_mem_cons.2 ⟨rfl, (List.forall_mem_cons.2 ⟨(shp (hS.own 2 rfl).slice).one, (fun _ h => by cases h)⟩)⟩) (Nat.le_of_ble_eq_true rfl) rfl) ?_
  rintro h_5 ⟨hS, hk⟩
  replace hS : St F_3 (Ow.box b_2 24 #[.bool r_0_1, vr_1_1] :: Ow.own 24 2 e_api_Filter vr_1 r_2 :: Ow.own 27 17 e_api_Addr vr_1_1 r_1_1 :: Ow.box b_1 27 (e_api_Addr a).toArray :: fr) h_5 := hS
  replace hK := hK.trans hk
  replace hN_l := hN_l.kp hk
  replace hL_l := hL_l.kp hk
  replace hL_1 := hL_1.kp hk
  refine HO.val (v := .bool false) (want_none) rfl (q_assign rfl) ?_
  refine HO.nil (thenQ_normal (?_))
  refine HW.seq ?_
  refine HW.region ?_
  refine HO.val (v := vl) (want_none) rfl (q_move rfl) ?_
  refine HO.call (want_none) rfl (ec en_18 rfl rfl) (law19_few_walk (fr := (Ow.box b_2 24 #[.bool r_0_1, vr_1_1] :: Ow.own 24 2 e_api_Filter vr_1 r_2 :: Ow.own 27 17 e_api_Addr vr_1_1 r_1_1 :: Ow.box b_1 27 (e_api_Addr a).toArray :: fr)) l vl hS hN_l hL_l hM) ?_
  rintro vr_2 h_6 ⟨F_4, r_3, _, rfl, hk, hS, _, _, hL_3, hM⟩
  replace hK := hK.trans hk
  replace hN_l := hN_l.kp hk
  replace hL_l := hL_l.kp hk
  replace hL_1 := hL_1.kp hk
  refine HO.val (v := vr_2) (want_none) rfl (q_assign rfl) ?_
  refine HO.nil (thenQ_normal (?_))
  refine HW.seq ?_
  refine HW.seq ?_
  refine HW.region ?_
  refine HO.val (v := .int .i64 0) (want_none) rfl (q_assign rfl) ?_
  refine HO.nil (thenQ_normal (?_))
  refine HW.block ?_
  obtain ⟨I_1, m_1, hI_1, hR_1⟩ := hM
  replace hS : St F_4 (Ow.box b_1 27 (e_api_Addr a).toArray :: Ow.box b_2 24 #[.bool r_0_1, vr_1_1] :: Ow.own 27 17 e_api_Addr vr_1_1 r_1_1 :: Ow.own 24 2 e_api_Filter vr_2 r_3 :: fr) h_6 := hS.perm2 [4, 1, 3, 0] 5 rfl rfl
  refine HW.loop (S := Bool × Int) (fun s f h => match s with | (some_1, i_1) => ∃ (F' : Fz), f 3 = .pointer (some ⟨b_1, 0, none⟩) ∧ f 4 = .bool false ∧ f 5 = .pointer (some ⟨b_2, 0, none⟩) ∧ f 6 = .bool some_1 ∧ f 7 = vr_2 ∧ f 8 = .int .i64 i_1 ∧ Kp F h0 F' h ∧ St F' (Ow.box b_1 27 (e_api_Addr a).toArray :: Ow.box b_2 24 #[.bool r_0_1, vr_1_1] :: Ow.own 27 17 e_api_Addr vr_1_1 r_1_1 :: Ow.own 24 2 e_api_Filter vr_2 r_3 :: fr) h ∧ (NfL nf_api_Filter F' h l) ∧ (SliceF F' h 2 e_api_Filter vl l) ∧ (NfL nf_api_Filter F' h r_2) ∧ (NfL nf_api_Filter F' h r_3) ∧ I_1 (some_1, i_1)) m_1 (false, 0) ⟨F_4, rfl, rfl, rfl, rfl, rfl, rfl, hK, hS, hN_l, hL_l, hL_1, hL_3, hI_1⟩ ?_
  rintro ⟨some_1, i_1⟩ f_1 h_7 ⟨F_5, e3, e4, e5, e6, e7, e8, hK, hS, hN_l, hL_l, hL_1, hL_3, hI0⟩
  obtain ⟨K_1, hKe_1⟩ : ∃ K : Bool → Int → Prop, K = fun some_1' i_1' => I_1 (some_1', i_1') ∧ m_1 (some_1', i_1') < m_1 (some_1, i_1) := ⟨_, rfl⟩
  have hM : law19_MergeAll_l1 a Q r_0_1 r_1_1 r_3 K_1 some_1 i_1 := by rw [hKe_1]; exact hR_1 (some_1, i_1) hI0
  unfold law19_MergeAll_l1 at hM
  refine HW.fr [(3, .pointer (some ⟨b_1, 0, none⟩)), (4, .bool false), (5, .pointer (some ⟨b_2, 0, none⟩)), (6, .bool some_1), (7, vr_2), (8, .int .i64 i_1)] ⟨e3, e4, e5, e6, e7, e8, trivial⟩ ?_
  refine HW.seq ?_
  refine HW.seq ?_
  refine HW.region ?_
  refine HO.val (v := .int .i64 i_1) (want_none) rfl (q_move rfl) ?_
  refine HO.val (v := vr_2) (want_none) rfl (q_move rfl) ?_
  refine HO.val (v := .int .i64 (r_3.length : Int)) (want_none) rfl (q_len ts_45 (shp (hS.own 3 rfl).slice) rfl rfl) ?_
  refine HO.val (v := .bool (decide (i_1 < (r_3.length : Int)))) (want_none) rfl (q_lss rfl rfl) ?_
  refine HO.nil (thenQ_normal (?_))
  refine HW.cond (decide (i_1 < (r_3.length : Int))) rfl (fun c_1 => ?_) (fun c_1 => ?_)
  · replace hM := hM.1 (of_decide_eq_true c_1)
    refine HW.skip (thenQ_normal (?_))
    refine HW.seq ?_
    refine HW.block ?_
    refine HW.regionA 11 mixed (fun h => (Blk h b_1 (.cells (e_api_Addr a).toArray 27 (0, 0))) ∧ (OwnIs h 0 24 2 e_api_Filter vr_2 r_3)) [] (by kernel_rfl) ?_
    refine HA.val (k := 0) (v := .bool some_1) rfl rfl (by kernel_rfl) (by kernel_rfl) (want_none) rfl (fun _ ⟨c306, c309⟩ => q_move rfl) ?_
    refine HA.val (k := 1) (v := .bool some_1) rfl rfl (by kernel_rfl) (by kernel_rfl) (want_none) rfl (fun _ ⟨c306, c309⟩ => q_move rfl) ?_
    rcases Bool.eq_false_or_eq_true some_1 with c_2 | c_2
    · replace hM := hM.1 c_2
      refine HA.past (k := 2) rfl rfl (by kernel_rfl) (by kernel_rfl) (past_by rfl rfl c_2) rfl ?_
      refine HA.past (k := 3) rfl rfl (by kernel_rfl) (by kernel_rfl) (past_by rfl rfl c_2) rfl ?_
      refine HA.past (k := 4) rfl rfl (by kernel_rfl) (by kernel_rfl) (past_by rfl rfl c_2) rfl ?_
      refine HA.past (k := 5) rfl rfl (by kernel_rfl) (by kernel_rfl) (past_by rfl rfl c_2) rfl ?_
      refine HA.past (k := 7) rfl rfl (by kernel_rfl) (by kernel_rfl) (past_by rfl rfl c_2) rfl ?_
      refine HA.one (k := 6) ⟨⟨(hS.box 0 rfl), (hS.own 3 rfl)⟩, (Go.Wk.at_nil _ _)⟩ (by kernel_rfl) ?_
      refine HS.past rfl (past_by rfl rfl c_2) rfl ?_
      refine HA.one (k := 8) ⟨⟨(hS.box 0 rfl), (hS.own 3 rfl)⟩, (Go.Wk.at_nil _ _)⟩ (by kernel_rfl) ?_
      refine HS.past rfl (past_by rfl rfl c_2) rfl ?_
      refine HA.val (k := 9) (v := .bool true) rfl rfl (by kernel_rfl) (by kernel_rfl) (want_none) rfl (fun _ ⟨c306, c309⟩ => q_pickK true rfl c_2 rfl) ?_
      refine HA.val (k := 10) (v := .bool true) rfl rfl (by kernel_rfl) (by kernel_rfl) (want_none) rfl (fun _ ⟨c306, c309⟩ => q_assign rfl) ?_
      refine HA.nil ⟨⟨(hS.box 0 rfl), (hS.own 3 rfl)⟩, (Go.Wk.at_nil _ _)⟩ (by kernel_rfl) (blockQ_normal (thenQ_normal (?_)))
      refine HW.region ?_
      refine HO.val (v := .int .i64 i_1) (want_none) rfl (q_move rfl) ?_
      obtain ⟨ho_1, hM⟩ := hM
      refine HO.val (v := .int .i64 (i_1 + 1)) (want_none) rfl (q_addN _ rfl rfl rfl ho_1.1 ho_1.2) ?_
      refine HO.val (v := .int .i64 (i_1 + 1)) (want_none) rfl (q_assign rfl) ?_
      refine HO.nil (thenQ_normal (?_))
      rw [hKe_1] at hM
      exact ⟨(true, i_1 + 1), ⟨F_5, rfl, rfl, rfl, rfl, rfl, rfl, hK, hS, hN_l, hL_l, hL_1, hL_3, hM.1⟩, hM.2⟩
    · replace hM := hM.2 c_2
      refine HA.val (k := 2) (v := vr_2) rfl rfl (by kernel_rfl) (by kernel_rfl) (want_by rfl rfl c_2) rfl (fun _ ⟨c306, c309⟩ => q_move rfl) ?_
      refine HA.val (k := 3) (v := .int .i64 i_1) rfl rfl (by kernel_rfl) (by kernel_rfl) (want_by rfl rfl c_2) rfl (fun _ ⟨c306, c309⟩ => q_move rfl) ?_
      obtain ⟨ho_2, hM⟩ := hM
      refine HA.val (k := 4) (v := elemPtr 2 vr_2 (i_1).toNat) rfl rfl (by kernel_rfl) (by kernel_rfl) (want_by rfl rfl c_2) rfl (fun _ ⟨c306, c309⟩ => q_idx ts_45 c309.slice rfl rfl ho_2) ?_
      refine HA.val (k := 5) (v := .agg #[.bool ((gi r_3 i_1).1), ((gi r_3 i_1).2).1]) rfl rfl (by kernel_rfl) (by kernel_rfl) (want_by rfl rfl c_2) rfl (fun _ ⟨c306, c309⟩ => q_ldElemAgg (cs := [.bool ((gi r_3 i_1).1), ((gi r_3 i_1).2).1]) ta_24 c309.slice rfl ho_2 rfl) ?_
      refine HA.val (k := 7) (v := .agg (e_api_Addr a).toArray) rfl rfl (by kernel_rfl) (by kernel_rfl) (want_by rfl rfl c_2) rfl (fun _ ⟨c306, c309⟩ => q_loadAgg (cs := (e_api_Addr a)) ta_27 rfl rfl (Blk.cells (k := 17) c306 rfl)) ?_
      refine HA.one (k := 6) ⟨⟨(hS.box 0 rfl), (hS.own 3 rfl)⟩, (Go.Wk.at_nil _ _)⟩ (by kernel_rfl) ?_
      refine HS.call rfl (want_by rfl rfl c_2) rfl (ec en_9 rfl rfl) (law19_Few_walk (fr := (Ow.box b_1 27 (e_api_Addr a).toArray :: Ow.box b_2 24 #[.bool r_0_1, vr_1_1] :: Ow.own 27 17 e_api_Addr vr_1_1 r_1_1 :: Ow.own 24 2 e_api_Filter vr_2 r_3 :: fr)) ((gi r_3 i_1).1) (((gi r_3 i_1).2).2) (((gi r_3 i_1).2).1) hS (nff_api_Filter_1 (NfL.at hL_3 ho_2)) hM) ?_
      rintro _ h_8 ⟨F_6, r_0_2, r_1_2, vr_1_2, rfl, hk, hS, _, hL_4, hM⟩
      replace hK := hK.trans hk
      replace hN_l := hN_l.kp hk
      replace hL_l := hL_l.kp hk
      replace hL_1 := hL_1.kp hk
      replace hL_3 := hL_3.kp hk
      refine HA.one (k := 8) ⟨⟨(hS.box 0 rfl), (hS.own 3 rfl)⟩, (Go.Wk.at_nil _ _)⟩ (by kernel_rfl) ?_
      refine HS.call rfl (want_by rfl rfl c_2) rfl (ec en_19 rfl rfl) (merge_Lets_walk (fr := (Ow.box b_1 27 (e_api_Addr a).toArray :: Ow.box b_2 24 #[.bool r_0_1, vr_1_1] :: Ow.own 27 17 e_api_Addr vr_1_1 r_1_1 :: Ow.own 24 2 e_api_Filter vr_2 r_3 :: fr)) r_0_2 r_1_2 a vr_1_2 hS hL_4 hM) ?_
      rintro _ h_9 ⟨F_7, r_4, rfl, hk, hS, _, hM⟩
      replace hK := hK.trans hk
      replace hN_l := hN_l.kp hk
      replace hL_l := hL_l.kp hk
      replace hL_1 := hL_1.kp hk
      replace hL_3 := hL_3.kp hk
      replace hL_4 := hL_4.kp hk
      refine HA.val (k := 9) (v := .bool r_4) rfl rfl (by kernel_rfl) (by kernel_rfl) (want_none) rfl (fun _ ⟨c306, c309⟩ => q_pickK false rfl c_2 rfl) ?_
      refine HA.val (k := 10) (v := .bool r_4) rfl rfl (by kernel_rfl) (by kernel_rfl) (want_none) rfl (fun _ ⟨c306, c309⟩ => q_assign rfl) ?_
      refine HA.nil ⟨⟨(hS.box 0 rfl), (hS.own 3 rfl)⟩, (Go.Wk.at_nil _ _)⟩ (by kernel_rfl) (blockQ_normal (thenQ_normal (?_)))
      refine HW.region ?_
      refine HO.val (v := .int .i64 i_1) (want_none) rfl (q_move rfl) ?_
      obtain ⟨ho_3, hM⟩ := hM
      refine HO.val (v := .int .i64 (i_1 + 1)) (want_none) rfl (q_addN _ rfl rfl rfl ho_3.1 ho_3.2) ?_
      refine HO.val (v := .int .i64 (i_1 + 1)) (want_none) rfl (q_assign rfl) ?_
      refine HO.nil (thenQ_normal (?_))
      rw [hKe_1] at hM
      exact ⟨(r_4, i_1 + 1), ⟨F_7, rfl, rfl, rfl, rfl, rfl, rfl, hK, hS, hN_l, hL_l, hL_1, hL_3, hM.1⟩, hM.2⟩
  · replace hM := hM.2 (of_decide_eq_false c_1)
    refine HW.exit (thenQ_exit (thenQ_exit (blockQ_exit (thenQ_normal (?_)))))
    refine HW.seq ?_
    refine HW.regionA 19 mixed (fun h => (Blk h b_1 (.cells (e_api_Addr a).toArray 27 (0, 0))) ∧ (Blk h b_2 (.cells #[.bool r_0_1, vr_1_1] 24 (0, 0)))) [] (by kernel_rfl) ?_
    refine HA.val (k := 0) (v := .agg #[.bool r_0_1, vr_1_1]) rfl rfl (by kernel_rfl) (by kernel_rfl) (want_none) rfl (fun _ ⟨c306, c307⟩ => q_loadAgg (cs := [.bool r_0_1, vr_1_1]) ta_24 rfl rfl (Blk.cells (k := 2) c307 rfl)) ?_
    refine HA.val (k := 1) (v := vr_2) rfl rfl (by kernel_rfl) (by kernel_rfl) (want_none) rfl (fun _ ⟨c306, c307⟩ => q_move rfl) ?_
    refine HA.one (k := 2) ⟨⟨(hS.box 0 rfl), (hS.box 1 rfl)⟩, (Go.Wk.at_nil _ _)⟩ (by kernel_rfl) ?_
    replace hS : St F_5 (Ow.own 24 2 e_api_Filter vr_2 r_3 :: Ow.box b_1 27 (e_api_Addr a).toArray :: Ow.box b_2 24 #[.bool r_0_1, vr_1_1] :: Ow.own 27 17 e_api_Addr vr_1_1 r_1_1 :: fr) h_7 := hS.perm2 [3, 0, 1, 2] 4 rfl rfl
    have hZ_2 := hS
    have hkz_2 := (hS.freeze).2
    replace hS := hS.freeze.1
    have hL_5 : SliceF (fun b => F_5 b ∨ (Ow.own 24 2 e_api_Filter vr_2 r_3).foot b) h_7 2 e_api_Filter vr_2 r_3 := ⟨(hZ_2.own 0 rfl).slice, fun _ b hb => .inr hb⟩
    refine HS.call rfl (want_none) rfl (ec en_21 rfl rfl) (ref19_All_walk (fr := (Ow.box b_1 27 (e_api_Addr a).toArray :: Ow.box b_2 24 #[.bool r_0_1, vr_1_1] :: Ow.own 27 17 e_api_Addr vr_1_1 r_1_1 :: fr)) r_3 vr_2 hS (NfL.kp hL_3 hkz_2) hL_5 hM) ?_
    rintro _ h_10 ⟨F_8, r_0_3, r_1_3, vr_1_3, rfl, hk, hS, _, _, hM⟩
    obtain ⟨hS, hk⟩ := hZ_2.back hk hS
    generalize (fun b => F_8 b ∧ ¬ (Ow.own 24 2 e_api_Filter vr_2 r_3).foot b) = F_9 at hS hk
    replace hK := hK.trans hk
    replace hN_l := hN_l.kp hk
    replace hL_l := hL_l.kp hk
    replace hL_1 := hL_1.kp hk
    replace hL_3 := hL_3.kp hk
    refine HA.one (k := 3) ⟨⟨(hS.box 2 rfl), (hS.box 3 rfl)⟩, (Go.Wk.at_nil _ _)⟩ (by kernel_rfl) ?_
    replace hS : St F_9 (Ow.own 27 17 e_api_Addr vr_1_1 r_1_1 :: Ow.own 24 2 e_api_Filter vr_2 r_3 :: Ow.own 27 17 e_api_Addr vr_1_3 r_1_3 :: Ow.box b_1 27 (e_api_Addr a).toArray :: Ow.box b_2 24 #[.bool r_0_1, vr_1_1] :: fr) h_10 := hS.perm2 [4, 0, 1, 2, 3] 5 rfl rfl
    have hZ_3 := hS
    have hkz_3 := (hS.freeze).2
    replace hS := hS.freeze.1
    have hL_6 : SliceF (fun b => F_9 b ∨ (Ow.own 27 17 e_api_Addr vr_1_1 r_1_1).foot b) h_10 17 e_api_Addr vr_1_1 r_1_1 := ⟨(hZ_3.own 0 rfl).slice, fun _ b hb => .inr hb⟩
    replace hS : St (fun b => F_9 b ∨ (Ow.own 27 17 e_api_Addr vr_1_1 r_1_1).foot b) (Ow.own 27 17 e_api_Addr vr_1_3 r_1_3 :: Ow.own 24 2 e_api_Filter vr_2 r_3 :: Ow.box b_1 27 (e_api_Addr a).toArray :: Ow.box b_2 24 #[.bool r_0_1, vr_1_1] :: fr) h_10 := hS.perm2 [1, 0, 2, 3] 4 rfl rfl
    have hZ_4 := hS
    have hkz_4 := (hS.freeze).2
    replace hS := hS.freeze.1
    have hL_7 : SliceF (fun b => (fun b => F_9 b ∨ (Ow.own 27 17 e_api_Addr vr_1_1 r_1_1).foot b) b ∨ (Ow.own 27 17 e_api_Addr vr_1_3 r_1_3).foot b) h_10 17 e_api_Addr vr_1_3 r_1_3 := ⟨(hZ_4.own 0 rfl).slice, fun _ b hb => .inr hb⟩
    refine HS.call rfl (want_none) rfl (ec en_20 rfl rfl) (ref19_Same_walk (fr := (Ow.own 24 2 e_api_Filter vr_2 r_3 :: Ow.box b_1 27 (e_api_Addr a).toArray :: Ow.box b_2 24 #[.bool r_0_1, vr_1_1] :: fr)) r_0_1 r_1_1 r_0_3 r_1_3 vr_1_1 vr_1_3 hS (hL_6.kp hkz_4) hL_7 hM) ?_
    rintro _ h_11 ⟨F_10, r_5, rfl, hk, hS, _, _, hM⟩
    obtain ⟨hS, hk⟩ := hZ_4.back hk hS
    obtain ⟨hS, hk⟩ := hZ_3.back hk hS
    generalize (fun b => (fun b => F_10 b ∧ ¬ (Ow.own 27 17 e_api_Addr vr_1_3 r_1_3).foot b) b ∧ ¬ (Ow.own 27 17 e_api_Addr vr_1_1 r_1_1).foot b) = F_11 at hS hk
    replace hK := hK.trans hk
    replace hN_l := hN_l.kp hk
    replace hL_l := hL_l.kp hk
    replace hL_1 := hL_1.kp hk
    replace hL_3 := hL_3.kp hk
    refine HA.val (k := 4) (v := .bool r_5) rfl rfl (by kernel_rfl) (by kernel_rfl) (want_none) rfl (fun _ ⟨c306, c307⟩ => q_move rfl) ?_
    rcases Bool.eq_false_or_eq_true r_5 with c_3 | c_3
    · replace hM := hM.1 c_3
      refine HA.val (k := 5) (v := .agg #[.bool r_0_1, vr_1_1]) rfl rfl (by kernel_rfl) (by kernel_rfl) (want_by rfl rfl c_3) rfl (fun _ ⟨c306, c307⟩ => q_loadAgg (cs := [.bool r_0_1, vr_1_1]) ta_24 rfl rfl (Blk.cells (k := 2) c307 rfl)) ?_
      refine HA.val (k := 6) (v := .agg (e_api_Addr a).toArray) rfl rfl (by kernel_rfl) (by kernel_rfl) (want_by rfl rfl c_3) rfl (fun _ ⟨c306, c307⟩ => q_loadAgg (cs := (e_api_Addr a)) ta_27 rfl rfl (Blk.cells (k := 17) c306 rfl)) ?_
      refine HA.val (k := 8) (v := .bool some_1) rfl rfl (by kernel_rfl) (by kernel_rfl) (want_by rfl rfl c_3) rfl (fun _ ⟨c306, c307⟩ => q_move rfl) ?_
      refine HA.one (k := 7) ⟨⟨(hS.box 3 rfl), (hS.box 4 rfl)⟩, (Go.Wk.at_nil _ _)⟩ (by kernel_rfl) ?_
      have hZ_5 := hS
      have hkz_5 := (hS.freeze).2
      replace hS := hS.freeze.1
      have hL_8 : SliceF (fun b => F_11 b ∨ (Ow.own 27 17 e_api_Addr vr_1_1 r_1_1).foot b) h_11 17 e_api_Addr vr_1_1 r_1_1 := ⟨(hZ_5.own 0 rfl).slice, fun _ b hb => .inr hb⟩
      refine HS.call rfl (want_by rfl rfl c_3) rfl (ec en_19 rfl rfl) (merge_Lets_walk (fr := (Ow.own 27 17 e_api_Addr vr_1_3 r_1_3 :: Ow.own 24 2 e_api_Filter vr_2 r_3 :: Ow.box b_1 27 (e_api_Addr a).toArray :: Ow.box b_2 24 #[.bool r_0_1, vr_1_1] :: fr)) r_0_1 r_1_1 a vr_1_1 hS hL_8 hM) ?_
      rintro _ h_12 ⟨F_12, r_6, rfl, hk, hS, _, hM⟩
      obtain ⟨hS, hk⟩ := hZ_5.back hk hS
      generalize (fun b => F_12 b ∧ ¬ (Ow.own 27 17 e_api_Addr vr_1_1 r_1_1).foot b) = F_13 at hS hk
      replace hK := hK.trans hk
      replace hN_l := hN_l.kp hk
      replace hL_l := hL_l.kp hk
      replace hL_1 := hL_1.kp hk
      replace hL_3 := hL_3.kp hk
      refine HA.val (k := 9) (v := .bool (r_6 == some_1)) rfl rfl (by kernel_rfl) (by kernel_rfl) (want_by rfl rfl c_3) rfl (fun _ ⟨c306, c307⟩ => q_eqlB Tryd.underlying4 rfl rfl) ?_
      refine HA.val (k := 10) (v := .bool (r_6 == some_1)) rfl rfl (by kernel_rfl) (by kernel_rfl) (want_none) rfl (fun _ ⟨c306, c307⟩ => q_pickK true rfl c_3 rfl) ?_
      refine HA.val (k := 11) (v := .bool (r_6 == some_1)) rfl rfl (by kernel_rfl) (by kernel_rfl) (want_none) rfl (fun _ ⟨c306, c307⟩ => q_move rfl) ?_
      rcases Bool.eq_false_or_eq_true (r_6 == some_1) with c_4 | c_4
      · replace hM := hM.1 c_4
        refine HA.val (k := 12) (v := .agg #[.bool r_0_1, vr_1_1]) rfl rfl (by kernel_rfl) (by kernel_rfl) (want_by rfl rfl c_4) rfl (fun _ ⟨c306, c307⟩ => q_loadAgg (cs := [.bool r_0_1, vr_1_1]) ta_24 rfl rfl (Blk.cells (k := 2) c307 rfl)) ?_
        refine HA.one (k := 13) ⟨⟨(hS.box 3 rfl), (hS.box 4 rfl)⟩, (Go.Wk.at_nil _ _)⟩ (by kernel_rfl) ?_
        have hZ_6 := hS
        have hkz_6 := (hS.freeze).2
        replace hS := hS.freeze.1
        have hL_9 : SliceF (fun b => F_13 b ∨ (Ow.own 27 17 e_api_Addr vr_1_1 r_1_1).foot b) h_12 17 e_api_Addr vr_1_1 r_1_1 := ⟨(hZ_6.own 0 rfl).slice, fun _ b hb => .inr hb⟩
        refine HS.call rfl (want_by rfl rfl c_4) rfl (ec en_22 rfl rfl) (merge_Good_walk (fr := (Ow.own 27 17 e_api_Addr vr_1_3 r_1_3 :: Ow.own 24 2 e_api_Filter vr_2 r_3 :: Ow.box b_1 27 (e_api_Addr a).toArray :: Ow.box b_2 24 #[.bool r_0_1, vr_1_1] :: fr)) r_0_1 r_1_1 vr_1_1 hS hL_9 hM) ?_
        rintro _ h_13 ⟨F_14, r_7, rfl, hk, hS, _, hM⟩
        obtain ⟨hS, hk⟩ := hZ_6.back hk hS
        generalize (fun b => F_14 b ∧ ¬ (Ow.own 27 17 e_api_Addr vr_1_1 r_1_1).foot b) = F_15 at hS hk
        replace hK := hK.trans hk
        replace hN_l := hN_l.kp hk
        replace hL_l := hL_l.kp hk
        replace hL_1 := hL_1.kp hk
        replace hL_3 := hL_3.kp hk
        refine HA.val (k := 14) (v := .bool r_7) rfl rfl (by kernel_rfl) (by kernel_rfl) (want_none) rfl (fun _ ⟨c306, c307⟩ => q_pickK true rfl c_4 rfl) ?_
        refine HA.val (k := 15) (v := .bool r_7) rfl rfl (by kernel_rfl) (by kernel_rfl) (want_none) rfl (fun _ ⟨c306, c307⟩ => q_move rfl) ?_
        rcases Bool.eq_false_or_eq_true r_7 with c_5 | c_5
        · replace hM := hM.1 c_5
          refine HA.one (k := 16) ⟨⟨(hS.box 3 rfl), (hS.box 4 rfl)⟩, (Go.Wk.at_nil _ _)⟩ (by kernel_rfl) ?_
          refine HS.call rfl (want_by rfl rfl c_5) rfl (ec en_16 rfl rfl) (law19_lives_walk (fr := (Ow.own 27 17 e_api_Addr vr_1_1 r_1_1 :: Ow.own 27 17 e_api_Addr vr_1_3 r_1_3 :: Ow.own 24 2 e_api_Filter vr_2 r_3 :: Ow.box b_1 27 (e_api_Addr a).toArray :: Ow.box b_2 24 #[.bool r_0_1, vr_1_1] :: fr))  hS hD hM) ?_
          rintro _ h_14 ⟨F_16, r_8, rfl, hk, hS, hM⟩
          replace hK := hK.trans hk
          replace hN_l := hN_l.kp hk
          replace hL_l := hL_l.kp hk
          replace hL_1 := hL_1.kp hk
          replace hL_3 := hL_3.kp hk
          refine HA.val (k := 17) (v := .bool r_8) rfl rfl (by kernel_rfl) (by kernel_rfl) (want_none) rfl (fun _ ⟨c306, c307⟩ => q_pickK true rfl c_5 rfl) ?_
          refine HA.val (k := 18) (v := .bool r_8) rfl rfl (by kernel_rfl) (by kernel_rfl) (want_none) rfl (fun _ ⟨c306, c307⟩ => q_assign rfl) ?_
          refine HA.nil ⟨⟨(hS.box 3 rfl), (hS.box 4 rfl)⟩, (Go.Wk.at_nil _ _)⟩ (by kernel_rfl) (thenQ_normal (?_))
          refine HW.ret (?_)
          refine ⟨.inr rfl, .bool r_8, res1 rfl (rt rfl), ?_⟩
          replace hS : St F_16 (fr) h_14 := hS.perm2 [] 5 rfl rfl
          exact ⟨F_16, r_8, rfl, hK, hS, hN_l, hL_l, hM⟩
        · replace hM := hM.2 c_5
          refine HA.one (k := 16) ⟨⟨(hS.box 3 rfl), (hS.box 4 rfl)⟩, (Go.Wk.at_nil _ _)⟩ (by kernel_rfl) ?_
          refine HS.past rfl (past_by rfl rfl c_5) rfl ?_
          refine HA.val (k := 17) (v := .bool false) rfl rfl (by kernel_rfl) (by kernel_rfl) (want_none) rfl (fun _ ⟨c306, c307⟩ => q_pickK false rfl c_5 rfl) ?_
          refine HA.val (k := 18) (v := .bool false) rfl rfl (by kernel_rfl) (by kernel_rfl) (want_none) rfl (fun _ ⟨c306, c307⟩ => q_assign rfl) ?_
          refine HA.nil ⟨⟨(hS.box 3 rfl), (hS.box 4 rfl)⟩, (Go.Wk.at_nil _ _)⟩ (by kernel_rfl) (thenQ_normal (?_))
          refine HW.ret (?_)
          refine ⟨.inr rfl, .bool false, res1 rfl (rt rfl), ?_⟩
          replace hS : St F_15 (fr) h_13 := hS.perm2 [] 5 rfl rfl
          exact ⟨F_15, false, rfl, hK, hS, hN_l, hL_l, hM⟩
      · replace hM := hM.2 c_4
        refine HA.past (k := 12) rfl rfl (by kernel_rfl) (by kernel_rfl) (past_by rfl rfl c_4) rfl ?_
        refine HA.one (k := 13) ⟨⟨(hS.box 3 rfl), (hS.box 4 rfl)⟩, (Go.Wk.at_nil _ _)⟩ (by kernel_rfl) ?_
        refine HS.past rfl (past_by rfl rfl c_4) rfl ?_
        refine HA.val (k := 14) (v := .bool false) rfl rfl (by kernel_rfl) (by kernel_rfl) (want_none) rfl (fun _ ⟨c306, c307⟩ => q_pickK false rfl c_4 rfl) ?_
        refine HA.val (k := 15) (v := .bool false) rfl rfl (by kernel_rfl) (by kernel_rfl) (want_none) rfl (fun _ ⟨c306, c307⟩ => q_move rfl) ?_
        refine HA.one (k := 16) ⟨⟨(hS.box 3 rfl), (hS.box 4 rfl)⟩, (Go.Wk.at_nil _ _)⟩ (by kernel_rfl) ?_
        refine HS.past rfl (past_some rfl rfl) rfl ?_
        refine HA.val (k := 17) (v := .bool false) rfl rfl (by kernel_rfl) (by kernel_rfl) (want_none) rfl (fun _ ⟨c306, c307⟩ => q_pick rfl rfl) ?_
        refine HA.val (k := 18) (v := .bool false) rfl rfl (by kernel_rfl) (by kernel_rfl) (want_none) rfl (fun _ ⟨c306, c307⟩ => q_assign rfl) ?_
        refine HA.nil ⟨⟨(hS.box 3 rfl), (hS.box 4 rfl)⟩, (Go.Wk.at_nil _ _)⟩ (by kernel_rfl) (thenQ_normal (?_))
        refine HW.ret (?_)
        refine ⟨.inr rfl, .bool false, res1 rfl (rt rfl), ?_⟩
        replace hS : St F_13 (fr) h_12 := hS.perm2 [] 5 rfl rfl
        exact ⟨F_13, false, rfl, hK, hS, hN_l, hL_l, hM⟩
    · replace hM := hM.2 c_3
      refine HA.past (k := 5) rfl rfl (by kernel_rfl) (by kernel_rfl) (past_by rfl rfl c_3) rfl ?_
      refine HA.past (k := 6) rfl rfl (by kernel_rfl) (by kernel_rfl) (past_by rfl rfl c_3) rfl ?_
      refine HA.past (k := 8) rfl rfl (by kernel_rfl) (by kernel_rfl) (past_by rfl rfl c_3) rfl ?_
      refine HA.one (k := 7) ⟨⟨(hS.box 3 rfl), (hS.box 4 rfl)⟩, (Go.Wk.at_nil _ _)⟩ (by kernel_rfl) ?_
      refine HS.past rfl (past_by rfl rfl c_3) rfl ?_
      refine HA.past (k := 9) rfl rfl (by kernel_rfl) (by kernel_rfl) (past_by rfl rfl c_3) rfl ?_
      refine HA.val (k := 10) (v := .bool false) rfl rfl (by kernel_rfl) (by kernel_rfl) (want_none) rfl (fun _ ⟨c306, c307⟩ => q_pickK false rfl c_3 rfl) ?_
      refine HA.val (k := 11) (v := .bool false) rfl rfl (by kernel_rfl) (by kernel_rfl) (want_none) rfl (fun _ ⟨c306, c307⟩ => q_move rfl) ?_
      refine HA.past (k := 12) rfl rfl (by kernel_rfl) (by kernel_rfl) (past_some rfl rfl) rfl ?_
      refine HA.one (k := 13) ⟨⟨(hS.box 3 rfl), (hS.box 4 rfl)⟩, (Go.Wk.at_nil _ _)⟩ (by kernel_rfl) ?_
      refine HS.past rfl (past_some rfl rfl) rfl ?_
      refine HA.val (k := 14) (v := .bool false) rfl rfl (by kernel_rfl) (by kernel_rfl) (want_none) rfl (fun _ ⟨c306, c307⟩ => q_pick rfl rfl) ?_
      refine HA.val (k := 15) (v := .bool false) rfl rfl (by kernel_rfl) (by kernel_rfl) (want_none) rfl (fun _ ⟨c306, c307⟩ => q_move rfl) ?_
      refine HA.one (k := 16) ⟨⟨(hS.box 3 rfl), (hS.box 4 rfl)⟩, (Go.Wk.at_nil _ _)⟩ (by kernel_rfl) ?_
      refine HS.past rfl (past_some rfl rfl) rfl ?_
      refine HA.val (k := 17) (v := .bool false) rfl rfl (by kernel_rfl) (by kernel_rfl) (want_none) rfl (fun _ ⟨c306, c307⟩ => q_pick rfl rfl) ?_
      refine HA.val (k := 18) (v := .bool false) rfl rfl (by kernel_rfl) (by kernel_rfl) (want_none) rfl (fun _ ⟨c306, c307⟩ => q_assign rfl) ?_
      refine HA.nil ⟨⟨(hS.box 3 rfl), (hS.box 4 rfl)⟩, (Go.Wk.at_nil _ _)⟩ (by kernel_rfl) (thenQ_normal (?_))
      refine HW.ret (?_)
      refine ⟨.inr rfl, .bool false, res1 rfl (rt rfl), ?_⟩
      replace hS : St F_11 (fr) h_11 := hS.perm2 [] 5 rfl rfl
      exact ⟨F_11, false, rfl, hK, hS, hN_l, hL_l, hM⟩

def ref11_Pick_l1 (a : List T_api_Addr) (b : List T_api_Addr) (in1 : Bool) (Q : (List T_api_Addr) → Prop) (K_1 : (List T_api_Addr) → Int → Prop) (out_1 : List T_api_Addr) (i_1 : Int) : Prop :=
  (i_1 < (a.length : Int) → ((0 : Int) ≤ i_1 ∧ i_1 < (a.length : Int)) ∧ (ref11_Has_W b (gi a i_1) (fun r_2 => ((r_2 == in1) = true → ((out_1.length + ([(gi a i_1)] : List T_api_Addr).length) * 17 ≤ 140737488355328) ∧ ((I64 (i_1 + 1)) ∧ (K_1 (out_1 ++ ([(gi a i_1)] : List T_api_Addr)) (i_1 + 1)))) ∧ ((r_2 == in1) = false → (I64 (i_1 + 1)) ∧ (K_1 out_1 (i_1 + 1)))))) ∧ (¬ (i_1 < (a.length : Int)) → Q out_1)
def ref11_Pick_W (a : List T_api_Addr) (b : List T_api_Addr) (in1 : Bool) (Q : (List T_api_Addr) → Prop) : Prop :=
  loopW (fun (K_1 : (List T_api_Addr × Int) → Prop) (s : List T_api_Addr × Int) => ref11_Pick_l1 a b in1 Q (fun out_1 i_1 => K_1 (out_1, i_1)) s.1 s.2) ([], 0)
set_option maxHeartbeats 40000000 in
set_option maxRecDepth 100000 in
theorem ref11_Pick_walk {F : Fz} {fr : List Ow} {h0 : Heap} (a : List T_api_Addr) (b : List T_api_Addr) (in1 : Bool) (va : Value) (vb : Value) (hS : St F (fr) h0) (hL_a : SliceF F h0 17 e_api_Addr va a) (hL_b : SliceF F h0 17 e_api_Addr vb b) {Q : (List T_api_Addr) → Prop} (hM : ref11_Pick_W a b in1 Q) :
    HC Tryd.prog 43 #[va, vb, .bool in1] h0 fun u h' => ∃ (F' : Fz) (r_1 : List T_api_Addr) (vr_1 : Value), u = vr_1 ∧ Kp F h0 F' h' ∧ St F' (Ow.own 27 17 e_api_Addr vr_1 r_1 :: fr) h' ∧ (SliceF F' h' 17 e_api_Addr va a) ∧ (SliceF F' h' 17 e_api_Addr vb b) ∧ Q r_1 := by
  unfold ref11_Pick_W at hM
  have hK := Kp.refl F h0
  refine HC.of_HW (n := 32) Tryd.func43 rfl rfl (Nat.le_of_ble_eq_true rfl) ?_
  refine HW.seq ?_
  refine HW.region ?_
  refine HO.val (v := .slice none 0 0) (want_none) rfl (q_assign rfl) ?_
  refine HO.nil (thenQ_normal (?_))
  refine HW.seq ?_
  refine HW.region ?_
  refine HO.eff (want_none) rfl (st_litEmpty (α := T_api_Addr) e_api_Addr hS tl_22) ?_
  rintro _ h_1 ⟨b_1, rfl, hS, hk⟩
  replace hK := hK.trans hk
  replace hL_a := hL_a.kp hk
  replace hL_b := hL_b.kp hk
  refine HO.val (v := .slice (some ⟨b_1, 0, none⟩) 0 0) (want_none) rfl (q_assign rfl) ?_
  refine HO.nil (thenQ_normal (?_))
  refine HW.seq ?_
  refine HW.seq ?_
  refine HW.region ?_
  refine HO.val (v := .int .i64 0) (want_none) rfl (q_assign rfl) ?_
  refine HO.nil (thenQ_normal (?_))
  refine HW.block ?_
  obtain ⟨I_1, m_1, hI_1, hR_1⟩ := hM
  refine HW.loop (S := List T_api_Addr × Int) (fun s f h => match s with | (out_1, i_1) => ∃ (F' : Fz) (vout_1 : Value), f 0 = va ∧ f 1 = vb ∧ f 2 = .bool in1 ∧ f 6 = .slice none 0 0 ∧ f 7 = vout_1 ∧ f 8 = .int .i64 i_1 ∧ Kp F h0 F' h ∧ St F' (Ow.own 27 17 e_api_Addr vout_1 out_1 :: fr) h ∧ (SliceF F' h 17 e_api_Addr va a) ∧ (SliceF F' h 17 e_api_Addr vb b) ∧ I_1 (out_1, i_1)) m_1 ([], 0) ⟨F, .slice (some ⟨b_1, 0, none⟩) 0 0, rfl, rfl, rfl, rfl, rfl, rfl, hK, hS, hL_a, hL_b, hI_1⟩ ?_
  rintro ⟨out_1, i_1⟩ f_1 h_2 ⟨F_1, vout_1, e0, e1, e2, e6, e7, e8, hK, hS, hL_a, hL_b, hI0⟩
  obtain ⟨K_1, hKe_1⟩ : ∃ K : (List T_api_Addr) → Int → Prop, K = fun out_1' i_1' => I_1 (out_1', i_1') ∧ m_1 (out_1', i_1') < m_1 (out_1, i_1) := ⟨_, rfl⟩
  have hM : ref11_Pick_l1 a b in1 Q K_1 out_1 i_1 := by rw [hKe_1]; exact hR_1 (out_1, i_1) hI0
  unfold ref11_Pick_l1 at hM
  refine HW.fr [(0, va), (1, vb), (2, .bool in1), (6, .slice none 0 0), (7, vout_1), (8, .int .i64 i_1)] ⟨e0, e1, e2, e6, e7, e8, trivial⟩ ?_
  refine HW.seq ?_
  refine HW.seq ?_
  refine HW.region ?_
  refine HO.val (v := .int .i64 i_1) (want_none) rfl (q_move rfl) ?_
  refine HO.val (v := va) (want_none) rfl (q_move rfl) ?_
  refine HO.val (v := .int .i64 (a.length : Int)) (want_none) rfl (q_len ts_22 (shp hL_a.is) rfl rfl) ?_
  refine HO.val (v := .bool (decide (i_1 < (a.length : Int)))) (want_none) rfl (q_lss rfl rfl) ?_
  refine HO.nil (thenQ_normal (?_))
  refine HW.cond (decide (i_1 < (a.length : Int))) rfl (fun c_1 => ?_) (fun c_1 => ?_)
  · replace hM := hM.1 (of_decide_eq_true c_1)
    refine HW.skip (thenQ_normal (?_))
    refine HW.seq ?_
    refine HW.block ?_
    refine HW.seq ?_
    refine HW.region ?_
    refine HO.val (v := vb) (want_none) rfl (q_move rfl) ?_
    refine HO.val (v := va) (want_none) rfl (q_move rfl) ?_
    refine HO.val (v := .int .i64 i_1) (want_none) rfl (q_move rfl) ?_
    obtain ⟨ho_1, hM⟩ := hM
    refine HO.val (v := elemPtr 17 va (i_1).toNat) (want_none) rfl (q_idx ts_22 hL_a.is rfl rfl ho_1) ?_
    refine HO.val (v := .agg (e_api_Addr (gi a i_1)).toArray) (want_none) rfl (q_ldElemAgg (cs := (e_api_Addr (gi a i_1))) ta_27 hL_a.is rfl ho_1 rfl) ?_
    refine HO.call (want_none) rfl (ec en_38 rfl rfl) (ref11_Has_walk (fr := (Ow.own 27 17 e_api_Addr vout_1 out_1 :: fr)) b (gi a i_1) vb hS hL_b hM) ?_
    rintro _ h_3 ⟨F_2, r_2, rfl, hk, hS, _, hM⟩
    replace hK := hK.trans hk
    replace hL_a := hL_a.kp hk
    replace hL_b := hL_b.kp hk
    refine HO.val (v := .bool in1) (want_none) rfl (q_move rfl) ?_
    refine HO.val (v := .bool (r_2 == in1)) (want_none) rfl (q_eqlB Tryd.underlying4 rfl rfl) ?_
    refine HO.nil (thenQ_normal (?_))
    refine HW.cond (r_2 == in1) rfl (fun c_2 => ?_) (fun c_2 => ?_)
    · replace hM := hM.1 c_2
      refine HW.region ?_
      refine HO.val (v := vout_1) (want_none) rfl (q_move rfl) ?_
      refine HO.val (v := va) (want_none) rfl (q_move rfl) ?_
      refine HO.val (v := .int .i64 i_1) (want_none) rfl (q_move rfl) ?_
      refine HO.val (v := elemPtr 17 va (i_1).toNat) (want_none) rfl (q_idx ts_22 hL_a.is rfl rfl ho_1) ?_
      refine HO.val (v := .agg (e_api_Addr (gi a i_1)).toArray) (want_none) rfl (q_ldElemAgg (cs := (e_api_Addr (gi a i_1))) ta_27 hL_a.is rfl ho_1 rfl) ?_
      refine HO.eff (want_none) rfl (st_lit (enc := e_api_Addr) (cells := #[.bool ((gi a i_1).1), .int .u8 (b8 ((gi a i_1).2) 0), .int .u8 (b8 ((gi a i_1).2) 1), .int .u8 (b8 ((gi a i_1).2) 2), .int .u8 (b8 ((gi a i_1).2) 3), .int .u8 (b8 ((gi a i_1).2) 4), .int .u8 (b8 ((gi a i_1).2) 5), .int .u8 (b8 ((gi a i_1).2) 6), .int .u8 (b8 ((gi a i_1).2) 7), .int .u8 (b8 ((gi a i_1).2) 8), .int .u8 (b8 ((gi a i_1).2) 9), .int .u8 (b8 ((gi a i_1).2) 10), .int .u8 (b8 ((gi a i_1).2) 11), .int .u8 (b8 ((gi a i_1).2) 12), .int .u8 (b8 ((gi a i_1).2) 13), .int .u8 (b8 ((gi a i_1).2) 14), .int .u8 (b8 ((gi a i_1).2) 15)]) #[.bool false, .int .u8 0, .int .u8 0, .int .u8 0, .int .u8 0, .int .u8 0, .int .u8 0, .int .u8 0, .int .u8 0, .int .u8 0, .int .u8 0, .int .u8 0, .int .u8 0, .int .u8 0, .int .u8 0, .int .u8 0, .int .u8 0] ([(gi a i_1)] : List T_api_Addr) hS tl_22 (by decide) (by decide) (by kernel_rfl) (by kernel_rfl) rfl (by intro x hx; rfl) rfl) ?_
      rintro _ h_4 ⟨b_2, rfl, hS, hk⟩
      replace hK := hK.trans hk
      replace hL_a := hL_a.kp hk
      replace hL_b := hL_b.kp hk
      obtain ⟨ho_2, hM⟩ := hM
      refine HO.eff (want_none) rfl (st_append te_22 hS (i := 1) rfl (hS.own 0 rfl).slice rfl rfl rfl (by intro a _ u hu; simp [e_api_Addr, encI, encN, encB, encT] at hu; rcases hu with rfl | rfl | rfl | rfl | rfl | rfl | rfl | rfl | rfl | rfl | rfl | rfl | rfl | rfl | rfl | rfl | rfl <;> rfl) ho_2 (by omega)) ?_
      rintro v_1 h_5 ⟨hS, hk⟩
      replace hS : St F_2 (Ow.own 27 17 e_api_Addr (.slice (some ⟨b_2, 0, none⟩) 1 1) ([(gi a i_1)] : List T_api_Addr) :: Ow.own 27 17 e_api_Addr v_1 (out_1 ++ ([(gi a i_1)] : List T_api_Addr)) :: fr) h_5 := hS
      replace hK := hK.trans hk
      replace hL_a := hL_a.kp hk
      replace hL_b := hL_b.kp hk
      refine HO.val (v := v_1) (want_none) rfl (q_assign rfl) ?_
      refine HO.nil (blockQ_normal (thenQ_normal (?_)))
      refine HW.region ?_
      refine HO.val (v := .int .i64 i_1) (want_none) rfl (q_move rfl) ?_
      obtain ⟨ho_3, hM⟩ := hM
      refine HO.val (v := .int .i64 (i_1 + 1)) (want_none) rfl (q_addN _ rfl rfl rfl ho_3.1 ho_3.2) ?_
      refine HO.val (v := .int .i64 (i_1 + 1)) (want_none) rfl (q_assign rfl) ?_
      refine HO.nil (thenQ_normal (?_))
      replace hS : St F_2 (Ow.own 27 17 e_api_Addr v_1 (out_1 ++ ([(gi a i_1)] : List T_api_Addr)) :: fr) h_5 := hS.perm2 [1] 2 rfl rfl
      rw [hKe_1] at hM
      exact ⟨(out_1 ++ ([(gi a i_1)] : List T_api_Addr), i_1 + 1), ⟨F_2, v_1, rfl, rfl, rfl, rfl, rfl, rfl, hK, hS, hL_a, hL_b, hM.1⟩, hM.2⟩
    · replace hM := hM.2 c_2
      refine HW.skip (blockQ_normal (thenQ_normal (?_)))
      refine HW.region ?_
      refine HO.val (v := .int .i64 i_1) (want_none) rfl (q_move rfl) ?_
      obtain ⟨ho_4, hM⟩ := hM
      refine HO.val (v := .int .i64 (i_1 + 1)) (want_none) rfl (q_addN _ rfl rfl rfl ho_4.1 ho_4.2) ?_
      refine HO.val (v := .int .i64 (i_1 + 1)) (want_none) rfl (q_assign rfl) ?_
      refine HO.nil (thenQ_normal (?_))
      rw [hKe_1] at hM
      exact ⟨(out_1, i_1 + 1), ⟨F_2, vout_1, rfl, rfl, rfl, rfl, rfl, rfl, hK, hS, hL_a, hL_b, hM.1⟩, hM.2⟩
  · replace hM := hM.2 (of_decide_eq_false c_1)
    refine HW.exit (thenQ_exit (thenQ_exit (blockQ_exit (thenQ_normal (?_)))))
    refine HW.seq ?_
    refine HW.region ?_
    refine HO.val (v := vout_1) (want_none) rfl (q_move rfl) ?_
    refine HO.val (v := vout_1) (want_none) rfl (q_assign rfl) ?_
    refine HO.nil (thenQ_normal (?_))
    refine HW.ret (?_)
    refine ⟨.inr rfl, vout_1, res1 rfl (rt rfl), ?_⟩
    exact ⟨F_1, out_1, vout_1, rfl, hK, hS, hL_a, hL_b, hM⟩

def ref15_Own_j1 (s_Exclude : Bool) (s_Off : List T_api_Addr) (Q : Bool → (List T_api_Addr) → (List T_api_Addr) → Prop) (out_1_1 : List T_api_Addr) : Prop :=
  (s_Exclude = true → ref11_Of_W s_Off (fun r_2 => ref11_Pick_W r_2 out_1_1 false (fun r_3 => Q s_Exclude out_1_1 r_3))) ∧ (s_Exclude = false → Q s_Exclude out_1_1 [])
def ref15_Own_W (s_Exclude : Bool) (s_On : List T_api_Addr) (s_Off : List T_api_Addr) (Q : Bool → (List T_api_Addr) → (List T_api_Addr) → Prop) : Prop :=
  ref11_Of_W s_On (fun r_1 => ref15_Own_j1 s_Exclude s_Off Q r_1)
set_option maxHeartbeats 40000000 in
set_option maxRecDepth 100000 in
theorem ref15_Own_walk {F : Fz} {fr : List Ow} {h0 : Heap} (s_Exclude : Bool) (s_On : List T_api_Addr) (s_Off : List T_api_Addr) (vs_On : Value) (vs_Off : Value) (hS : St F (fr) h0) (hL_s_On : SliceF F h0 17 e_api_Addr vs_On s_On) (hL_s_Off : SliceF F h0 17 e_api_Addr vs_Off s_Off) {Q : Bool → (List T_api_Addr) → (List T_api_Addr) → Prop} (hM : ref15_Own_W s_Exclude s_On s_Off Q) :
    HC Tryd.prog 52 #[.agg #[.bool s_Exclude, vs_On, vs_Off]] h0 fun u h' => ∃ (F' : Fz) (r_0_1 : Bool) (r_1_1 : List T_api_Addr) (r_2_1 : List T_api_Addr) (vr_1_1 : Value) (vr_2_1 : Value), u = .agg #[.bool r_0_1, vr_1_1, vr_2_1] ∧ Kp F h0 F' h' ∧ St F' (Ow.own 27 17 e_api_Addr vr_2_1 r_2_1 :: fr) h' ∧ (SliceF F' h' 17 e_api_Addr vs_On s_On) ∧ (SliceF F' h' 17 e_api_Addr vs_Off s_Off) ∧ (SliceF F' h' 17 e_api_Addr vr_1_1 r_1_1) ∧ Q r_0_1 r_1_1 r_2_1 := by
  unfold ref15_Own_W at hM
  have hK := Kp.refl F h0
  refine HC.of_HW (n := 20) Tryd.func52 rfl rfl (Nat.le_of_ble_eq_true rfl) ?_
  refine HW.seq ?_
  refine HW.region ?_
  refine HO.eff (want_none) rfl (st_box (c := #[.bool s_Exclude, vs_On, vs_Off]) (k' := 3) hS rfl rfl) ?_
  rintro _ h_1 ⟨b_1, rfl, hS, hk⟩
  replace hK := hK.trans hk
  replace hL_s_On := hL_s_On.kp hk
  replace hL_s_Off := hL_s_Off.kp hk
  refine HO.eff (want_none) rfl (st_alloc (c := #[.bool false, .slice none 0 0, .slice none 0 0]) hS tz_35 rfl) ?_
  rintro _ h_2 ⟨b_2, rfl, hS, hk⟩
  replace hK := hK.trans hk
  replace hL_s_On := hL_s_On.kp hk
  replace hL_s_Off := hL_s_Off.kp hk
  refine HO.nil (thenQ_normal (?_))
  refine HW.seq_mid (fun f h => ∃ (F' : Fz) (out_1_1 : List T_api_Addr) (b_3 : Nat) (vout_1_1 : Value), f 1 = .pointer (some ⟨b_1, 0, none⟩) ∧ f 2 = .pointer (some ⟨b_2, 0, none⟩) ∧ f 3 = .pointer (some ⟨b_3, 0, none⟩) ∧ Kp F h0 F' h ∧ St F' (Ow.box b_1 35 #[.bool s_Exclude, vs_On, vs_Off] :: Ow.box b_2 35 #[.bool false, .slice none 0 0, .slice none 0 0] :: Ow.box b_3 35 #[.bool s_Exclude, vout_1_1, .slice none 0 0] :: fr) h ∧ (SliceF F' h 17 e_api_Addr vs_On s_On) ∧ (SliceF F' h 17 e_api_Addr vs_Off s_Off) ∧ (SliceF F' h 17 e_api_Addr vout_1_1 out_1_1) ∧ ref15_Own_j1 s_Exclude s_Off Q out_1_1) ?_ ?_
  · refine HW.regionA 8 mixed (fun h => (Blk h b_1 (.cells #[.bool s_Exclude, vs_On, vs_Off] 35 (0, 0)))) [] (by kernel_rfl) ?_
    refine HA.val (k := 0) (v := .pointer (some ⟨b_1, 0, none⟩)) rfl rfl (by kernel_rfl) (by kernel_rfl) (want_none) rfl (fun _ c202 => q_fieldAddr fa_35_0 rfl rfl) ?_
    refine HA.val (k := 1) (v := .bool s_Exclude) rfl rfl (by kernel_rfl) (by kernel_rfl) (want_none) rfl (fun _ c202 => q_load to_4 rfl (Blk.cell c202 rfl)) ?_
    refine HA.val (k := 2) (v := .pointer (some ⟨b_1, 1, none⟩)) rfl rfl (by kernel_rfl) (by kernel_rfl) (want_none) rfl (fun _ c202 => q_fieldAddr fa_35_1 rfl rfl) ?_
    refine HA.val (k := 3) (v := vs_On) rfl rfl (by kernel_rfl) (by kernel_rfl) (want_none) rfl (fun _ c202 => q_load to_22 rfl (Blk.cell c202 rfl)) ?_
    refine HA.two (k := 4) (k' := 6) ⟨(hS.box 1 rfl), (Go.Wk.at_nil _ _)⟩ (by kernel_rfl) ?_ ?_
    · refine HS.call rfl (want_none) rfl (ec en_28 rfl rfl) (ref11_Of_walk (fr := (Ow.box b_2 35 #[.bool false, .slice none 0 0, .slice none 0 0] :: Ow.box b_1 35 #[.bool s_Exclude, vs_On, vs_Off] :: fr)) s_On vs_On hS hL_s_On hM) ?_
      rintro vr_1 h_3 ⟨F_1, r_1, _, rfl, hk, hS, _, hL_3, hM⟩
      replace hK := hK.trans hk
      replace hL_s_On := hL_s_On.kp hk
      replace hL_s_Off := hL_s_Off.kp hk
      refine Go.Wk.HA.re (fun h => (SliceIs h 17 e_api_Addr vr_1 r_1) ∧ (Blk h b_1 (.cells #[.bool s_Exclude, vs_On, vs_Off] 35 (0, 0)))) [] (fun L_ h_ hL_ ⟨hL_3, c202⟩ hs_ => ⟨c202, (Go.Wk.at_nil _ _)⟩) ?_
      refine HA.val (k := 5) (v := .agg #[.bool s_Exclude, vr_1, .slice none 0 0]) rfl rfl (by kernel_rfl) (by kernel_rfl) (want_none) rfl (fun _ ⟨hL_3, c202⟩ => q_build tp_35 (fill_cons (cs' := #[.bool s_Exclude, .slice none 0 0, .slice none 0 0]) (vc := #[.bool s_Exclude]) rfl rfl rfl (Nat.le_of_ble_eq_true rfl) rfl (fill_cons (cs' := #[.bool s_Exclude, vr_1, .slice none 0 0]) (vc := #[vr_1]) rfl (shp hL_3).cells rfl (Nat.le_of_ble_eq_true rfl) rfl rfl))) ?_
      refine HA.one (k := 6) ⟨⟨hL_3.is, (hS.box 1 rfl)⟩, (Go.Wk.at_nil _ _)⟩ (by kernel_rfl) ?_
      refine HS.eff rfl (want_none) rfl (st_alloc (c := #[.bool false, .slice none 0 0, .slice none 0 0]) hS tz_35 rfl) ?_
      rintro _ h_4 ⟨b_4, rfl, hS, hk⟩
      replace hK := hK.trans hk
      replace hL_s_On := hL_s_On.kp hk
      replace hL_s_Off := hL_s_Off.kp hk
      replace hL_3 := hL_3.kp hk
      refine HA.one (k := 7) ⟨⟨hL_3.is, (hS.box 2 rfl)⟩, (Go.Wk.at_nil _ _)⟩ (by kernel_rfl) ?_
      refine HS.sto rfl (want_none) rfl (st_storeAgg (c' := #[.bool s_Exclude, vr_1, .slice none 0 0]) hS (i := 0) rfl ta_35 rfl rfl rfl (List.forall_mem_cons.2 ⟨rfl, (List.forall_mem_cons.2 ⟨(shp hL_3.is).one, (List.forall_mem_cons.2 ⟨rfl, (fun _ h => by cases h)⟩)⟩)⟩) (Nat.le_of_ble_eq_true rfl) rfl) ?_
      rintro h_5 ⟨hS, hk⟩
      replace hS : St F_1 (Ow.box b_4 35 #[.bool s_Exclude, vr_1, .slice none 0 0] :: Ow.box b_2 35 #[.bool false, .slice none 0 0, .slice none 0 0] :: Ow.box b_1 35 #[.bool s_Exclude, vs_On, vs_Off] :: fr) h_5 := hS
      replace hK := hK.trans hk
      replace hL_s_On := hL_s_On.kp hk
      replace hL_s_Off := hL_s_Off.kp hk
      replace hL_3 := hL_3.kp hk
      refine HA.nil ⟨⟨hL_3.is, (hS.box 2 rfl)⟩, (Go.Wk.at_nil _ _)⟩ (by kernel_rfl) (thenQ_normal (?_))
      replace hS : St F_1 (Ow.box b_1 35 #[.bool s_Exclude, vs_On, vs_Off] :: Ow.box b_2 35 #[.bool false, .slice none 0 0, .slice none 0 0] :: Ow.box b_4 35 #[.bool s_Exclude, vr_1, .slice none 0 0] :: fr) h_5 := hS.perm2 [2, 1, 0] 3 rfl rfl
      exact ⟨F_1, r_1, b_4, vr_1, rfl, rfl, rfl, hK, hS, hL_s_On, hL_s_Off, hL_3, hM⟩
    · refine HS.eff rfl (want_none) rfl (st_alloc (c := #[.bool false, .slice none 0 0, .slice none 0 0]) hS tz_35 rfl) ?_
      rintro _ h_3 ⟨b_4, rfl, hS, hk⟩
      replace hK := hK.trans hk
      replace hL_s_On := hL_s_On.kp hk
      replace hL_s_Off := hL_s_Off.kp hk
      refine HA.one (k := 4) ⟨(hS.box 2 rfl), (Go.Wk.at_nil _ _)⟩ (by kernel_rfl) ?_
      refine HS.call rfl (want_none) rfl (ec en_28 rfl rfl) (ref11_Of_walk (fr := (Ow.box b_4 35 #[.bool false, .slice none 0 0, .slice none 0 0] :: Ow.box b_2 35 #[.bool false, .slice none 0 0, .slice none 0 0] :: Ow.box b_1 35 #[.bool s_Exclude, vs_On, vs_Off] :: fr)) s_On vs_On hS hL_s_On hM) ?_
      rintro vr_1 h_4 ⟨F_1, r_1, _, rfl, hk, hS, _, hL_3, hM⟩
      replace hK := hK.trans hk
      replace hL_s_On := hL_s_On.kp hk
      replace hL_s_Off := hL_s_Off.kp hk
      refine Go.Wk.HA.re (fun h => (SliceIs h 17 e_api_Addr vr_1 r_1) ∧ (Blk h b_1 (.cells #[.bool s_Exclude, vs_On, vs_Off] 35 (0, 0)))) [] (fun L_ h_ hL_ ⟨hL_3, c202⟩ hs_ => ⟨c202, (Go.Wk.at_nil _ _)⟩) ?_
      refine HA.val (k := 5) (v := .agg #[.bool s_Exclude, vr_1, .slice none 0 0]) rfl rfl (by kernel_rfl) (by kernel_rfl) (want_none) rfl (fun _ ⟨hL_3, c202⟩ => q_build tp_35 (fill_cons (cs' := #[.bool s_Exclude, .slice none 0 0, .slice none 0 0]) (vc := #[.bool s_Exclude]) rfl rfl rfl (Nat.le_of_ble_eq_true rfl) rfl (fill_cons (cs' := #[.bool s_Exclude, vr_1, .slice none 0 0]) (vc := #[vr_1]) rfl (shp hL_3).cells rfl (Nat.le_of_ble_eq_true rfl) rfl rfl))) ?_
      refine HA.one (k := 7) ⟨⟨hL_3.is, (hS.box 2 rfl)⟩, (Go.Wk.at_nil _ _)⟩ (by kernel_rfl) ?_
      refine HS.sto rfl (want_none) rfl (st_storeAgg (c' := #[.bool s_Exclude, vr_1, .slice none 0 0]) hS (i := 0) rfl ta_35 rfl rfl rfl (List.forall_mem_cons.2 ⟨rfl, (List.forall_mem_cons.2 ⟨(shp hL_3.is).one, (List.forall_mem_cons.2 ⟨rfl, (fun _ h => by cases h)⟩)⟩)⟩) (Nat.le_of_ble_eq_true rfl) rfl) ?_
      rintro h_5 ⟨hS, hk⟩
      replace hS : St F_1 (Ow.box b_4 35 #[.bool s_Exclude, vr_1, .slice none 0 0] :: Ow.box b_2 35 #[.bool false, .slice none 0 0, .slice none 0 0] :: Ow.box b_1 35 #[.bool s_Exclude, vs_On, vs_Off] :: fr) h_5 := hS
      replace hK := hK.trans hk
      replace hL_s_On := hL_s_On.kp hk
      replace hL_s_Off := hL_s_Off.kp hk
      replace hL_3 := hL_3.kp hk
      refine HA.nil ⟨⟨hL_3.is, (hS.box 2 rfl)⟩, (Go.Wk.at_nil _ _)⟩ (by kernel_rfl) (thenQ_normal (?_))
      replace hS : St F_1 (Ow.box b_1 35 #[.bool s_Exclude, vs_On, vs_Off] :: Ow.box b_2 35 #[.bool false, .slice none 0 0, .slice none 0 0] :: Ow.box b_4 35 #[.bool s_Exclude, vr_1, .slice none 0 0] :: fr) h_5 := hS.perm2 [2, 1, 0] 3 rfl rfl
      exact ⟨F_1, r_1, b_4, vr_1, rfl, rfl, rfl, hK, hS, hL_s_On, hL_s_Off, hL_3, hM⟩
  · rintro f_1 h_6 ⟨F_2, out_1_1, b_3, vout_1_1, e1, e2, e3, hK, hS, hL_s_On, hL_s_Off, hL_2, hM⟩
    unfold ref15_Own_j1 at hM
    refine HW.fr [(1, .pointer (some ⟨b_1, 0, none⟩)), (2, .pointer (some ⟨b_2, 0, none⟩)), (3, .pointer (some ⟨b_3, 0, none⟩))] ⟨e1, e2, e3, trivial⟩ ?_
    refine HW.seq ?_
    refine HW.seq ?_
    refine HW.region ?_
    refine HO.val (v := .pointer (some ⟨b_1, 0, none⟩)) (want_none) rfl (q_fieldAddr fa_35_0 rfl rfl) ?_
    refine HO.val (v := .bool s_Exclude) (want_none) rfl (q_load to_4 rfl (Blk.cell (hS.box 0 rfl) rfl)) ?_
    refine HO.nil (thenQ_normal (?_))
    refine HW.cond s_Exclude rfl (fun c_1 => ?_) (fun c_1 => ?_)
    · replace hM := hM.1 c_1
      refine HW.regionA 8 mixed (fun h => (Blk h b_1 (.cells #[.bool s_Exclude, vs_On, vs_Off] 35 (0, 0)))) [(7, fun h => (Blk h b_3 (.cells #[.bool s_Exclude, vout_1_1, .slice none 0 0] 35 (0, 0))))] (by kernel_rfl) ?_
      refine HA.val (k := 0) (v := .pointer (some ⟨b_1, 2, none⟩)) rfl rfl (by kernel_rfl) (by kernel_rfl) (want_none) rfl (fun _ c204 => q_fieldAddr fa_35_2 rfl rfl) ?_
      refine HA.val (k := 1) (v := vs_Off) rfl rfl (by kernel_rfl) (by kernel_rfl) (want_none) rfl (fun _ c204 => q_load to_22 rfl (Blk.cell c204 rfl)) ?_
      refine HA.val (k := 3) (v := .pointer (some ⟨b_3, 1, none⟩)) rfl rfl (by kernel_rfl) (by kernel_rfl) (want_none) rfl (fun _ c204 => q_fieldAddr fa_35_1 rfl rfl) ?_
      refine Go.Wk.HA.valN (k := 4) (v := vout_1_1) 0 7 (fun h => (Blk h b_3 (.cells #[.bool s_Exclude, vout_1_1, .slice none 0 0] 35 (0, 0)))) rfl rfl (by kernel_rfl) (by kernel_rfl) (want_none) rfl rfl (by kernel_rfl) (fun _ c204 c206 => q_load to_22 rfl (Blk.cell c206 rfl)) ?_
      refine HA.one (k := 2) ⟨(hS.box 0 rfl), (at_now (hS.box 2 rfl) (Go.Wk.at_nil _ _))⟩ (by kernel_rfl) ?_
      refine HS.call rfl (want_none) rfl (ec en_28 rfl rfl) (ref11_Of_walk (fr := (Ow.box b_1 35 #[.bool s_Exclude, vs_On, vs_Off] :: Ow.box b_2 35 #[.bool false, .slice none 0 0, .slice none 0 0] :: Ow.box b_3 35 #[.bool s_Exclude, vout_1_1, .slice none 0 0] :: fr)) s_Off vs_Off hS hL_s_Off hM) ?_
      rintro vr_2 h_7 ⟨F_3, r_2, _, rfl, hk, hS, _, hL_4, hM⟩
      replace hK := hK.trans hk
      replace hL_s_On := hL_s_On.kp hk
      replace hL_s_Off := hL_s_Off.kp hk
      replace hL_2 := hL_2.kp hk
      refine HA.one (k := 5) ⟨(hS.box 0 rfl), (at_now (hS.box 2 rfl) (Go.Wk.at_nil _ _))⟩ (by kernel_rfl) ?_
      refine HS.call rfl (want_none) rfl (ec en_43 rfl rfl) (ref11_Pick_walk (fr := (Ow.box b_1 35 #[.bool s_Exclude, vs_On, vs_Off] :: Ow.box b_2 35 #[.bool false, .slice none 0 0, .slice none 0 0] :: Ow.box b_3 35 #[.bool s_Exclude, vout_1_1, .slice none 0 0] :: fr)) r_2 out_1_1 false vr_2 vout_1_1 hS hL_4 hL_2 hM) ?_
      rintro vr_3 h_8 ⟨F_4, r_3, _, rfl, hk, hS, _, _, hM⟩
      replace hK := hK.trans hk
      replace hL_s_On := hL_s_On.kp hk
      replace hL_s_Off := hL_s_Off.kp hk
      replace hL_2 := hL_2.kp hk
      replace hL_4 := hL_4.kp hk
      refine HA.val (k := 6) (v := .pointer (some ⟨b_3, 2, none⟩)) rfl rfl (by kernel_rfl) (by kernel_rfl) (want_none) rfl (fun _ c204 => q_fieldAddr fa_35_2 rfl rfl) ?_
      refine HA.one (k := 7) ⟨(hS.box 1 rfl), (at_now (hS.box 3 rfl) (Go.Wk.at_nil _ _))⟩ (by kernel_rfl) ?_
      refine HS.sto rfl (want_none) rfl (st_store (c' := #[.bool s_Exclude, vout_1_1, vr_3]) hS (i := 3) rfl to_22 rfl rfl (shp (hS.own 0 rfl).slice).cells (shp (hS.own 0 rfl).slice).one (Nat.le_of_ble_eq_true rfl) rfl) ?_
      rintro h_9 ⟨hS, hk⟩
      replace hS : St F_4 (Ow.own 27 17 e_api_Addr vr_3 r_3 :: Ow.box b_1 35 #[.bool s_Exclude, vs_On, vs_Off] :: Ow.box b_2 35 #[.bool false, .slice none 0 0, .slice none 0 0] :: Ow.box b_3 35 #[.bool s_Exclude, vout_1_1, vr_3] :: fr) h_9 := hS
      replace hK := hK.trans hk
      replace hL_s_On := hL_s_On.kp hk
      replace hL_s_Off := hL_s_Off.kp hk
      replace hL_2 := hL_2.kp hk
      replace hL_4 := hL_4.kp hk
      refine HA.nil ⟨(hS.box 1 rfl), (at_done (by kernel_rfl) (Go.Wk.at_nil _ _))⟩ (by kernel_rfl) (thenQ_normal (?_))
      refine HW.seq ?_
      refine HW.region ?_
      refine HO.val (v := .agg #[.bool s_Exclude, vout_1_1, vr_3]) (want_none) rfl (q_loadAgg (cs := [.bool s_Exclude, vout_1_1, vr_3]) ta_35 rfl rfl (Blk.cells (k := 3) (hS.box 3 rfl) rfl)) ?_
      refine HO.sto (want_none) rfl (st_storeAgg (c' := #[.bool s_Exclude, vout_1_1, vr_3]) hS (i := 2) rfl ta_35 rfl rfl rfl (List.forall_mem_cons.2 ⟨rfl, (List.forall_mem_cons.2 ⟨(shp hL_2.is).one, (List.forall_mem_cons.2 ⟨(shp (hS.own 0 rfl).slice).one, (fun _ h => by cases h)⟩)⟩)⟩) (Nat.le_of_ble_eq_true rfl) rfl) ?_
      rintro h_10 ⟨hS, hk⟩
      replace hS : St F_4 (Ow.own 27 17 e_api_Addr vr_3 r_3 :: Ow.box b_1 35 #[.bool s_Exclude, vs_On, vs_Off] :: Ow.box b_2 35 #[.bool s_Exclude, vout_1_1, vr_3] :: Ow.box b_3 35 #[.bool s_Exclude, vout_1_1, vr_3] :: fr) h_10 := hS
      replace hK := hK.trans hk
      replace hL_s_On := hL_s_On.kp hk
      replace hL_s_Off := hL_s_Off.kp hk
      replace hL_2 := hL_2.kp hk
      replace hL_4 := hL_4.kp hk
      refine HO.nil (thenQ_normal (?_))
      refine HW.ret (?_)
      refine ⟨.inr rfl, .agg #[.bool s_Exclude, vout_1_1, vr_3], res1 rfl (rca (cs := [.bool s_Exclude, vout_1_1, vr_3]) ta_35 rfl rfl (Blk.cells (k := 3) (hS.box 2 rfl) rfl)), ?_⟩
      replace hS : St F_4 (Ow.own 27 17 e_api_Addr vr_3 r_3 :: fr) h_10 := hS.perm2 [0] 4 rfl rfl
      exact ⟨F_4, s_Exclude, out_1_1, r_3, vout_1_1, vr_3, rfl, hK, hS, hL_s_On, hL_s_Off, hL_2, hM⟩
    · replace hM := hM.2 c_1
      refine HW.skip (thenQ_normal (?_))
      refine HW.seq ?_
      refine HW.region ?_
      refine HO.val (v := .agg #[.bool s_Exclude, vout_1_1, .slice none 0 0]) (want_none) rfl (q_loadAgg (cs := [.bool s_Exclude, vout_1_1, .slice none 0 0]) ta_35 rfl rfl (Blk.cells (k := 3) (hS.box 2 rfl) rfl)) ?_
      refine HO.sto (want_none) rfl (st_storeAgg (c' := #[.bool s_Exclude, vout_1_1, .slice none 0 0]) hS (i := 1) rfl ta_35 rfl rfl rfl (List.forall_mem_cons.2 ⟨rfl, (List.forall_mem_cons.2 ⟨(shp hL_2.is).one, (List.forall_mem_cons.2 ⟨rfl, (fun _ h => by cases h)⟩)⟩)⟩) (Nat.le_of_ble_eq_true rfl) rfl) ?_
      rintro h_11 ⟨hS, hk⟩
      replace hS : St F_2 (Ow.box b_1 35 #[.bool s_Exclude, vs_On, vs_Off] :: Ow.box b_2 35 #[.bool s_Exclude, vout_1_1, .slice none 0 0] :: Ow.box b_3 35 #[.bool s_Exclude, vout_1_1, .slice none 0 0] :: fr) h_11 := hS
      replace hK := hK.trans hk
      replace hL_s_On := hL_s_On.kp hk
      replace hL_s_Off := hL_s_Off.kp hk
      replace hL_2 := hL_2.kp hk
      refine HO.nil (thenQ_normal (?_))
      refine HW.ret (?_)
      refine ⟨.inr rfl, .agg #[.bool s_Exclude, vout_1_1, .slice none 0 0], res1 rfl (rca (cs := [.bool s_Exclude, vout_1_1, .slice none 0 0]) ta_35 rfl rfl (Blk.cells (k := 3) (hS.box 1 rfl) rfl)), ?_⟩
      replace hS := hS.nilOwn 27 17 e_api_Addr
      replace hS : St F_2 (Ow.own 27 17 e_api_Addr (.slice none 0 0) ([] : List T_api_Addr) :: fr) h_11 := hS.perm2 [0] 4 rfl rfl
      exact ⟨F_2, s_Exclude, out_1_1, [], vout_1_1, .slice none 0 0, rfl, hK, hS, hL_s_On, hL_s_Off, hL_2, hM⟩

def law15_Few_W (s_Exclude : Bool) (s_On : List T_api_Addr) (s_Off : List T_api_Addr) (Q : Bool → (List T_api_Addr) → (List T_api_Addr) → Prop) : Prop :=
  law08_Addrs_W s_On 6 (fun r_1 => law08_Addrs_W s_Off 6 (fun r_2 => ref15_Own_W s_Exclude r_1 r_2 (fun r_0_2 r_1_2 r_2_2 => Q r_0_2 r_1_2 r_2_2)))
set_option maxHeartbeats 40000000 in
set_option maxRecDepth 100000 in
theorem law15_Few_walk {F : Fz} {fr : List Ow} {h0 : Heap} (s_Exclude : Bool) (s_On : List T_api_Addr) (s_Off : List T_api_Addr) (vs_On : Value) (vs_Off : Value) (hS : St F (fr) h0) (hL_s_On : SliceF F h0 17 e_api_Addr vs_On s_On) (hL_s_Off : SliceF F h0 17 e_api_Addr vs_Off s_Off) {Q : Bool → (List T_api_Addr) → (List T_api_Addr) → Prop} (hM : law15_Few_W s_Exclude s_On s_Off Q) :
    HC Tryd.prog 23 #[.agg #[.bool s_Exclude, vs_On, vs_Off]] h0 fun u h' => ∃ (F' : Fz) (r_0_1 : Bool) (r_1_1 : List T_api_Addr) (r_2_1 : List T_api_Addr) (vr_1_1 : Value) (vr_2_1 : Value), u = .agg #[.bool r_0_1, vr_1_1, vr_2_1] ∧ Kp F h0 F' h' ∧ St F' (Ow.own 27 17 e_api_Addr vr_2_1 r_2_1 :: fr) h' ∧ (SliceF F' h' 17 e_api_Addr vs_On s_On) ∧ (SliceF F' h' 17 e_api_Addr vs_Off s_Off) ∧ (SliceF F' h' 17 e_api_Addr vr_1_1 r_1_1) ∧ Q r_0_1 r_1_1 r_2_1 := by
  unfold law15_Few_W at hM
  have hK := Kp.refl F h0
  refine HC.of_HW (n := 13) Tryd.func23 rfl rfl (Nat.le_of_ble_eq_true rfl) ?_
  refine HW.seq ?_
  refine HW.region ?_
  refine HO.eff (want_none) rfl (st_box (c := #[.bool s_Exclude, vs_On, vs_Off]) (k' := 3) hS rfl rfl) ?_
  rintro _ h_1 ⟨b_1, rfl, hS, hk⟩
  replace hK := hK.trans hk
  replace hL_s_On := hL_s_On.kp hk
  replace hL_s_Off := hL_s_Off.kp hk
  refine HO.eff (want_none) rfl (st_alloc (c := #[.bool false, .slice none 0 0, .slice none 0 0]) hS tz_35 rfl) ?_
  rintro _ h_2 ⟨b_2, rfl, hS, hk⟩
  replace hK := hK.trans hk
  replace hL_s_On := hL_s_On.kp hk
  replace hL_s_Off := hL_s_Off.kp hk
  refine HO.nil (thenQ_normal (?_))
  refine HW.seq ?_
  refine HW.regionA 11 mixed (fun h => (Blk h b_1 (.cells #[.bool s_Exclude, vs_On, vs_Off] 35 (0, 0)))) [] (by kernel_rfl) ?_
  refine HA.val (k := 0) (v := .pointer (some ⟨b_1, 0, none⟩)) rfl rfl (by kernel_rfl) (by kernel_rfl) (want_none) rfl (fun _ c202 => q_fieldAddr fa_35_0 rfl rfl) ?_
  refine HA.val (k := 1) (v := .bool s_Exclude) rfl rfl (by kernel_rfl) (by kernel_rfl) (want_none) rfl (fun _ c202 => q_load to_4 rfl (Blk.cell c202 rfl)) ?_
  refine HA.val (k := 2) (v := .pointer (some ⟨b_1, 1, none⟩)) rfl rfl (by kernel_rfl) (by kernel_rfl) (want_none) rfl (fun _ c202 => q_fieldAddr fa_35_1 rfl rfl) ?_
  refine HA.val (k := 3) (v := vs_On) rfl rfl (by kernel_rfl) (by kernel_rfl) (want_none) rfl (fun _ c202 => q_load to_22 rfl (Blk.cell c202 rfl)) ?_
  refine HA.val (k := 5) (v := .pointer (some ⟨b_1, 2, none⟩)) rfl rfl (by kernel_rfl) (by kernel_rfl) (want_none) rfl (fun _ c202 => q_fieldAddr fa_35_2 rfl rfl) ?_
  refine HA.val (k := 6) (v := vs_Off) rfl rfl (by kernel_rfl) (by kernel_rfl) (want_none) rfl (fun _ c202 => q_load to_22 rfl (Blk.cell c202 rfl)) ?_
  refine HA.one (k := 4) ⟨(hS.box 1 rfl), (Go.Wk.at_nil _ _)⟩ (by kernel_rfl) ?_
  refine HS.call rfl (want_none) rfl (ec en_25 rfl rfl) (law08_Addrs_walk (fr := (Ow.box b_2 35 #[.bool false, .slice none 0 0, .slice none 0 0] :: Ow.box b_1 35 #[.bool s_Exclude, vs_On, vs_Off] :: fr)) s_On 6 vs_On hS hL_s_On hM) ?_
  rintro vr_1 h_3 ⟨F_1, r_1, _, rfl, hk, hS, _, hM⟩
  replace hK := hK.trans hk
  replace hL_s_On := hL_s_On.kp hk
  replace hL_s_Off := hL_s_Off.kp hk
  refine Go.Wk.HA.re (fun h => (Blk h b_1 (.cells #[.bool s_Exclude, vs_On, vs_Off] 35 (0, 0)))) [(9, fun h => (OwnIs h 0 27 17 e_api_Addr vr_1 r_1))] (fun L_ h_ hL_ c202 hs_ => ⟨c202, (Go.Wk.at_nil _ _)⟩) ?_
  refine HA.one (k := 7) ⟨(hS.box 2 rfl), (at_now (hS.own 0 rfl) (Go.Wk.at_nil _ _))⟩ (by kernel_rfl) ?_
  refine HS.call rfl (want_none) rfl (ec en_25 rfl rfl) (law08_Addrs_walk (fr := (Ow.own 27 17 e_api_Addr vr_1 r_1 :: Ow.box b_2 35 #[.bool false, .slice none 0 0, .slice none 0 0] :: Ow.box b_1 35 #[.bool s_Exclude, vs_On, vs_Off] :: fr)) s_Off 6 vs_Off hS hL_s_Off hM) ?_
  rintro vr_2 h_4 ⟨F_2, r_2, _, rfl, hk, hS, _, hM⟩
  replace hK := hK.trans hk
  replace hL_s_On := hL_s_On.kp hk
  replace hL_s_Off := hL_s_Off.kp hk
  refine Go.Wk.HA.re (fun h => (Blk h b_1 (.cells #[.bool s_Exclude, vs_On, vs_Off] 35 (0, 0)))) [(9, fun h => (OwnIs h 0 27 17 e_api_Addr vr_2 r_2) ∧ (OwnIs h 0 27 17 e_api_Addr vr_1 r_1))] (fun L_ h_ hL_ c202 hs_ => ⟨c202, (at_keep 0 rfl hs_ (fun ⟨c246, c228⟩ => c228) (Go.Wk.at_nil _ _))⟩) ?_
  refine Go.Wk.HA.valN (k := 8) (v := .agg #[.bool s_Exclude, vr_1, vr_2]) 0 9 (fun h => (OwnIs h 0 27 17 e_api_Addr vr_2 r_2) ∧ (OwnIs h 0 27 17 e_api_Addr vr_1 r_1)) rfl rfl (by kernel_rfl) (by kernel_rfl) (want_none) rfl rfl (by kernel_rfl) (fun _ c202 ⟨c246, c228⟩ => q_build tp_35 (fill_cons (cs' := #[.bool s_Exclude, .slice none 0 0, .slice none 0 0]) (vc := #[.bool s_Exclude]) rfl rfl rfl (Nat.le_of_ble_eq_true rfl) rfl (fill_cons (cs' := #[.bool s_Exclude, vr_1, .slice none 0 0]) (vc := #[vr_1]) rfl (shp c228.slice).cells rfl (Nat.le_of_ble_eq_true rfl) rfl (fill_cons (cs' := #[.bool s_Exclude, vr_1, vr_2]) (vc := #[vr_2]) rfl (shp c246.slice).cells rfl (Nat.le_of_ble_eq_true rfl) rfl rfl)))) ?_
  refine HA.one (k := 9) ⟨(hS.box 3 rfl), (at_now ⟨(hS.own 0 rfl), (hS.own 1 rfl)⟩ (Go.Wk.at_nil _ _))⟩ (by kernel_rfl) ?_
  replace hS : St F_2 (Ow.own 27 17 e_api_Addr vr_1 r_1 :: Ow.own 27 17 e_api_Addr vr_2 r_2 :: Ow.box b_2 35 #[.bool false, .slice none 0 0, .slice none 0 0] :: Ow.box b_1 35 #[.bool s_Exclude, vs_On, vs_Off] :: fr) h_4 := hS.perm2 [1, 0, 2, 3] 4 rfl rfl
  obtain ⟨F_3, hS, hk, hL_2⟩ := hS.freezeOwn
  replace hK := hK.trans hk
  replace hL_s_On := hL_s_On.kp hk
  replace hL_s_Off := hL_s_Off.kp hk
  obtain ⟨F_4, hS, hk, hL_3⟩ := hS.freezeOwn
  replace hK := hK.trans hk
  replace hL_s_On := hL_s_On.kp hk
  replace hL_s_Off := hL_s_Off.kp hk
  replace hL_2 := hL_2.kp hk
  refine HS.call rfl (want_none) rfl (ec en_52 rfl rfl) (ref15_Own_walk (fr := (Ow.box b_2 35 #[.bool false, .slice none 0 0, .slice none 0 0] :: Ow.box b_1 35 #[.bool s_Exclude, vs_On, vs_Off] :: fr)) s_Exclude r_1 r_2 vr_1 vr_2 hS hL_2 hL_3 hM) ?_
  rintro _ h_5 ⟨F_5, r_0_2, r_1_2, r_2_2, vr_1_2, vr_2_2, rfl, hk, hS, _, _, hL_4, hM⟩
  replace hK := hK.trans hk
  replace hL_s_On := hL_s_On.kp hk
  replace hL_s_Off := hL_s_Off.kp hk
  replace hL_2 := hL_2.kp hk
  replace hL_3 := hL_3.kp hk
  refine HA.one (k := 10) ⟨(hS.box 2 rfl), (at_done (by kernel_rfl) (Go.Wk.at_nil _ _))⟩ (by kernel_rfl) ?_
  refine HS.sto rfl (want_none) rfl (st_storeAgg (c' := #[.bool r_0_2, vr_1_2, vr_2_2]) hS (i := 1) rfl ta_35 rfl rfl rfl (List.forall_mem_cons.2 ⟨rfl, (List.forall_mem_cons.2 ⟨(shp hL_4.is).one, (List.forall_mem_cons.2 ⟨(shp (hS.own 0 rfl).slice).one, (fun _ h => by cases h)⟩)⟩)⟩) (Nat.le_of_ble_eq_true rfl) rfl) ?_
  rintro h_6 ⟨hS, hk⟩
  replace hS : St F_5 (Ow.own 27 17 e_api_Addr vr_2_2 r_2_2 :: Ow.box b_2 35 #[.bool r_0_2, vr_1_2, vr_2_2] :: Ow.box b_1 35 #[.bool s_Exclude, vs_On, vs_Off] :: fr) h_6 := hS
  replace hK := hK.trans hk
  replace hL_s_On := hL_s_On.kp hk
  replace hL_s_Off := hL_s_Off.kp hk
  replace hL_2 := hL_2.kp hk
  replace hL_3 := hL_3.kp hk
  replace hL_4 := hL_4.kp hk
  refine HA.nil ⟨(hS.box 2 rfl), (at_done (by kernel_rfl) (Go.Wk.at_nil _ _))⟩ (by kernel_rfl) (thenQ_normal (?_))
  refine HW.ret (?_)
  refine ⟨.inr rfl, .agg #[.bool r_0_2, vr_1_2, vr_2_2], res1 rfl (rca (cs := [.bool r_0_2, vr_1_2, vr_2_2]) ta_35 rfl rfl (Blk.cells (k := 3) (hS.box 1 rfl) rfl)), ?_⟩
  replace hS : St F_5 (Ow.own 27 17 e_api_Addr vr_2_2 r_2_2 :: fr) h_6 := hS.perm2 [0] 3 rfl rfl
  exact ⟨F_5, r_0_2, r_1_2, r_2_2, vr_1_2, vr_2_2, rfl, hK, hS, hL_s_On, hL_s_Off, hL_4, hM⟩

def slices_Clone_s_api_Addr_api_Addr_W (s1 : List T_api_Addr) (Q : (List T_api_Addr) → Prop) : Prop :=
  (s1 = [] → Q []) ∧ (True → ((([] : List T_api_Addr).length + s1.length) * 17 ≤ 140737488355328) ∧ (Q (([] : List T_api_Addr) ++ s1)))
set_option maxHeartbeats 40000000 in
set_option maxRecDepth 100000 in
theorem slices_Clone_s_api_Addr_api_Addr_walk {F : Fz} {fr : List Ow} {h0 : Heap} (s1 : List T_api_Addr) (vs : Value) (hS : St F (fr) h0) (hL_s1 : SliceF F h0 17 e_api_Addr vs s1) {Q : (List T_api_Addr) → Prop} (hM : slices_Clone_s_api_Addr_api_Addr_W s1 Q) :
    HC Tryd.prog 48 #[vs] h0 fun u h' => ∃ (F' : Fz) (r_1 : List T_api_Addr) (vr_1 : Value), u = vr_1 ∧ Kp F h0 F' h' ∧ St F' (Ow.own 27 17 e_api_Addr vr_1 r_1 :: fr) h' ∧ (SliceF F' h' 17 e_api_Addr vs s1) ∧ Q r_1 := by
  unfold slices_Clone_s_api_Addr_api_Addr_W at hM
  have hK := Kp.refl F h0
  refine HC.of_HW (n := 8) Tryd.func48 rfl rfl (Nat.le_of_ble_eq_true rfl) ?_
  refine HW.seq ?_
  refine HW.region ?_
  refine HO.val (v := .slice none 0 0) (want_none) rfl (q_assign rfl) ?_
  refine HO.nil (thenQ_normal (?_))
  refine HW.seq ?_
  refine HW.seq ?_
  refine HW.region ?_
  refine HO.val (v := vs) (want_none) rfl (q_move rfl) ?_
  refine HO.val (v := .bool (isNil vs)) (want_none) rfl (q_eqlSnil Tryd.underlying22 (shp hL_s1.is) rfl rfl) ?_
  refine HO.nil (thenQ_normal (?_))
  refine HW.cond (isNil vs) rfl (fun c_1 => ?_) (fun c_1 => ?_)
  · replace hM := hM.1 (isNil_nil hL_s1.is c_1)
    refine HW.seq ?_
    refine HW.region ?_
    refine HO.val (v := .slice none 0 0) (want_none) rfl (q_assign rfl) ?_
    refine HO.nil (thenQ_normal (?_))
    refine HW.ret (thenQ_ret (?_))
    refine ⟨.inr rfl, .slice none 0 0, res1 rfl (rt rfl), ?_⟩
    replace hS := hS.nilOwn 27 17 e_api_Addr
    exact ⟨F, [], .slice none 0 0, rfl, hK, hS, hL_s1, hM⟩
  · replace hM := hM.2 trivial
    refine HW.skip (thenQ_normal (?_))
    refine HW.seq ?_
    refine HW.region ?_
    refine HO.eff (want_none) rfl (st_litEmpty (α := T_api_Addr) e_api_Addr hS tl_22) ?_
    rintro _ h_1 ⟨b_1, rfl, hS, hk⟩
    replace hK := hK.trans hk
    replace hL_s1 := hL_s1.kp hk
    refine HO.val (v := vs) (want_none) rfl (q_move rfl) ?_
    obtain ⟨ho_1, hM⟩ := hM
    refine HO.eff (want_none) rfl (st_append te_22 hS (i := 0) rfl hL_s1.is rfl rfl rfl (by intro a _ u hu; simp [e_api_Addr, encI, encN, encB, encT] at hu; rcases hu with rfl | rfl | rfl | rfl | rfl | rfl | rfl | rfl | rfl | rfl | rfl | rfl | rfl | rfl | rfl | rfl | rfl <;> rfl) ho_1 (by omega)) ?_
    rintro v_1 h_2 ⟨hS, hk⟩
    replace hS : St F (Ow.own 27 17 e_api_Addr v_1 (([] : List T_api_Addr) ++ s1) :: fr) h_2 := hS
    replace hK := hK.trans hk
    replace hL_s1 := hL_s1.kp hk
    refine HO.val (v := v_1) (want_none) rfl (q_assign rfl) ?_
    refine HO.nil (thenQ_normal (?_))
    refine HW.ret (?_)
    refine ⟨.inr rfl, v_1, res1 rfl (rt rfl), ?_⟩
    exact ⟨F, ([] : List T_api_Addr) ++ s1, v_1, rfl, hK, hS, hL_s1, hM⟩

def merge_Of_W (s_Exclude : Bool) (s_On : List T_api_Addr) (s_Off : List T_api_Addr) (Q : Bool → (List T_api_Addr) → Prop) : Prop :=
  (s_Exclude = true → slices_Clone_s_api_Addr_api_Addr_W s_Off (fun r_1 => Q true r_1)) ∧ (s_Exclude = false → slices_Clone_s_api_Addr_api_Addr_W s_On (fun r_2 => Q false r_2))
set_option maxHeartbeats 40000000 in
set_option maxRecDepth 100000 in
theorem merge_Of_walk {F : Fz} {fr : List Ow} {h0 : Heap} (s_Exclude : Bool) (s_On : List T_api_Addr) (s_Off : List T_api_Addr) (vs_On : Value) (vs_Off : Value) (hS : St F (fr) h0) (hL_s_On : SliceF F h0 17 e_api_Addr vs_On s_On) (hL_s_Off : SliceF F h0 17 e_api_Addr vs_Off s_Off) {Q : Bool → (List T_api_Addr) → Prop} (hM : merge_Of_W s_Exclude s_On s_Off Q) :
    HC Tryd.prog 24 #[.agg #[.bool s_Exclude, vs_On, vs_Off]] h0 fun u h' => ∃ (F' : Fz) (r_0_1 : Bool) (r_1_1 : List T_api_Addr) (vr_1_1 : Value), u = .agg #[.bool r_0_1, vr_1_1] ∧ Kp F h0 F' h' ∧ St F' (Ow.own 27 17 e_api_Addr vr_1_1 r_1_1 :: fr) h' ∧ (SliceF F' h' 17 e_api_Addr vs_On s_On) ∧ (SliceF F' h' 17 e_api_Addr vs_Off s_Off) ∧ Q r_0_1 r_1_1 := by
  unfold merge_Of_W at hM
  have hK := Kp.refl F h0
  refine HC.of_HW (n := 13) Tryd.func24 rfl rfl (Nat.le_of_ble_eq_true rfl) ?_
  refine HW.seq ?_
  refine HW.region ?_
  refine HO.eff (want_none) rfl (st_box (c := #[.bool s_Exclude, vs_On, vs_Off]) (k' := 3) hS rfl rfl) ?_
  rintro _ h_1 ⟨b_1, rfl, hS, hk⟩
  replace hK := hK.trans hk
  replace hL_s_On := hL_s_On.kp hk
  replace hL_s_Off := hL_s_Off.kp hk
  refine HO.eff (want_none) rfl (st_alloc (c := #[.bool false, .slice none 0 0]) hS tz_24 rfl) ?_
  rintro _ h_2 ⟨b_2, rfl, hS, hk⟩
  replace hK := hK.trans hk
  replace hL_s_On := hL_s_On.kp hk
  replace hL_s_Off := hL_s_Off.kp hk
  refine HO.nil (thenQ_normal (?_))
  refine HW.seq ?_
  refine HW.seq ?_
  refine HW.region ?_
  refine HO.val (v := .pointer (some ⟨b_1, 0, none⟩)) (want_none) rfl (q_fieldAddr fa_35_0 rfl rfl) ?_
  refine HO.val (v := .bool s_Exclude) (want_none) rfl (q_load to_4 rfl (Blk.cell (hS.box 1 rfl) rfl)) ?_
  refine HO.nil (thenQ_normal (?_))
  refine HW.cond s_Exclude rfl (fun c_1 => ?_) (fun c_1 => ?_)
  · replace hM := hM.1 c_1
    refine HW.seq ?_
    refine HW.region ?_
    refine HO.val (v := .pointer (some ⟨b_1, 2, none⟩)) (want_none) rfl (q_fieldAddr fa_35_2 rfl rfl) ?_
    refine HO.val (v := vs_Off) (want_none) rfl (q_load to_22 rfl (Blk.cell (hS.box 1 rfl) rfl)) ?_
    refine HO.call (want_none) rfl (ec en_48 rfl rfl) (slices_Clone_s_api_Addr_api_Addr_walk (fr := (Ow.box b_2 24 #[.bool false, .slice none 0 0] :: Ow.box b_1 35 #[.bool s_Exclude, vs_On, vs_Off] :: fr)) s_Off vs_Off hS hL_s_Off hM) ?_
    rintro vr_1 h_3 ⟨F_1, r_1, _, rfl, hk, hS, _, hM⟩
    replace hK := hK.trans hk
    replace hL_s_On := hL_s_On.kp hk
    replace hL_s_Off := hL_s_Off.kp hk
    refine HO.val (v := .agg #[.bool true, vr_1]) (want_none) rfl (q_build tp_24 (fill_cons (cs' := #[.bool true, .slice none 0 0]) (vc := #[.bool true]) rfl rfl rfl (Nat.le_of_ble_eq_true rfl) rfl (fill_cons (cs' := #[.bool true, vr_1]) (vc := #[vr_1]) rfl (shp (hS.own 0 rfl).slice).cells rfl (Nat.le_of_ble_eq_true rfl) rfl rfl))) ?_
    refine HO.sto (want_none) rfl (st_storeAgg (c' := #[.bool true, vr_1]) hS (i := 1) rfl ta_24 rfl rfl rfl (List.forall_mem_cons.2 ⟨rfl, (List.forall_mem_cons.2 ⟨(shp (hS.own 0 rfl).slice).one, (fun _ h => by cases h)⟩)⟩) (Nat.le_of_ble_eq_true rfl) rfl) ?_
    rintro h_4 ⟨hS, hk⟩
    replace hS : St F_1 (Ow.own 27 17 e_api_Addr vr_1 r_1 :: Ow.box b_2 24 #[.bool true, vr_1] :: Ow.box b_1 35 #[.bool s_Exclude, vs_On, vs_Off] :: fr) h_4 := hS
    replace hK := hK.trans hk
    replace hL_s_On := hL_s_On.kp hk
    replace hL_s_Off := hL_s_Off.kp hk
    refine HO.nil (thenQ_normal (?_))
    refine HW.ret (thenQ_ret (?_))
    refine ⟨.inr rfl, .agg #[.bool true, vr_1], res1 rfl (rca (cs := [.bool true, vr_1]) ta_24 rfl rfl (Blk.cells (k := 2) (hS.box 1 rfl) rfl)), ?_⟩
    replace hS : St F_1 (Ow.own 27 17 e_api_Addr vr_1 r_1 :: fr) h_4 := hS.perm2 [0] 3 rfl rfl
    exact ⟨F_1, true, r_1, vr_1, rfl, hK, hS, hL_s_On, hL_s_Off, hM⟩
  · replace hM := hM.2 c_1
    refine HW.skip (thenQ_normal (?_))
    refine HW.seq ?_
    refine HW.region ?_
    refine HO.val (v := .pointer (some ⟨b_1, 1, none⟩)) (want_none) rfl (q_fieldAddr fa_35_1 rfl rfl) ?_
    refine HO.val (v := vs_On) (want_none) rfl (q_load to_22 rfl (Blk.cell (hS.box 1 rfl) rfl)) ?_
    refine HO.call (want_none) rfl (ec en_48 rfl rfl) (slices_Clone_s_api_Addr_api_Addr_walk (fr := (Ow.box b_2 24 #[.bool false, .slice none 0 0] :: Ow.box b_1 35 #[.bool s_Exclude, vs_On, vs_Off] :: fr)) s_On vs_On hS hL_s_On hM) ?_
    rintro vr_2 h_5 ⟨F_2, r_2, _, rfl, hk, hS, _, hM⟩
    replace hK := hK.trans hk
    replace hL_s_On := hL_s_On.kp hk
    replace hL_s_Off := hL_s_Off.kp hk
    refine HO.val (v := .agg #[.bool false, vr_2]) (want_none) rfl (q_build tp_24 (fill_cons (cs' := #[.bool false, vr_2]) (vc := #[vr_2]) rfl (shp (hS.own 0 rfl).slice).cells rfl (Nat.le_of_ble_eq_true rfl) rfl rfl)) ?_
    refine HO.sto (want_none) rfl (st_storeAgg (c' := #[.bool false, vr_2]) hS (i := 1) rfl ta_24 rfl rfl rfl (List.forall_mem_cons.2 ⟨rfl, (List.forall_mem_cons.2 ⟨(shp (hS.own 0 rfl).slice).one, (fun _ h => by cases h)⟩)⟩) (Nat.le_of_ble_eq_true rfl) rfl) ?_
    rintro h_6 ⟨hS, hk⟩
    replace hS : St F_2 (Ow.own 27 17 e_api_Addr vr_2 r_2 :: Ow.box b_2 24 #[.bool false, vr_2] :: Ow.box b_1 35 #[.bool s_Exclude, vs_On, vs_Off] :: fr) h_6 := hS
    replace hK := hK.trans hk
    replace hL_s_On := hL_s_On.kp hk
    replace hL_s_Off := hL_s_Off.kp hk
    refine HO.nil (thenQ_normal (?_))
    refine HW.ret (?_)
    refine ⟨.inr rfl, .agg #[.bool false, vr_2], res1 rfl (rca (cs := [.bool false, vr_2]) ta_24 rfl rfl (Blk.cells (k := 2) (hS.box 1 rfl) rfl)), ?_⟩
    replace hS : St F_2 (Ow.own 27 17 e_api_Addr vr_2 r_2 :: fr) h_6 := hS.perm2 [0] 3 rfl rfl
    exact ⟨F_2, false, r_2, vr_2, rfl, hK, hS, hL_s_On, hL_s_Off, hM⟩

def ref19_Of_W (s_Exclude : Bool) (s_On : List T_api_Addr) (s_Off : List T_api_Addr) (Q : Bool → (List T_api_Addr) → Prop) : Prop :=
  (s_Exclude = true → Q true s_Off) ∧ (s_Exclude = false → Q false s_On)
set_option maxHeartbeats 40000000 in
set_option maxRecDepth 100000 in
theorem ref19_Of_walk {F : Fz} {fr : List Ow} {h0 : Heap} (s_Exclude : Bool) (s_On : List T_api_Addr) (s_Off : List T_api_Addr) (vs_On : Value) (vs_Off : Value) (hS : St F (fr) h0) (hL_s_On : SliceF F h0 17 e_api_Addr vs_On s_On) (hL_s_Off : SliceF F h0 17 e_api_Addr vs_Off s_Off) {Q : Bool → (List T_api_Addr) → Prop} (hM : ref19_Of_W s_Exclude s_On s_Off Q) :
    HC Tryd.prog 26 #[.agg #[.bool s_Exclude, vs_On, vs_Off]] h0 fun u h' => ∃ (F' : Fz) (r_0_1 : Bool) (r_1_1 : List T_api_Addr) (vr_1_1 : Value), u = .agg #[.bool r_0_1, vr_1_1] ∧ Kp F h0 F' h' ∧ St F' (fr) h' ∧ (SliceF F' h' 17 e_api_Addr vs_On s_On) ∧ (SliceF F' h' 17 e_api_Addr vs_Off s_Off) ∧ (SliceF F' h' 17 e_api_Addr vr_1_1 r_1_1) ∧ Q r_0_1 r_1_1 := by
  unfold ref19_Of_W at hM
  have hK := Kp.refl F h0
  refine HC.of_HW (n := 11) Tryd.func26 rfl rfl (Nat.le_of_ble_eq_true rfl) ?_
  refine HW.seq ?_
  refine HW.region ?_
  refine HO.eff (want_none) rfl (st_box (c := #[.bool s_Exclude, vs_On, vs_Off]) (k' := 3) hS rfl rfl) ?_
  rintro _ h_1 ⟨b_1, rfl, hS, hk⟩
  replace hK := hK.trans hk
  replace hL_s_On := hL_s_On.kp hk
  replace hL_s_Off := hL_s_Off.kp hk
  refine HO.eff (want_none) rfl (st_alloc (c := #[.bool false, .slice none 0 0]) hS tz_24 rfl) ?_
  rintro _ h_2 ⟨b_2, rfl, hS, hk⟩
  replace hK := hK.trans hk
  replace hL_s_On := hL_s_On.kp hk
  replace hL_s_Off := hL_s_Off.kp hk
  refine HO.nil (thenQ_normal (?_))
  refine HW.seq ?_
  refine HW.seq ?_
  refine HW.region ?_
  refine HO.val (v := .pointer (some ⟨b_1, 0, none⟩)) (want_none) rfl (q_fieldAddr fa_35_0 rfl rfl) ?_
  refine HO.val (v := .bool s_Exclude) (want_none) rfl (q_load to_4 rfl (Blk.cell (hS.box 1 rfl) rfl)) ?_
  refine HO.nil (thenQ_normal (?_))
  refine HW.cond s_Exclude rfl (fun c_1 => ?_) (fun c_1 => ?_)
  · replace hM := hM.1 c_1
    refine HW.seq ?_
    refine HW.region ?_
    refine HO.val (v := .pointer (some ⟨b_1, 2, none⟩)) (want_none) rfl (q_fieldAddr fa_35_2 rfl rfl) ?_
    refine HO.val (v := vs_Off) (want_none) rfl (q_load to_22 rfl (Blk.cell (hS.box 1 rfl) rfl)) ?_
    refine HO.val (v := .agg #[.bool true, vs_Off]) (want_none) rfl (q_build tp_24 (fill_cons (cs' := #[.bool true, .slice none 0 0]) (vc := #[.bool true]) rfl rfl rfl (Nat.le_of_ble_eq_true rfl) rfl (fill_cons (cs' := #[.bool true, vs_Off]) (vc := #[vs_Off]) rfl (shp hL_s_Off.is).cells rfl (Nat.le_of_ble_eq_true rfl) rfl rfl))) ?_
    refine HO.sto (want_none) rfl (st_storeAgg (c' := #[.bool true, vs_Off]) hS (i := 0) rfl ta_24 rfl rfl rfl (List.forall_mem_cons.2 ⟨rfl, (List.forall_mem_cons.2 ⟨(shp hL_s_Off.is).one, (fun _ h => by cases h)⟩)⟩) (Nat.le_of_ble_eq_true rfl) rfl) ?_
    rintro h_3 ⟨hS, hk⟩
    replace hS : St F (Ow.box b_2 24 #[.bool true, vs_Off] :: Ow.box b_1 35 #[.bool s_Exclude, vs_On, vs_Off] :: fr) h_3 := hS
    replace hK := hK.trans hk
    replace hL_s_On := hL_s_On.kp hk
    replace hL_s_Off := hL_s_Off.kp hk
    refine HO.nil (thenQ_normal (?_))
    refine HW.ret (thenQ_ret (?_))
    refine ⟨.inr rfl, .agg #[.bool true, vs_Off], res1 rfl (rca (cs := [.bool true, vs_Off]) ta_24 rfl rfl (Blk.cells (k := 2) (hS.box 0 rfl) rfl)), ?_⟩
    replace hS : St F (fr) h_3 := hS.perm2 [] 2 rfl rfl
    exact ⟨F, true, s_Off, vs_Off, rfl, hK, hS, hL_s_On, hL_s_Off, hL_s_Off, hM⟩
  · replace hM := hM.2 c_1
    refine HW.skip (thenQ_normal (?_))
    refine HW.seq ?_
    refine HW.region ?_
    refine HO.val (v := .pointer (some ⟨b_1, 1, none⟩)) (want_none) rfl (q_fieldAddr fa_35_1 rfl rfl) ?_
    refine HO.val (v := vs_On) (want_none) rfl (q_load to_22 rfl (Blk.cell (hS.box 1 rfl) rfl)) ?_
    refine HO.val (v := .agg #[.bool false, vs_On]) (want_none) rfl (q_build tp_24 (fill_cons (cs' := #[.bool false, vs_On]) (vc := #[vs_On]) rfl (shp hL_s_On.is).cells rfl (Nat.le_of_ble_eq_true rfl) rfl rfl)) ?_
    refine HO.sto (want_none) rfl (st_storeAgg (c' := #[.bool false, vs_On]) hS (i := 0) rfl ta_24 rfl rfl rfl (List.forall_mem_cons.2 ⟨rfl, (List.forall_mem_cons.2 ⟨(shp hL_s_On.is).one, (fun _ h => by cases h)⟩)⟩) (Nat.le_of_ble_eq_true rfl) rfl) ?_
    rintro h_4 ⟨hS, hk⟩
    replace hS : St F (Ow.box b_2 24 #[.bool false, vs_On] :: Ow.box b_1 35 #[.bool s_Exclude, vs_On, vs_Off] :: fr) h_4 := hS
    replace hK := hK.trans hk
    replace hL_s_On := hL_s_On.kp hk
    replace hL_s_Off := hL_s_Off.kp hk
    refine HO.nil (thenQ_normal (?_))
    refine HW.ret (?_)
    refine ⟨.inr rfl, .agg #[.bool false, vs_On], res1 rfl (rca (cs := [.bool false, vs_On]) ta_24 rfl rfl (Blk.cells (k := 2) (hS.box 0 rfl) rfl)), ?_⟩
    replace hS : St F (fr) h_4 := hS.perm2 [] 2 rfl rfl
    exact ⟨F, false, s_On, vs_On, rfl, hK, hS, hL_s_On, hL_s_Off, hL_s_On, hM⟩

def ref15_Lets_W (s_Exclude : Bool) (s_On : List T_api_Addr) (s_Off : List T_api_Addr) (a : T_api_Addr) (Q : Bool → Prop) : Prop :=
  (s_Exclude = true → ref11_Has_W s_Off a (fun r_2 => ((!r_2) = true → Q true) ∧ ((!r_2) = false → Q false))) ∧ (s_Exclude = false → ref11_Has_W s_On a (fun r_3 => Q r_3))
set_option maxHeartbeats 40000000 in
set_option maxRecDepth 100000 in
theorem ref15_Lets_walk {F : Fz} {fr : List Ow} {h0 : Heap} (s_Exclude : Bool) (s_On : List T_api_Addr) (s_Off : List T_api_Addr) (a : T_api_Addr) (vs_On : Value) (vs_Off : Value) (hS : St F (fr) h0) (hL_s_On : SliceF F h0 17 e_api_Addr vs_On s_On) (hL_s_Off : SliceF F h0 17 e_api_Addr vs_Off s_Off) {Q : Bool → Prop} (hM : ref15_Lets_W s_Exclude s_On s_Off a Q) :
    HC Tryd.prog 15 #[.agg #[.bool s_Exclude, vs_On, vs_Off], .agg (e_api_Addr a).toArray] h0 fun u h' => ∃ (F' : Fz) (r_1 : Bool), u = .bool r_1 ∧ Kp F h0 F' h' ∧ St F' (fr) h' ∧ (SliceF F' h' 17 e_api_Addr vs_On s_On) ∧ (SliceF F' h' 17 e_api_Addr vs_Off s_Off) ∧ Q r_1 := by
  unfold ref15_Lets_W at hM
  have hK := Kp.refl F h0
  refine HC.of_HW (n := 25) Tryd.func15 rfl rfl (Nat.le_of_ble_eq_true rfl) ?_
  refine HW.seq ?_
  refine HW.region ?_
  refine HO.eff (want_none) rfl (st_box (c := #[.bool s_Exclude, vs_On, vs_Off]) (k' := 3) hS rfl rfl) ?_
  rintro _ h_1 ⟨b_1, rfl, hS, hk⟩
  replace hK := hK.trans hk
  replace hL_s_On := hL_s_On.kp hk
  replace hL_s_Off := hL_s_Off.kp hk
  refine HO.eff (want_none) rfl (st_box (c := (e_api_Addr a).toArray) (k' := 17) hS rfl rfl) ?_
  rintro _ h_2 ⟨b_2, rfl, hS, hk⟩
  replace hK := hK.trans hk
  replace hL_s_On := hL_s_On.kp hk
  replace hL_s_Off := hL_s_Off.kp hk
  refine HO.val (v := .bool false) (want_none) rfl (q_assign rfl) ?_
  refine HO.nil (thenQ_normal (?_))
  refine HW.seq ?_
  refine HW.region ?_
  refine HO.val (v := .pointer (some ⟨b_1, 0, none⟩)) (want_none) rfl (q_fieldAddr fa_35_0 rfl rfl) ?_
  refine HO.val (v := .bool s_Exclude) (want_none) rfl (q_load to_4 rfl (Blk.cell (hS.box 1 rfl) rfl)) ?_
  refine HO.val (v := .bool s_Exclude) (want_none) rfl (q_move rfl) ?_
  rcases Bool.eq_false_or_eq_true s_Exclude with c_1 | c_1
  · replace hM := hM.1 c_1
    refine HO.val (v := .pointer (some ⟨b_1, 2, none⟩)) (want_by rfl rfl c_1) rfl (q_fieldAddr fa_35_2 rfl rfl) ?_
    refine HO.val (v := vs_Off) (want_by rfl rfl c_1) rfl (q_load to_22 rfl (Blk.cell (hS.box 1 rfl) rfl)) ?_
    refine HO.val (v := .agg (e_api_Addr a).toArray) (want_by rfl rfl c_1) rfl (q_loadAgg (cs := (e_api_Addr a)) ta_27 rfl rfl (Blk.cells (k := 17) (hS.box 0 rfl) rfl)) ?_
    refine HO.call (want_by rfl rfl c_1) rfl (ec en_38 rfl rfl) (ref11_Has_walk (fr := (Ow.box b_2 27 (e_api_Addr a).toArray :: Ow.box b_1 35 #[.bool s_Exclude, vs_On, vs_Off] :: fr)) s_Off a vs_Off hS hL_s_Off hM) ?_
    rintro _ h_3 ⟨F_1, r_2, rfl, hk, hS, _, hM⟩
    replace hK := hK.trans hk
    replace hL_s_On := hL_s_On.kp hk
    replace hL_s_Off := hL_s_Off.kp hk
    refine HO.val (v := .bool (!r_2)) (want_by rfl rfl c_1) rfl (q_not rfl) ?_
    refine HO.val (v := .bool (!r_2)) (want_none) rfl (q_pickK true rfl c_1 rfl) ?_
    refine HO.val (v := .bool (!r_2)) (want_none) rfl (q_move rfl) ?_
    rcases Bool.eq_false_or_eq_true (!r_2) with c_2 | c_2
    · replace hM := hM.1 c_2
      refine HO.past (past_by rfl rfl c_2) rfl ?_
      refine HO.past (past_by rfl rfl c_2) rfl ?_
      refine HO.past (past_by rfl rfl c_2) rfl ?_
      refine HO.past (past_by rfl rfl c_2) rfl ?_
      refine HO.past (past_undef rfl rfl) rfl ?_
      refine HO.past (past_undef rfl rfl) rfl ?_
      refine HO.past (past_undef rfl rfl) rfl ?_
      refine HO.past (past_undef rfl rfl) rfl ?_
      refine HO.past (past_by rfl rfl c_2) rfl ?_
      refine HO.val (v := .bool true) (want_none) rfl (q_pickK true rfl c_2 rfl) ?_
      refine HO.val (v := .bool true) (want_none) rfl (q_assign rfl) ?_
      refine HO.nil (thenQ_normal (?_))
      refine HW.ret (?_)
      refine ⟨.inr rfl, .bool true, res1 rfl (rt rfl), ?_⟩
      replace hS : St F_1 (fr) h_3 := hS.perm2 [] 2 rfl rfl
      exact ⟨F_1, true, rfl, hK, hS, hL_s_On, hL_s_Off, hM⟩
    · replace hM := hM.2 c_2
      refine HO.val (v := .pointer (some ⟨b_1, 0, none⟩)) (want_by rfl rfl c_2) rfl (q_fieldAddr fa_35_0 rfl rfl) ?_
      refine HO.val (v := .bool s_Exclude) (want_by rfl rfl c_2) rfl (q_load to_4 rfl (Blk.cell (hS.box 1 rfl) rfl)) ?_
      refine HO.val (v := .bool (!s_Exclude)) (want_by rfl rfl c_2) rfl (q_not rfl) ?_
      refine HO.val (v := .bool (!s_Exclude)) (want_by rfl rfl c_2) rfl (q_move rfl) ?_
      refine HO.past (past_by rfl rfl (by rw [c_1] <;> rfl)) rfl ?_
      refine HO.past (past_by rfl rfl (by rw [c_1] <;> rfl)) rfl ?_
      refine HO.past (past_by rfl rfl (by rw [c_1] <;> rfl)) rfl ?_
      refine HO.past (past_by rfl rfl (by rw [c_1] <;> rfl)) rfl ?_
      refine HO.val (v := .bool false) (want_by rfl rfl c_2) rfl (q_pickK false rfl (by rw [c_1] <;> rfl) rfl) ?_
      refine HO.val (v := .bool false) (want_none) rfl (q_pickK false rfl c_2 rfl) ?_
      refine HO.val (v := .bool false) (want_none) rfl (q_assign rfl) ?_
      refine HO.nil (thenQ_normal (?_))
      refine HW.ret (?_)
      refine ⟨.inr rfl, .bool false, res1 rfl (rt rfl), ?_⟩
      replace hS : St F_1 (fr) h_3 := hS.perm2 [] 2 rfl rfl
      exact ⟨F_1, false, rfl, hK, hS, hL_s_On, hL_s_Off, hM⟩
  · replace hM := hM.2 c_1
    refine HO.past (past_by rfl rfl c_1) rfl ?_
    refine HO.past (past_by rfl rfl c_1) rfl ?_
    refine HO.past (past_by rfl rfl c_1) rfl ?_
    refine HO.past (past_by rfl rfl c_1) rfl ?_
    refine HO.past (past_by rfl rfl c_1) rfl ?_
    refine HO.val (v := .bool false) (want_none) rfl (q_pickK false rfl c_1 rfl) ?_
    refine HO.val (v := .bool false) (want_none) rfl (q_move rfl) ?_
    refine HO.val (v := .pointer (some ⟨b_1, 0, none⟩)) (want_some rfl rfl) rfl (q_fieldAddr fa_35_0 rfl rfl) ?_
    refine HO.val (v := .bool s_Exclude) (want_some rfl rfl) rfl (q_load to_4 rfl (Blk.cell (hS.box 1 rfl) rfl)) ?_
    refine HO.val (v := .bool (!s_Exclude)) (want_some rfl rfl) rfl (q_not rfl) ?_
    refine HO.val (v := .bool (!s_Exclude)) (want_some rfl rfl) rfl (q_move rfl) ?_
    refine HO.val (v := .pointer (some ⟨b_1, 1, none⟩)) (want_by rfl rfl (by rw [c_1] <;> rfl)) rfl (q_fieldAddr fa_35_1 rfl rfl) ?_
    refine HO.val (v := vs_On) (want_by rfl rfl (by rw [c_1] <;> rfl)) rfl (q_load to_22 rfl (Blk.cell (hS.box 1 rfl) rfl)) ?_
    refine HO.val (v := .agg (e_api_Addr a).toArray) (want_by rfl rfl (by rw [c_1] <;> rfl)) rfl (q_loadAgg (cs := (e_api_Addr a)) ta_27 rfl rfl (Blk.cells (k := 17) (hS.box 0 rfl) rfl)) ?_
    refine HO.call (want_by rfl rfl (by rw [c_1] <;> rfl)) rfl (ec en_38 rfl rfl) (ref11_Has_walk (fr := (Ow.box b_2 27 (e_api_Addr a).toArray :: Ow.box b_1 35 #[.bool s_Exclude, vs_On, vs_Off] :: fr)) s_On a vs_On hS hL_s_On hM) ?_
    rintro _ h_4 ⟨F_2, r_3, rfl, hk, hS, _, hM⟩
    replace hK := hK.trans hk
    replace hL_s_On := hL_s_On.kp hk
    replace hL_s_Off := hL_s_Off.kp hk
    refine HO.val (v := .bool r_3) (want_some rfl rfl) rfl (q_pickK true rfl (by rw [c_1] <;> rfl) rfl) ?_
    refine HO.val (v := .bool r_3) (want_none) rfl (q_pick rfl rfl) ?_
    refine HO.val (v := .bool r_3) (want_none) rfl (q_assign rfl) ?_
    refine HO.nil (thenQ_normal (?_))
    refine HW.ret (?_)
    refine ⟨.inr rfl, .bool r_3, res1 rfl (rt rfl), ?_⟩
    replace hS : St F_2 (fr) h_4 := hS.perm2 [] 2 rfl rfl
    exact ⟨F_2, r_3, rfl, hK, hS, hL_s_On, hL_s_Off, hM⟩

def law19_MergeStates_W (s_Exclude : Bool) (s_On : List T_api_Addr) (s_Off : List T_api_Addr) (raw_Exclude : Bool) (raw_Sources : List T_api_Addr) (a : T_api_Addr) (Q : Bool → Prop) : Prop :=
  law15_Few_W s_Exclude s_On s_Off (fun r_0_1 r_1_1 r_2_1 => law15_Few_W r_0_1 r_1_1 r_2_1 (fun r_0_2 r_1_2 r_2_2 => merge_Of_W r_0_2 r_1_2 r_2_2 (fun r_0_3 r_1_3 => law08_Addrs_W raw_Sources 6 (fun r_2 => ref19_Of_W r_0_1 r_1_1 r_2_1 (fun r_0_4 r_1_4 => ref19_Same_W r_0_3 r_1_3 r_0_4 r_1_4 (fun r_3 => (r_3 = true → merge_Lets_W r_0_3 r_1_3 a (fun r_4 => ref15_Lets_W r_0_1 r_1_1 r_2_1 a (fun r_5 => ((r_4 == r_5) = true → merge_Good_W false r_2 (fun r_6 => ref11_Of_W r_2 (fun r_7 => ref11_Same_W r_7 r_2 (fun r_8 => ((r_6 == r_8) = true → law19_lives_W  (fun r_9 => Q r_9)) ∧ ((r_6 == r_8) = false → Q false))))) ∧ ((r_4 == r_5) = false → Q false)))) ∧ (r_3 = false → Q false)))))))
set_option maxHeartbeats 40000000 in
set_option maxRecDepth 100000 in
theorem law19_MergeStates_walk {F : Fz} {fr : List Ow} {h0 : Heap} (s_Exclude : Bool) (s_On : List T_api_Addr) (s_Off : List T_api_Addr) (raw_Exclude : Bool) (raw_Sources : List T_api_Addr) (a : T_api_Addr) (vs_On : Value) (vs_Off : Value) (vraw_Sources : Value) (hS : St F (fr) h0) (hL_s_On : SliceF F h0 17 e_api_Addr vs_On s_On) (hL_s_Off : SliceF F h0 17 e_api_Addr vs_Off s_Off) (hL_raw_Sources : SliceF F h0 17 e_api_Addr vraw_Sources raw_Sources) (hD : DM.on = false) {Q : Bool → Prop} (hM : law19_MergeStates_W s_Exclude s_On s_Off raw_Exclude raw_Sources a Q) :
    HC Tryd.prog 5 #[.agg #[.bool s_Exclude, vs_On, vs_Off], .agg #[.bool raw_Exclude, vraw_Sources], .agg (e_api_Addr a).toArray] h0 fun u h' => ∃ (F' : Fz) (r_1 : Bool), u = .bool r_1 ∧ Kp F h0 F' h' ∧ St F' (fr) h' ∧ (SliceF F' h' 17 e_api_Addr vs_On s_On) ∧ (SliceF F' h' 17 e_api_Addr vs_Off s_Off) ∧ (SliceF F' h' 17 e_api_Addr vraw_Sources raw_Sources) ∧ Q r_1 := by
  unfold law19_MergeStates_W at hM
  have hK := Kp.refl F h0
  refine HC.of_HW (n := 43) Tryd.func5 rfl rfl (Nat.le_of_ble_eq_true rfl) ?_
  refine HW.seq ?_
  refine HW.region ?_
  refine HO.eff (want_none) rfl (st_box (c := #[.bool s_Exclude, vs_On, vs_Off]) (k' := 3) hS rfl rfl) ?_
  rintro _ h_1 ⟨b_1, rfl, hS, hk⟩
  replace hK := hK.trans hk
  replace hL_s_On := hL_s_On.kp hk
  replace hL_s_Off := hL_s_Off.kp hk
  replace hL_raw_Sources := hL_raw_Sources.kp hk
  refine HO.eff (want_none) rfl (st_box (c := #[.bool raw_Exclude, vraw_Sources]) (k' := 2) hS rfl rfl) ?_
  rintro _ h_2 ⟨b_2, rfl, hS, hk⟩
  replace hK := hK.trans hk
  replace hL_s_On := hL_s_On.kp hk
  replace hL_s_Off := hL_s_Off.kp hk
  replace hL_raw_Sources := hL_raw_Sources.kp hk
  refine HO.eff (want_none) rfl (st_box (c := (e_api_Addr a).toArray) (k' := 17) hS rfl rfl) ?_
  rintro _ h_3 ⟨b_3, rfl, hS, hk⟩
  replace hK := hK.trans hk
  replace hL_s_On := hL_s_On.kp hk
  replace hL_s_Off := hL_s_Off.kp hk
  replace hL_raw_Sources := hL_raw_Sources.kp hk
  refine HO.val (v := .bool false) (want_none) rfl (q_assign rfl) ?_
  refine HO.nil (thenQ_normal (?_))
  refine HW.seq ?_
  refine HW.region ?_
  refine HO.val (v := .agg #[.bool s_Exclude, vs_On, vs_Off]) (want_none) rfl (q_loadAgg (cs := [.bool s_Exclude, vs_On, vs_Off]) ta_35 rfl rfl (Blk.cells (k := 3) (hS.box 2 rfl) rfl)) ?_
  refine HO.call (want_none) rfl (ec en_23 rfl rfl) (law15_Few_walk (fr := (Ow.box b_3 27 (e_api_Addr a).toArray :: Ow.box b_2 24 #[.bool raw_Exclude, vraw_Sources] :: Ow.box b_1 35 #[.bool s_Exclude, vs_On, vs_Off] :: fr)) s_Exclude s_On s_Off vs_On vs_Off hS hL_s_On hL_s_Off hM) ?_
  rintro _ h_4 ⟨F_1, r_0_1, r_1_1, r_2_1, vr_1_1, vr_2_1, rfl, hk, hS, _, _, hL_1, hM⟩
  replace hK := hK.trans hk
  replace hL_s_On := hL_s_On.kp hk
  replace hL_s_Off := hL_s_Off.kp hk
  replace hL_raw_Sources := hL_raw_Sources.kp hk
  refine HO.sto (want_none) rfl (st_storeAgg (c' := #[.bool r_0_1, vr_1_1, vr_2_1]) hS (i := 3) rfl ta_35 rfl rfl rfl (List.forall_mem_cons.2 ⟨rfl, (List.forall_mem_cons.2 ⟨(shp hL_1.is).one, (List.forall_mem_cons.2 ⟨(shp (hS.own 0 rfl).slice).one, (fun _ h => by cases h)⟩)⟩)⟩) (Nat.le_of_ble_eq_true rfl) rfl) ?_
  rintro h_5 ⟨hS, hk⟩
  replace hS : St F_1 (Ow.own 27 17 e_api_Addr vr_2_1 r_2_1 :: Ow.box b_3 27 (e_api_Addr a).toArray :: Ow.box b_2 24 #[.bool raw_Exclude, vraw_Sources] :: Ow.box b_1 35 #[.bool r_0_1, vr_1_1, vr_2_1] :: fr) h_5 := hS
  replace hK := hK.trans hk
  replace hL_s_On := hL_s_On.kp hk
  replace hL_s_Off := hL_s_Off.kp hk
  replace hL_raw_Sources := hL_raw_Sources.kp hk
  replace hL_1 := hL_1.kp hk
  refine HO.nil (thenQ_normal (?_))
  refine HW.seq ?_
  refine HW.region ?_
  refine HO.val (v := .agg #[.bool r_0_1, vr_1_1, vr_2_1]) (want_none) rfl (q_loadAgg (cs := [.bool r_0_1, vr_1_1, vr_2_1]) ta_35 rfl rfl (Blk.cells (k := 3) (hS.box 3 rfl) rfl)) ?_
  obtain ⟨F_2, hS, hk, hL_2⟩ := hS.freezeOwn
  replace hK := hK.trans hk
  replace hL_s_On := hL_s_On.kp hk
  replace hL_s_Off := hL_s_Off.kp hk
  replace hL_raw_Sources := hL_raw_Sources.kp hk
  replace hL_1 := hL_1.kp hk
  refine HO.call (want_none) rfl (ec en_23 rfl rfl) (law15_Few_walk (fr := (Ow.box b_3 27 (e_api_Addr a).toArray :: Ow.box b_2 24 #[.bool raw_Exclude, vraw_Sources] :: Ow.box b_1 35 #[.bool r_0_1, vr_1_1, vr_2_1] :: fr)) r_0_1 r_1_1 r_2_1 vr_1_1 vr_2_1 hS hL_1 hL_2 hM) ?_
  rintro _ h_6 ⟨F_3, r_0_2, r_1_2, r_2_2, vr_1_2, vr_2_2, rfl, hk, hS, _, _, hL_3, hM⟩
  replace hK := hK.trans hk
  replace hL_s_On := hL_s_On.kp hk
  replace hL_s_Off := hL_s_Off.kp hk
  replace hL_raw_Sources := hL_raw_Sources.kp hk
  replace hL_1 := hL_1.kp hk
  replace hL_2 := hL_2.kp hk
  have hZ_1 := hS
  have hkz_1 := (hS.freeze).2
  replace hS := hS.freeze.1
  have hL_4 : SliceF (fun b => F_3 b ∨ (Ow.own 27 17 e_api_Addr vr_2_2 r_2_2).foot b) h_6 17 e_api_Addr vr_2_2 r_2_2 := ⟨(hZ_1.own 0 rfl).slice, fun _ b hb => .inr hb⟩
  refine HO.call (want_none) rfl (ec en_24 rfl rfl) (merge_Of_walk (fr := (Ow.box b_3 27 (e_api_Addr a).toArray :: Ow.box b_2 24 #[.bool raw_Exclude, vraw_Sources] :: Ow.box b_1 35 #[.bool r_0_1, vr_1_1, vr_2_1] :: fr)) r_0_2 r_1_2 r_2_2 vr_1_2 vr_2_2 hS (hL_3.kp hkz_1) hL_4 hM) ?_
  rintro _ h_7 ⟨F_4, r_0_3, r_1_3, vr_1_3, rfl, hk, hS, _, _, hM⟩
  obtain ⟨hS, hk⟩ := hZ_1.back hk hS
  generalize (fun b => F_4 b ∧ ¬ (Ow.own 27 17 e_api_Addr vr_2_2 r_2_2).foot b) = F_5 at hS hk
  replace hK := hK.trans hk
  replace hL_s_On := hL_s_On.kp hk
  replace hL_s_Off := hL_s_Off.kp hk
  replace hL_raw_Sources := hL_raw_Sources.kp hk
  replace hL_1 := hL_1.kp hk
  replace hL_2 := hL_2.kp hk
  replace hL_3 := hL_3.kp hk
  refine HO.eff (want_none) rfl (st_alloc (c := #[.bool false, .slice none 0 0]) hS tz_24 rfl) ?_
  rintro _ h_8 ⟨b_4, rfl, hS, hk⟩
  replace hK := hK.trans hk
  replace hL_s_On := hL_s_On.kp hk
  replace hL_s_Off := hL_s_Off.kp hk
  replace hL_raw_Sources := hL_raw_Sources.kp hk
  replace hL_1 := hL_1.kp hk
  replace hL_2 := hL_2.kp hk
  replace hL_3 := hL_3.kp hk
  refine HO.sto (want_none) rfl (st_storeAgg (c' := #[.bool r_0_3, vr_1_3]) hS (i := 0) rfl ta_24 rfl rfl rfl (List.forall_mem_cons.2 ⟨rfl, (List.forall_mem_cons.2 ⟨(shp (hS.own 2 rfl).slice).one, (fun _ h => by cases h)⟩)⟩) (Nat.le_of_ble_eq_true rfl) rfl) ?_
  rintro h_9 ⟨hS, hk⟩
  replace hS : St F_5 (Ow.box b_4 24 #[.bool r_0_3, vr_1_3] :: Ow.own 27 17 e_api_Addr vr_2_2 r_2_2 :: Ow.own 27 17 e_api_Addr vr_1_3 r_1_3 :: Ow.box b_3 27 (e_api_Addr a).toArray :: Ow.box b_2 24 #[.bool raw_Exclude, vraw_Sources] :: Ow.box b_1 35 #[.bool r_0_1, vr_1_1, vr_2_1] :: fr) h_9 := hS
  replace hK := hK.trans hk
  replace hL_s_On := hL_s_On.kp hk
  replace hL_s_Off := hL_s_Off.kp hk
  replace hL_raw_Sources := hL_raw_Sources.kp hk
  replace hL_1 := hL_1.kp hk
  replace hL_2 := hL_2.kp hk
  replace hL_3 := hL_3.kp hk
  refine HO.nil (thenQ_normal (?_))
  refine HW.seq ?_
  refine HW.region ?_
  refine HO.val (v := .pointer (some ⟨b_2, 1, none⟩)) (want_none) rfl (q_fieldAddr fa_24_1 rfl rfl) ?_
  refine HO.val (v := vraw_Sources) (want_none) rfl (q_load to_22 rfl (Blk.cell (hS.box 4 rfl) rfl)) ?_
  refine HO.call (want_none) rfl (ec en_25 rfl rfl) (law08_Addrs_walk (fr := (Ow.box b_4 24 #[.bool r_0_3, vr_1_3] :: Ow.own 27 17 e_api_Addr vr_2_2 r_2_2 :: Ow.own 27 17 e_api_Addr vr_1_3 r_1_3 :: Ow.box b_3 27 (e_api_Addr a).toArray :: Ow.box b_2 24 #[.bool raw_Exclude, vraw_Sources] :: Ow.box b_1 35 #[.bool r_0_1, vr_1_1, vr_2_1] :: fr)) raw_Sources 6 vraw_Sources hS hL_raw_Sources hM) ?_
  rintro vr_1 h_10 ⟨F_6, r_2, _, rfl, hk, hS, _, hM⟩
  replace hK := hK.trans hk
  replace hL_s_On := hL_s_On.kp hk
  replace hL_s_Off := hL_s_Off.kp hk
  replace hL_raw_Sources := hL_raw_Sources.kp hk
  replace hL_1 := hL_1.kp hk
  replace hL_2 := hL_2.kp hk
  replace hL_3 := hL_3.kp hk
  refine HO.val (v := vr_1) (want_none) rfl (q_assign rfl) ?_
  refine HO.nil (thenQ_normal (?_))
  refine HW.seq ?_
  refine HW.regionA 27 mixed (fun h => (Blk h b_4 (.cells #[.bool r_0_3, vr_1_3] 24 (0, 0))) ∧ (Blk h b_3 (.cells (e_api_Addr a).toArray 27 (0, 0))) ∧ (Blk h b_1 (.cells #[.bool r_0_1, vr_1_1, vr_2_1] 35 (0, 0)))) [(18, fun h => (OwnIs h 0 27 17 e_api_Addr vr_1 r_2))] (by kernel_rfl) ?_
  refine HA.val (k := 0) (v := .agg #[.bool r_0_3, vr_1_3]) rfl rfl (by kernel_rfl) (by kernel_rfl) (want_none) rfl (fun _ ⟨c207, c203, c201⟩ => q_loadAgg (cs := [.bool r_0_3, vr_1_3]) ta_24 rfl rfl (Blk.cells (k := 2) c207 rfl)) ?_
  refine HA.val (k := 1) (v := .agg #[.bool r_0_1, vr_1_1, vr_2_1]) rfl rfl (by kernel_rfl) (by kernel_rfl) (want_none) rfl (fun _ ⟨c207, c203, c201⟩ => q_loadAgg (cs := [.bool r_0_1, vr_1_1, vr_2_1]) ta_35 rfl rfl (Blk.cells (k := 3) c201 rfl)) ?_
  refine HA.one (k := 2) ⟨⟨(hS.box 1 rfl), (hS.box 4 rfl), (hS.box 6 rfl)⟩, (at_now (hS.own 0 rfl) (Go.Wk.at_nil _ _))⟩ (by kernel_rfl) ?_
  refine HS.call rfl (want_none) rfl (ec en_26 rfl rfl) (ref19_Of_walk (fr := (Ow.own 27 17 e_api_Addr vr_1 r_2 :: Ow.box b_4 24 #[.bool r_0_3, vr_1_3] :: Ow.own 27 17 e_api_Addr vr_2_2 r_2_2 :: Ow.own 27 17 e_api_Addr vr_1_3 r_1_3 :: Ow.box b_3 27 (e_api_Addr a).toArray :: Ow.box b_2 24 #[.bool raw_Exclude, vraw_Sources] :: Ow.box b_1 35 #[.bool r_0_1, vr_1_1, vr_2_1] :: fr)) r_0_1 r_1_1 r_2_1 vr_1_1 vr_2_1 hS hL_1 hL_2 hM) ?_
  rintro _ h_11 ⟨F_7, r_0_4, r_1_4, vr_1_4, rfl, hk, hS, _, _, hL_5, hM⟩
  replace hK := hK.trans hk
  replace hL_s_On := hL_s_On.kp hk
  replace hL_s_Off := hL_s_Off.kp hk
  replace hL_raw_Sources := hL_raw_Sources.kp hk
  replace hL_1 := hL_1.kp hk
  replace hL_2 := hL_2.kp hk
  replace hL_3 := hL_3.kp hk
  refine HA.one (k := 3) ⟨⟨(hS.box 1 rfl), (hS.box 4 rfl), (hS.box 6 rfl)⟩, (at_now (hS.own 0 rfl) (Go.Wk.at_nil _ _))⟩ (by kernel_rfl) ?_
  replace hS : St F_7 (Ow.own 27 17 e_api_Addr vr_1_3 r_1_3 :: Ow.own 27 17 e_api_Addr vr_1 r_2 :: Ow.box b_4 24 #[.bool r_0_3, vr_1_3] :: Ow.own 27 17 e_api_Addr vr_2_2 r_2_2 :: Ow.box b_3 27 (e_api_Addr a).toArray :: Ow.box b_2 24 #[.bool raw_Exclude, vraw_Sources] :: Ow.box b_1 35 #[.bool r_0_1, vr_1_1, vr_2_1] :: fr) h_11 := hS.perm2 [3, 0, 1, 2, 4, 5, 6] 7 rfl rfl
  have hZ_2 := hS
  have hkz_2 := (hS.freeze).2
  replace hS := hS.freeze.1
  have hL_6 : SliceF (fun b => F_7 b ∨ (Ow.own 27 17 e_api_Addr vr_1_3 r_1_3).foot b) h_11 17 e_api_Addr vr_1_3 r_1_3 := ⟨(hZ_2.own 0 rfl).slice, fun _ b hb => .inr hb⟩
  refine HS.call rfl (want_none) rfl (ec en_20 rfl rfl) (ref19_Same_walk (fr := (Ow.own 27 17 e_api_Addr vr_1 r_2 :: Ow.box b_4 24 #[.bool r_0_3, vr_1_3] :: Ow.own 27 17 e_api_Addr vr_2_2 r_2_2 :: Ow.box b_3 27 (e_api_Addr a).toArray :: Ow.box b_2 24 #[.bool raw_Exclude, vraw_Sources] :: Ow.box b_1 35 #[.bool r_0_1, vr_1_1, vr_2_1] :: fr)) r_0_3 r_1_3 r_0_4 r_1_4 vr_1_3 vr_1_4 hS hL_6 (hL_5.kp hkz_2) hM) ?_
  rintro _ h_12 ⟨F_8, r_3, rfl, hk, hS, _, _, hM⟩
  obtain ⟨hS, hk⟩ := hZ_2.back hk hS
  generalize (fun b => F_8 b ∧ ¬ (Ow.own 27 17 e_api_Addr vr_1_3 r_1_3).foot b) = F_9 at hS hk
  replace hK := hK.trans hk
  replace hL_s_On := hL_s_On.kp hk
  replace hL_s_Off := hL_s_Off.kp hk
  replace hL_raw_Sources := hL_raw_Sources.kp hk
  replace hL_1 := hL_1.kp hk
  replace hL_2 := hL_2.kp hk
  replace hL_3 := hL_3.kp hk
  replace hL_5 := hL_5.kp hk
  refine HA.val (k := 4) (v := .bool r_3) rfl rfl (by kernel_rfl) (by kernel_rfl) (want_none) rfl (fun _ ⟨c207, c203, c201⟩ => q_move rfl) ?_
  rcases Bool.eq_false_or_eq_true r_3 with c_1 | c_1
  · replace hM := hM.1 c_1
    refine HA.val (k := 5) (v := .agg #[.bool r_0_3, vr_1_3]) rfl rfl (by kernel_rfl) (by kernel_rfl) (want_by rfl rfl c_1) rfl (fun _ ⟨c207, c203, c201⟩ => q_loadAgg (cs := [.bool r_0_3, vr_1_3]) ta_24 rfl rfl (Blk.cells (k := 2) c207 rfl)) ?_
    refine HA.val (k := 6) (v := .agg (e_api_Addr a).toArray) rfl rfl (by kernel_rfl) (by kernel_rfl) (want_by rfl rfl c_1) rfl (fun _ ⟨c207, c203, c201⟩ => q_loadAgg (cs := (e_api_Addr a)) ta_27 rfl rfl (Blk.cells (k := 17) c203 rfl)) ?_
    refine HA.val (k := 8) (v := .agg #[.bool r_0_1, vr_1_1, vr_2_1]) rfl rfl (by kernel_rfl) (by kernel_rfl) (want_by rfl rfl c_1) rfl (fun _ ⟨c207, c203, c201⟩ => q_loadAgg (cs := [.bool r_0_1, vr_1_1, vr_2_1]) ta_35 rfl rfl (Blk.cells (k := 3) c201 rfl)) ?_
    refine HA.val (k := 9) (v := .agg (e_api_Addr a).toArray) rfl rfl (by kernel_rfl) (by kernel_rfl) (want_by rfl rfl c_1) rfl (fun _ ⟨c207, c203, c201⟩ => q_loadAgg (cs := (e_api_Addr a)) ta_27 rfl rfl (Blk.cells (k := 17) c203 rfl)) ?_
    refine HA.one (k := 7) ⟨⟨(hS.box 2 rfl), (hS.box 4 rfl), (hS.box 6 rfl)⟩, (at_now (hS.own 1 rfl) (Go.Wk.at_nil _ _))⟩ (by kernel_rfl) ?_
    have hZ_3 := hS
    have hkz_3 := (hS.freeze).2
    replace hS := hS.freeze.1
    have hL_7 : SliceF (fun b => F_9 b ∨ (Ow.own 27 17 e_api_Addr vr_1_3 r_1_3).foot b) h_12 17 e_api_Addr vr_1_3 r_1_3 := ⟨(hZ_3.own 0 rfl).slice, fun _ b hb => .inr hb⟩
    refine HS.call rfl (want_by rfl rfl c_1) rfl (ec en_19 rfl rfl) (merge_Lets_walk (fr := (Ow.own 27 17 e_api_Addr vr_1 r_2 :: Ow.box b_4 24 #[.bool r_0_3, vr_1_3] :: Ow.own 27 17 e_api_Addr vr_2_2 r_2_2 :: Ow.box b_3 27 (e_api_Addr a).toArray :: Ow.box b_2 24 #[.bool raw_Exclude, vraw_Sources] :: Ow.box b_1 35 #[.bool r_0_1, vr_1_1, vr_2_1] :: fr)) r_0_3 r_1_3 a vr_1_3 hS hL_7 hM) ?_
    rintro _ h_13 ⟨F_10, r_4, rfl, hk, hS, _, hM⟩
    obtain ⟨hS, hk⟩ := hZ_3.back hk hS
    generalize (fun b => F_10 b ∧ ¬ (Ow.own 27 17 e_api_Addr vr_1_3 r_1_3).foot b) = F_11 at hS hk
    replace hK := hK.trans hk
    replace hL_s_On := hL_s_On.kp hk
    replace hL_s_Off := hL_s_Off.kp hk
    replace hL_raw_Sources := hL_raw_Sources.kp hk
    replace hL_1 := hL_1.kp hk
    replace hL_2 := hL_2.kp hk
    replace hL_3 := hL_3.kp hk
    replace hL_5 := hL_5.kp hk
    refine HA.one (k := 10) ⟨⟨(hS.box 2 rfl), (hS.box 4 rfl), (hS.box 6 rfl)⟩, (at_now (hS.own 1 rfl) (Go.Wk.at_nil _ _))⟩ (by kernel_rfl) ?_
    refine HS.call rfl (want_by rfl rfl c_1) rfl (ec en_15 rfl rfl) (ref15_Lets_walk (fr := (Ow.own 27 17 e_api_Addr vr_1_3 r_1_3 :: Ow.own 27 17 e_api_Addr vr_1 r_2 :: Ow.box b_4 24 #[.bool r_0_3, vr_1_3] :: Ow.own 27 17 e_api_Addr vr_2_2 r_2_2 :: Ow.box b_3 27 (e_api_Addr a).toArray :: Ow.box b_2 24 #[.bool raw_Exclude, vraw_Sources] :: Ow.box b_1 35 #[.bool r_0_1, vr_1_1, vr_2_1] :: fr)) r_0_1 r_1_1 r_2_1 a vr_1_1 vr_2_1 hS hL_1 hL_2 hM) ?_
    rintro _ h_14 ⟨F_12, r_5, rfl, hk, hS, _, _, hM⟩
    replace hK := hK.trans hk
    replace hL_s_On := hL_s_On.kp hk
    replace hL_s_Off := hL_s_Off.kp hk
    replace hL_raw_Sources := hL_raw_Sources.kp hk
    replace hL_1 := hL_1.kp hk
    replace hL_2 := hL_2.kp hk
    replace hL_3 := hL_3.kp hk
    replace hL_5 := hL_5.kp hk
    refine HA.val (k := 11) (v := .bool (r_4 == r_5)) rfl rfl (by kernel_rfl) (by kernel_rfl) (want_by rfl rfl c_1) rfl (fun _ ⟨c207, c203, c201⟩ => q_eqlB Tryd.underlying4 rfl rfl) ?_
    refine HA.val (k := 12) (v := .bool (r_4 == r_5)) rfl rfl (by kernel_rfl) (by kernel_rfl) (want_none) rfl (fun _ ⟨c207, c203, c201⟩ => q_pickK true rfl c_1 rfl) ?_
    refine HA.val (k := 13) (v := .bool (r_4 == r_5)) rfl rfl (by kernel_rfl) (by kernel_rfl) (want_none) rfl (fun _ ⟨c207, c203, c201⟩ => q_move rfl) ?_
    rcases Bool.eq_false_or_eq_true (r_4 == r_5) with c_2 | c_2
    · replace hM := hM.1 c_2
      refine HA.val (k := 14) (v := vr_1) rfl rfl (by kernel_rfl) (by kernel_rfl) (want_by rfl rfl c_2) rfl (fun _ ⟨c207, c203, c201⟩ => q_move rfl) ?_
      refine Go.Wk.HA.valN (k := 15) (v := .agg #[.bool false, vr_1]) 0 18 (fun h => (OwnIs h 0 27 17 e_api_Addr vr_1 r_2)) rfl rfl (by kernel_rfl) (by kernel_rfl) (want_by rfl rfl c_2) rfl rfl (by kernel_rfl) (fun _ ⟨c207, c203, c201⟩ c208 => q_build tp_24 (fill_cons (cs' := #[.bool false, vr_1]) (vc := #[vr_1]) rfl (shp c208.slice).cells rfl (Nat.le_of_ble_eq_true rfl) rfl rfl)) ?_
      refine HA.val (k := 17) (v := vr_1) rfl rfl (by kernel_rfl) (by kernel_rfl) (want_by rfl rfl c_2) rfl (fun _ ⟨c207, c203, c201⟩ => q_move rfl) ?_
      refine HA.val (k := 19) (v := vr_1) rfl rfl (by kernel_rfl) (by kernel_rfl) (want_by rfl rfl c_2) rfl (fun _ ⟨c207, c203, c201⟩ => q_move rfl) ?_
      refine HA.one (k := 16) ⟨⟨(hS.box 2 rfl), (hS.box 4 rfl), (hS.box 6 rfl)⟩, (at_now (hS.own 1 rfl) (Go.Wk.at_nil _ _))⟩ (by kernel_rfl) ?_
      replace hS : St F_12 (Ow.own 27 17 e_api_Addr vr_1 r_2 :: Ow.own 27 17 e_api_Addr vr_1_3 r_1_3 :: Ow.box b_4 24 #[.bool r_0_3, vr_1_3] :: Ow.own 27 17 e_api_Addr vr_2_2 r_2_2 :: Ow.box b_3 27 (e_api_Addr a).toArray :: Ow.box b_2 24 #[.bool raw_Exclude, vraw_Sources] :: Ow.box b_1 35 #[.bool r_0_1, vr_1_1, vr_2_1] :: fr) h_14 := hS.perm2 [1, 0, 2, 3, 4, 5, 6] 7 rfl rfl
      have hZ_4 := hS
      have hkz_4 := (hS.freeze).2
      replace hS := hS.freeze.1
      have hL_8 : SliceF (fun b => F_12 b ∨ (Ow.own 27 17 e_api_Addr vr_1 r_2).foot b) h_14 17 e_api_Addr vr_1 r_2 := ⟨(hZ_4.own 0 rfl).slice, fun _ b hb => .inr hb⟩
      refine HS.call rfl (want_by rfl rfl c_2) rfl (ec en_22 rfl rfl) (merge_Good_walk (fr := (Ow.own 27 17 e_api_Addr vr_1_3 r_1_3 :: Ow.box b_4 24 #[.bool r_0_3, vr_1_3] :: Ow.own 27 17 e_api_Addr vr_2_2 r_2_2 :: Ow.box b_3 27 (e_api_Addr a).toArray :: Ow.box b_2 24 #[.bool raw_Exclude, vraw_Sources] :: Ow.box b_1 35 #[.bool r_0_1, vr_1_1, vr_2_1] :: fr)) false r_2 vr_1 hS hL_8 hM) ?_
      rintro _ h_15 ⟨F_13, r_6, rfl, hk, hS, _, hM⟩
      obtain ⟨hS, hk⟩ := hZ_4.back hk hS
      generalize (fun b => F_13 b ∧ ¬ (Ow.own 27 17 e_api_Addr vr_1 r_2).foot b) = F_14 at hS hk
      replace hK := hK.trans hk
      replace hL_s_On := hL_s_On.kp hk
      replace hL_s_Off := hL_s_Off.kp hk
      replace hL_raw_Sources := hL_raw_Sources.kp hk
      replace hL_1 := hL_1.kp hk
      replace hL_2 := hL_2.kp hk
      replace hL_3 := hL_3.kp hk
      replace hL_5 := hL_5.kp hk
      refine HA.one (k := 18) ⟨⟨(hS.box 2 rfl), (hS.box 4 rfl), (hS.box 6 rfl)⟩, (at_now (hS.own 0 rfl) (Go.Wk.at_nil _ _))⟩ (by kernel_rfl) ?_
      obtain ⟨F_15, hS, hk, hL_9⟩ := hS.freezeOwn
      replace hK := hK.trans hk
      replace hL_s_On := hL_s_On.kp hk
      replace hL_s_Off := hL_s_Off.kp hk
      replace hL_raw_Sources := hL_raw_Sources.kp hk
      replace hL_1 := hL_1.kp hk
      replace hL_2 := hL_2.kp hk
      replace hL_3 := hL_3.kp hk
      replace hL_5 := hL_5.kp hk
      refine HS.call rfl (want_by rfl rfl c_2) rfl (ec en_28 rfl rfl) (ref11_Of_walk (fr := (Ow.own 27 17 e_api_Addr vr_1_3 r_1_3 :: Ow.box b_4 24 #[.bool r_0_3, vr_1_3] :: Ow.own 27 17 e_api_Addr vr_2_2 r_2_2 :: Ow.box b_3 27 (e_api_Addr a).toArray :: Ow.box b_2 24 #[.bool raw_Exclude, vraw_Sources] :: Ow.box b_1 35 #[.bool r_0_1, vr_1_1, vr_2_1] :: fr)) r_2 vr_1 hS hL_9 hM) ?_
      rintro vr_2 h_16 ⟨F_16, r_7, _, rfl, hk, hS, _, hL_10, hM⟩
      replace hK := hK.trans hk
      replace hL_s_On := hL_s_On.kp hk
      replace hL_s_Off := hL_s_Off.kp hk
      replace hL_raw_Sources := hL_raw_Sources.kp hk
      replace hL_1 := hL_1.kp hk
      replace hL_2 := hL_2.kp hk
      replace hL_3 := hL_3.kp hk
      replace hL_5 := hL_5.kp hk
      replace hL_9 := hL_9.kp hk
      refine HA.one (k := 20) ⟨⟨(hS.box 1 rfl), (hS.box 3 rfl), (hS.box 5 rfl)⟩, (at_done (by kernel_rfl) (Go.Wk.at_nil _ _))⟩ (by kernel_rfl) ?_
      refine HS.call rfl (want_by rfl rfl c_2) rfl (ec en_27 rfl rfl) (ref11_Same_walk (fr := (Ow.own 27 17 e_api_Addr vr_1_3 r_1_3 :: Ow.box b_4 24 #[.bool r_0_3, vr_1_3] :: Ow.own 27 17 e_api_Addr vr_2_2 r_2_2 :: Ow.box b_3 27 (e_api_Addr a).toArray :: Ow.box b_2 24 #[.bool raw_Exclude, vraw_Sources] :: Ow.box b_1 35 #[.bool r_0_1, vr_1_1, vr_2_1] :: fr)) r_7 r_2 vr_2 vr_1 hS hL_10 hL_9 hM) ?_
      rintro _ h_17 ⟨F_17, r_8, rfl, hk, hS, _, _, hM⟩
      replace hK := hK.trans hk
      replace hL_s_On := hL_s_On.kp hk
      replace hL_s_Off := hL_s_Off.kp hk
      replace hL_raw_Sources := hL_raw_Sources.kp hk
      replace hL_1 := hL_1.kp hk
      replace hL_2 := hL_2.kp hk
      replace hL_3 := hL_3.kp hk
      replace hL_5 := hL_5.kp hk
      replace hL_9 := hL_9.kp hk
      replace hL_10 := hL_10.kp hk
      refine HA.val (k := 21) (v := .bool (r_6 == r_8)) rfl rfl (by kernel_rfl) (by kernel_rfl) (want_by rfl rfl c_2) rfl (fun _ ⟨c207, c203, c201⟩ => q_eqlB Tryd.underlying4 rfl rfl) ?_
      refine HA.val (k := 22) (v := .bool (r_6 == r_8)) rfl rfl (by kernel_rfl) (by kernel_rfl) (want_none) rfl (fun _ ⟨c207, c203, c201⟩ => q_pickK true rfl c_2 rfl) ?_
      refine HA.val (k := 23) (v := .bool (r_6 == r_8)) rfl rfl (by kernel_rfl) (by kernel_rfl) (want_none) rfl (fun _ ⟨c207, c203, c201⟩ => q_move rfl) ?_
      rcases Bool.eq_false_or_eq_true (r_6 == r_8) with c_3 | c_3
      · replace hM := hM.1 c_3
        refine HA.one (k := 24) ⟨⟨(hS.box 1 rfl), (hS.box 3 rfl), (hS.box 5 rfl)⟩, (at_done (by kernel_rfl) (Go.Wk.at_nil _ _))⟩ (by kernel_rfl) ?_
        refine HS.call rfl (want_by rfl rfl c_3) rfl (ec en_16 rfl rfl) (law19_lives_walk (fr := (Ow.own 27 17 e_api_Addr vr_1_3 r_1_3 :: Ow.box b_4 24 #[.bool r_0_3, vr_1_3] :: Ow.own 27 17 e_api_Addr vr_2_2 r_2_2 :: Ow.box b_3 27 (e_api_Addr a).toArray :: Ow.box b_2 24 #[.bool raw_Exclude, vraw_Sources] :: Ow.box b_1 35 #[.bool r_0_1, vr_1_1, vr_2_1] :: fr))  hS hD hM) ?_
        rintro _ h_18 ⟨F_18, r_9, rfl, hk, hS, hM⟩
        replace hK := hK.trans hk
        replace hL_s_On := hL_s_On.kp hk
        replace hL_s_Off := hL_s_Off.kp hk
        replace hL_raw_Sources := hL_raw_Sources.kp hk
        replace hL_1 := hL_1.kp hk
        replace hL_2 := hL_2.kp hk
        replace hL_3 := hL_3.kp hk
        replace hL_5 := hL_5.kp hk
        replace hL_9 := hL_9.kp hk
        replace hL_10 := hL_10.kp hk
        refine HA.val (k := 25) (v := .bool r_9) rfl rfl (by kernel_rfl) (by kernel_rfl) (want_none) rfl (fun _ ⟨c207, c203, c201⟩ => q_pickK true rfl c_3 rfl) ?_
        refine HA.val (k := 26) (v := .bool r_9) rfl rfl (by kernel_rfl) (by kernel_rfl) (want_none) rfl (fun _ ⟨c207, c203, c201⟩ => q_assign rfl) ?_
        refine HA.nil ⟨⟨(hS.box 1 rfl), (hS.box 3 rfl), (hS.box 5 rfl)⟩, (at_done (by kernel_rfl) (Go.Wk.at_nil _ _))⟩ (by kernel_rfl) (thenQ_normal (?_))
        refine HW.ret (?_)
        refine ⟨.inr rfl, .bool r_9, res1 rfl (rt rfl), ?_⟩
        replace hS : St F_18 (fr) h_18 := hS.perm2 [] 6 rfl rfl
        exact ⟨F_18, r_9, rfl, hK, hS, hL_s_On, hL_s_Off, hL_raw_Sources, hM⟩
      · replace hM := hM.2 c_3
        refine HA.one (k := 24) ⟨⟨(hS.box 1 rfl), (hS.box 3 rfl), (hS.box 5 rfl)⟩, (at_done (by kernel_rfl) (Go.Wk.at_nil _ _))⟩ (by kernel_rfl) ?_
        refine HS.past rfl (past_by rfl rfl c_3) rfl ?_
        refine HA.val (k := 25) (v := .bool false) rfl rfl (by kernel_rfl) (by kernel_rfl) (want_none) rfl (fun _ ⟨c207, c203, c201⟩ => q_pickK false rfl c_3 rfl) ?_
        refine HA.val (k := 26) (v := .bool false) rfl rfl (by kernel_rfl) (by kernel_rfl) (want_none) rfl (fun _ ⟨c207, c203, c201⟩ => q_assign rfl) ?_
        refine HA.nil ⟨⟨(hS.box 1 rfl), (hS.box 3 rfl), (hS.box 5 rfl)⟩, (at_done (by kernel_rfl) (Go.Wk.at_nil _ _))⟩ (by kernel_rfl) (thenQ_normal (?_))
        refine HW.ret (?_)
        refine ⟨.inr rfl, .bool false, res1 rfl (rt rfl), ?_⟩
        replace hS : St F_17 (fr) h_17 := hS.perm2 [] 6 rfl rfl
        exact ⟨F_17, false, rfl, hK, hS, hL_s_On, hL_s_Off, hL_raw_Sources, hM⟩
    · replace hM := hM.2 c_2
      refine HA.past (k := 14) rfl rfl (by kernel_rfl) (by kernel_rfl) (past_by rfl rfl c_2) rfl ?_
      refine HA.past (k := 15) rfl rfl (by kernel_rfl) (by kernel_rfl) (past_by rfl rfl c_2) rfl ?_
      refine HA.past (k := 17) rfl rfl (by kernel_rfl) (by kernel_rfl) (past_by rfl rfl c_2) rfl ?_
      refine HA.past (k := 19) rfl rfl (by kernel_rfl) (by kernel_rfl) (past_by rfl rfl c_2) rfl ?_
      refine HA.one (k := 16) ⟨⟨(hS.box 2 rfl), (hS.box 4 rfl), (hS.box 6 rfl)⟩, (at_now (hS.own 1 rfl) (Go.Wk.at_nil _ _))⟩ (by kernel_rfl) ?_
      refine HS.past rfl (past_by rfl rfl c_2) rfl ?_
      refine HA.one (k := 18) ⟨⟨(hS.box 2 rfl), (hS.box 4 rfl), (hS.box 6 rfl)⟩, (at_now (hS.own 1 rfl) (Go.Wk.at_nil _ _))⟩ (by kernel_rfl) ?_
      refine HS.past rfl (past_by rfl rfl c_2) rfl ?_
      refine HA.one (k := 20) ⟨⟨(hS.box 2 rfl), (hS.box 4 rfl), (hS.box 6 rfl)⟩, (at_done (by kernel_rfl) (Go.Wk.at_nil _ _))⟩ (by kernel_rfl) ?_
      refine HS.past rfl (past_by rfl rfl c_2) rfl ?_
      refine HA.past (k := 21) rfl rfl (by kernel_rfl) (by kernel_rfl) (past_by rfl rfl c_2) rfl ?_
      refine HA.val (k := 22) (v := .bool false) rfl rfl (by kernel_rfl) (by kernel_rfl) (want_none) rfl (fun _ ⟨c207, c203, c201⟩ => q_pickK false rfl c_2 rfl) ?_
      refine HA.val (k := 23) (v := .bool false) rfl rfl (by kernel_rfl) (by kernel_rfl) (want_none) rfl (fun _ ⟨c207, c203, c201⟩ => q_move rfl) ?_
      refine HA.one (k := 24) ⟨⟨(hS.box 2 rfl), (hS.box 4 rfl), (hS.box 6 rfl)⟩, (at_done (by kernel_rfl) (Go.Wk.at_nil _ _))⟩ (by kernel_rfl) ?_
      refine HS.past rfl (past_some rfl rfl) rfl ?_
      refine HA.val (k := 25) (v := .bool false) rfl rfl (by kernel_rfl) (by kernel_rfl) (want_none) rfl (fun _ ⟨c207, c203, c201⟩ => q_pick rfl rfl) ?_
      refine HA.val (k := 26) (v := .bool false) rfl rfl (by kernel_rfl) (by kernel_rfl) (want_none) rfl (fun _ ⟨c207, c203, c201⟩ => q_assign rfl) ?_
      refine HA.nil ⟨⟨(hS.box 2 rfl), (hS.box 4 rfl), (hS.box 6 rfl)⟩, (at_done (by kernel_rfl) (Go.Wk.at_nil _ _))⟩ (by kernel_rfl) (thenQ_normal (?_))
      refine HW.ret (?_)
      refine ⟨.inr rfl, .bool false, res1 rfl (rt rfl), ?_⟩
      replace hS : St F_12 (fr) h_14 := hS.perm2 [] 7 rfl rfl
      exact ⟨F_12, false, rfl, hK, hS, hL_s_On, hL_s_Off, hL_raw_Sources, hM⟩
  · replace hM := hM.2 c_1
    refine HA.past (k := 5) rfl rfl (by kernel_rfl) (by kernel_rfl) (past_by rfl rfl c_1) rfl ?_
    refine HA.past (k := 6) rfl rfl (by kernel_rfl) (by kernel_rfl) (past_by rfl rfl c_1) rfl ?_
    refine HA.past (k := 8) rfl rfl (by kernel_rfl) (by kernel_rfl) (past_by rfl rfl c_1) rfl ?_
    refine HA.past (k := 9) rfl rfl (by kernel_rfl) (by kernel_rfl) (past_by rfl rfl c_1) rfl ?_
    refine HA.one (k := 7) ⟨⟨(hS.box 2 rfl), (hS.box 4 rfl), (hS.box 6 rfl)⟩, (at_now (hS.own 1 rfl) (Go.Wk.at_nil _ _))⟩ (by kernel_rfl) ?_
    refine HS.past rfl (past_by rfl rfl c_1) rfl ?_
    refine HA.one (k := 10) ⟨⟨(hS.box 2 rfl), (hS.box 4 rfl), (hS.box 6 rfl)⟩, (at_now (hS.own 1 rfl) (Go.Wk.at_nil _ _))⟩ (by kernel_rfl) ?_
    refine HS.past rfl (past_by rfl rfl c_1) rfl ?_
    refine HA.past (k := 11) rfl rfl (by kernel_rfl) (by kernel_rfl) (past_by rfl rfl c_1) rfl ?_
    refine HA.val (k := 12) (v := .bool false) rfl rfl (by kernel_rfl) (by kernel_rfl) (want_none) rfl (fun _ ⟨c207, c203, c201⟩ => q_pickK false rfl c_1 rfl) ?_
    refine HA.val (k := 13) (v := .bool false) rfl rfl (by kernel_rfl) (by kernel_rfl) (want_none) rfl (fun _ ⟨c207, c203, c201⟩ => q_move rfl) ?_
    refine HA.past (k := 14) rfl rfl (by kernel_rfl) (by kernel_rfl) (past_some rfl rfl) rfl ?_
    refine HA.past (k := 15) rfl rfl (by kernel_rfl) (by kernel_rfl) (past_some rfl rfl) rfl ?_
    refine HA.past (k := 17) rfl rfl (by kernel_rfl) (by kernel_rfl) (past_some rfl rfl) rfl ?_
    refine HA.past (k := 19) rfl rfl (by kernel_rfl) (by kernel_rfl) (past_some rfl rfl) rfl ?_
    refine HA.one (k := 16) ⟨⟨(hS.box 2 rfl), (hS.box 4 rfl), (hS.box 6 rfl)⟩, (at_now (hS.own 1 rfl) (Go.Wk.at_nil _ _))⟩ (by kernel_rfl) ?_
    refine HS.past rfl (past_some rfl rfl) rfl ?_
    refine HA.one (k := 18) ⟨⟨(hS.box 2 rfl), (hS.box 4 rfl), (hS.box 6 rfl)⟩, (at_now (hS.own 1 rfl) (Go.Wk.at_nil _ _))⟩ (by kernel_rfl) ?_
    refine HS.past rfl (past_some rfl rfl) rfl ?_
    refine HA.one (k := 20) ⟨⟨(hS.box 2 rfl), (hS.box 4 rfl), (hS.box 6 rfl)⟩, (at_done (by kernel_rfl) (Go.Wk.at_nil _ _))⟩ (by kernel_rfl) ?_
    refine HS.past rfl (past_some rfl rfl) rfl ?_
    refine HA.past (k := 21) rfl rfl (by kernel_rfl) (by kernel_rfl) (past_some rfl rfl) rfl ?_
    refine HA.val (k := 22) (v := .bool false) rfl rfl (by kernel_rfl) (by kernel_rfl) (want_none) rfl (fun _ ⟨c207, c203, c201⟩ => q_pick rfl rfl) ?_
    refine HA.val (k := 23) (v := .bool false) rfl rfl (by kernel_rfl) (by kernel_rfl) (want_none) rfl (fun _ ⟨c207, c203, c201⟩ => q_move rfl) ?_
    refine HA.one (k := 24) ⟨⟨(hS.box 2 rfl), (hS.box 4 rfl), (hS.box 6 rfl)⟩, (at_done (by kernel_rfl) (Go.Wk.at_nil _ _))⟩ (by kernel_rfl) ?_
    refine HS.past rfl (past_some rfl rfl) rfl ?_
    refine HA.val (k := 25) (v := .bool false) rfl rfl (by kernel_rfl) (by kernel_rfl) (want_none) rfl (fun _ ⟨c207, c203, c201⟩ => q_pick rfl rfl) ?_
    refine HA.val (k := 26) (v := .bool false) rfl rfl (by kernel_rfl) (by kernel_rfl) (want_none) rfl (fun _ ⟨c207, c203, c201⟩ => q_assign rfl) ?_
    refine HA.nil ⟨⟨(hS.box 2 rfl), (hS.box 4 rfl), (hS.box 6 rfl)⟩, (at_done (by kernel_rfl) (Go.Wk.at_nil _ _))⟩ (by kernel_rfl) (thenQ_normal (?_))
    refine HW.ret (?_)
    refine ⟨.inr rfl, .bool false, res1 rfl (rt rfl), ?_⟩
    replace hS : St F_9 (fr) h_12 := hS.perm2 [] 7 rfl rfl
    exact ⟨F_9, false, rfl, hK, hS, hL_s_On, hL_s_Off, hL_raw_Sources, hM⟩

def merge_none_W (f_Exclude : Bool) (f_Sources : List T_api_Addr) (Q : Bool → Prop) : Prop :=
  ((!f_Exclude) = true → Q (decide ((f_Sources.length : Int) = 0))) ∧ ((!f_Exclude) = false → Q false)
set_option maxHeartbeats 40000000 in
set_option maxRecDepth 100000 in
theorem merge_none_walk {F : Fz} {fr : List Ow} {h0 : Heap} (f_Exclude : Bool) (f_Sources : List T_api_Addr) (vf_Sources : Value) (hS : St F (fr) h0) (hL_f_Sources : SliceF F h0 17 e_api_Addr vf_Sources f_Sources) {Q : Bool → Prop} (hM : merge_none_W f_Exclude f_Sources Q) :
    HC Tryd.prog 54 #[.agg #[.bool f_Exclude, vf_Sources]] h0 fun u h' => ∃ (F' : Fz) (r_1 : Bool), u = .bool r_1 ∧ Kp F h0 F' h' ∧ St F' (fr) h' ∧ (SliceF F' h' 17 e_api_Addr vf_Sources f_Sources) ∧ Q r_1 := by
  unfold merge_none_W at hM
  have hK := Kp.refl F h0
  refine HC.of_HW (n := 12) Tryd.func54 rfl rfl (Nat.le_of_ble_eq_true rfl) ?_
  refine HW.seq ?_
  refine HW.region ?_
  refine HO.eff (want_none) rfl (st_box (c := #[.bool f_Exclude, vf_Sources]) (k' := 2) hS rfl rfl) ?_
  rintro _ h_1 ⟨b_1, rfl, hS, hk⟩
  replace hK := hK.trans hk
  replace hL_f_Sources := hL_f_Sources.kp hk
  refine HO.val (v := .bool false) (want_none) rfl (q_assign rfl) ?_
  refine HO.nil (thenQ_normal (?_))
  refine HW.seq ?_
  refine HW.region ?_
  refine HO.val (v := .pointer (some ⟨b_1, 0, none⟩)) (want_none) rfl (q_fieldAddr fa_24_0 rfl rfl) ?_
  refine HO.val (v := .bool f_Exclude) (want_none) rfl (q_load to_4 rfl (Blk.cell (hS.box 0 rfl) rfl)) ?_
  refine HO.val (v := .bool (!f_Exclude)) (want_none) rfl (q_not rfl) ?_
  refine HO.val (v := .bool (!f_Exclude)) (want_none) rfl (q_move rfl) ?_
  rcases Bool.eq_false_or_eq_true (!f_Exclude) with c_1 | c_1
  · replace hM := hM.1 c_1
    refine HO.val (v := .pointer (some ⟨b_1, 1, none⟩)) (want_by rfl rfl c_1) rfl (q_fieldAddr fa_24_1 rfl rfl) ?_
    refine HO.val (v := vf_Sources) (want_by rfl rfl c_1) rfl (q_load to_22 rfl (Blk.cell (hS.box 0 rfl) rfl)) ?_
    refine HO.val (v := .int .i64 (f_Sources.length : Int)) (want_by rfl rfl c_1) rfl (q_len ts_22 (shp hL_f_Sources.is) rfl rfl) ?_
    refine HO.val (v := .bool (decide ((f_Sources.length : Int) = 0))) (want_by rfl rfl c_1) rfl (q_eql rfl rfl) ?_
    refine HO.val (v := .bool (decide ((f_Sources.length : Int) = 0))) (want_none) rfl (q_pickK true rfl c_1 rfl) ?_
    refine HO.val (v := .bool (decide ((f_Sources.length : Int) = 0))) (want_none) rfl (q_assign rfl) ?_
    refine HO.nil (thenQ_normal (?_))
    refine HW.ret (?_)
    refine ⟨.inr rfl, .bool (decide ((f_Sources.length : Int) = 0)), res1 rfl (rt rfl), ?_⟩
    replace hS : St F (fr) h_1 := hS.perm2 [] 1 rfl rfl
    exact ⟨F, decide ((f_Sources.length : Int) = 0), rfl, hK, hS, hL_f_Sources, hM⟩
  · replace hM := hM.2 c_1
    refine HO.past (past_by rfl rfl c_1) rfl ?_
    refine HO.past (past_by rfl rfl c_1) rfl ?_
    refine HO.past (past_by rfl rfl c_1) rfl ?_
    refine HO.past (past_by rfl rfl c_1) rfl ?_
    refine HO.val (v := .bool false) (want_none) rfl (q_pickK false rfl c_1 rfl) ?_
    refine HO.val (v := .bool false) (want_none) rfl (q_assign rfl) ?_
    refine HO.nil (thenQ_normal (?_))
    refine HW.ret (?_)
    refine ⟨.inr rfl, .bool false, res1 rfl (rt rfl), ?_⟩
    replace hS : St F (fr) h_1 := hS.perm2 [] 1 rfl rfl
    exact ⟨F, false, rfl, hK, hS, hL_f_Sources, hM⟩

def merge_Current_j1 (g : T_api_Addr) (f_Exclude : Bool) (Q : Int → Bool → (Ba 16) → (List T_api_Addr) → Bool → Prop) (out_18_1 : List T_api_Addr) : Prop :=
  (f_Exclude = true → Q 2 g.1 g.2 out_18_1 true) ∧ (f_Exclude = false → Q 1 g.1 g.2 out_18_1 true)
def merge_Current_W (g : T_api_Addr) (f_Exclude : Bool) (f_Sources : List T_api_Addr) (Q : Int → Bool → (Ba 16) → (List T_api_Addr) → Bool → Prop) : Prop :=
  merge_none_W f_Exclude f_Sources (fun r_1 => (r_1 = true → Q 0 false (default : Ba 16) [] false) ∧ (r_1 = false → slices_Clone_s_api_Addr_api_Addr_W f_Sources (fun r_2 => merge_Current_j1 g f_Exclude Q r_2)))
set_option maxHeartbeats 40000000 in
set_option maxRecDepth 100000 in
theorem merge_Current_walk {F : Fz} {fr : List Ow} {h0 : Heap} (g : T_api_Addr) (f_Exclude : Bool) (f_Sources : List T_api_Addr) (vf_Sources : Value) (hS : St F (fr) h0) (hL_f_Sources : SliceF F h0 17 e_api_Addr vf_Sources f_Sources) {Q : Int → Bool → (Ba 16) → (List T_api_Addr) → Bool → Prop} (hM : merge_Current_W g f_Exclude f_Sources Q) :
    HC Tryd.prog 29 #[.agg (e_api_Addr g).toArray, .agg #[.bool f_Exclude, vf_Sources]] h0 fun u h' => ∃ (F' : Fz) (r0_0_1 : Int) (r0_1_1 : Bool) (r0_2_1 : Ba 16) (r0_18_1 : List T_api_Addr) (r1_1 : Bool) (vr0_18_1 : Value), u = .tuple #[.agg (c_api_Record (.int .i64 r0_0_1) (r0_1_1, r0_2_1) vr0_18_1).toArray, .bool r1_1] ∧ Kp F h0 F' h' ∧ St F' (Ow.own 27 17 e_api_Addr vr0_18_1 r0_18_1 :: fr) h' ∧ (SliceF F' h' 17 e_api_Addr vf_Sources f_Sources) ∧ Q r0_0_1 r0_1_1 r0_2_1 r0_18_1 r1_1 := by
  unfold merge_Current_W at hM
  have hK := Kp.refl F h0
  refine HC.of_HW (n := 19) Tryd.func29 rfl rfl (Nat.le_of_ble_eq_true rfl) ?_
  refine HW.seq ?_
  refine HW.region ?_
  refine HO.eff (want_none) rfl (st_box (c := (e_api_Addr g).toArray) (k' := 17) hS rfl rfl) ?_
  rintro _ h_1 ⟨b_1, rfl, hS, hk⟩
  replace hK := hK.trans hk
  replace hL_f_Sources := hL_f_Sources.kp hk
  refine HO.eff (want_none) rfl (st_box (c := #[.bool f_Exclude, vf_Sources]) (k' := 2) hS rfl rfl) ?_
  rintro _ h_2 ⟨b_2, rfl, hS, hk⟩
  replace hK := hK.trans hk
  replace hL_f_Sources := hL_f_Sources.kp hk
  refine HO.eff (want_none) rfl (st_alloc (c := (c_api_Record (.int .i64 0) (false, (default : Ba 16)) (.slice none 0 0)).toArray) hS tz_40 rfl) ?_
  rintro _ h_3 ⟨b_3, rfl, hS, hk⟩
  replace hK := hK.trans hk
  replace hL_f_Sources := hL_f_Sources.kp hk
  refine HO.val (v := .bool false) (want_none) rfl (q_assign rfl) ?_
  refine HO.nil (thenQ_normal (?_))
  refine HW.seq ?_
  refine HW.seq ?_
  refine HW.region ?_
  refine HO.val (v := .agg #[.bool f_Exclude, vf_Sources]) (want_none) rfl (q_loadAgg (cs := [.bool f_Exclude, vf_Sources]) ta_24 rfl rfl (Blk.cells (k := 2) (hS.box 1 rfl) rfl)) ?_
  refine HO.call (want_none) rfl (ec en_54 rfl rfl) (merge_none_walk (fr := (Ow.box b_3 40 (c_api_Record (.int .i64 0) (false, (default : Ba 16)) (.slice none 0 0)).toArray :: Ow.box b_2 24 #[.bool f_Exclude, vf_Sources] :: Ow.box b_1 27 (e_api_Addr g).toArray :: fr)) f_Exclude f_Sources vf_Sources hS hL_f_Sources hM) ?_
  rintro _ h_4 ⟨F_1, r_1, rfl, hk, hS, _, hM⟩
  replace hK := hK.trans hk
  replace hL_f_Sources := hL_f_Sources.kp hk
  refine HO.nil (thenQ_normal (?_))
  refine HW.cond r_1 rfl (fun c_1 => ?_) (fun c_1 => ?_)
  · replace hM := hM.1 c_1
    refine HW.seq ?_
    refine HW.region ?_
    refine HO.val (v := .agg (c_api_Record (.int .i64 0) (false, (default : Ba 16)) (.slice none 0 0)).toArray) (want_none) rfl (q_build tp_40 rfl) ?_
    refine HO.sto (want_none) rfl (st_storeAgg (c' := (c_api_Record (.int .i64 0) (false, (default : Ba 16)) (.slice none 0 0)).toArray) hS (i := 0) rfl ta_40 rfl rfl rfl (List.forall_mem_cons.2 ⟨rfl, (List.forall_mem_cons.2 ⟨rfl, (List.forall_mem_cons.2 ⟨rfl, (List.forall_mem_cons.2 ⟨rfl, (List.forall_mem_cons.2 ⟨rfl, (List.forall_mem_cons.2 ⟨rfl, (List.forall_mem_cons.2 ⟨rfl, (List.forall_mem_cons.2 ⟨rfl, (List.forall_mem_cons.2 ⟨rfl, (List.forall_mem_cons.2 ⟨rfl, (List.forall_mem_cons.2 ⟨rfl, (List.forall_mem_cons.2 ⟨rfl, (List.forall_mem_cons.2 ⟨rfl, (List.forall_mem_cons.2 ⟨rfl, (List.forall_mem_cons.2 ⟨rfl, (List.forall_mem_cons.2 ⟨rfl, (List.forall_mem_cons.2 ⟨rfl, (List.forall_mem_cons.2 ⟨rfl, (List.forall_mem_cons.2 ⟨rfl, (fun _ h => by cases h)⟩)⟩)⟩)⟩)⟩)⟩)⟩)⟩)⟩)⟩)⟩)⟩)⟩)⟩)⟩)⟩)⟩)⟩)⟩) (Nat.le_of_ble_eq_true rfl) rfl) ?_
    rintro h_5 ⟨hS, hk⟩
    replace hS : St F_1 (Ow.box b_3 40 (c_api_Record (.int .i64 0) (false, (default : Ba 16)) (.slice none 0 0)).toArray :: Ow.box b_2 24 #[.bool f_Exclude, vf_Sources] :: Ow.box b_1 27 (e_api_Addr g).toArray :: fr) h_5 := hS
    replace hK := hK.trans hk
    replace hL_f_Sources := hL_f_Sources.kp hk
    refine HO.val (v := .bool false) (want_none) rfl (q_assign rfl) ?_
    refine HO.nil (thenQ_normal (?_))
    refine HW.ret (thenQ_ret (?_))
    refine ⟨.inr rfl, .tuple #[.agg (c_api_Record (.int .i64 0) (false, (default : Ba 16)) (.slice none 0 0)).toArray, .bool false], res2 rfl (rca (cs := (c_api_Record (.int .i64 0) (false, (default : Ba 16)) (.slice none 0 0))) ta_40 rfl rfl (Blk.cells (k := 19) (hS.box 0 rfl) rfl)) (rt rfl), ?_⟩
    replace hS := hS.nilOwn 27 17 e_api_Addr
    replace hS : St F_1 (Ow.own 27 17 e_api_Addr (.slice none 0 0) ([] : List T_api_Addr) :: fr) h_5 := hS.perm2 [0] 4 rfl rfl
    exact ⟨F_1, 0, false, (default : Ba 16), [], false, .slice none 0 0, rfl, hK, hS, hL_f_Sources, hM⟩
  · replace hM := hM.2 c_1
    refine HW.skip (thenQ_normal (?_))
    refine HW.seq_mid (fun f h => ∃ (F' : Fz) (out_18_1 : List T_api_Addr) (b_4 : Nat) (vout_18_1 : Value), f 3 = .pointer (some ⟨b_2, 0, none⟩) ∧ f 4 = .pointer (some ⟨b_3, 0, none⟩) ∧ f 5 = .bool false ∧ f 6 = .pointer (some ⟨b_4, 0, none⟩) ∧ Kp F h0 F' h ∧ St F' (Ow.box b_2 24 #[.bool f_Exclude, vf_Sources] :: Ow.box b_3 40 (c_api_Record (.int .i64 0) (false, (default : Ba 16)) (.slice none 0 0)).toArray :: Ow.box b_4 40 (c_api_Record (.int .i64 1) g vout_18_1).toArray :: Ow.own 27 17 e_api_Addr vout_18_1 out_18_1 :: fr) h ∧ (SliceF F' h 17 e_api_Addr vf_Sources f_Sources) ∧ merge_Current_j1 g f_Exclude Q out_18_1) ?_ ?_
    · refine HW.regionA 7 mixed (fun h => (Blk h b_2 (.cells #[.bool f_Exclude, vf_Sources] 24 (0, 0))) ∧ (Blk h b_1 (.cells (e_api_Addr g).toArray 27 (0, 0)))) [] (by kernel_rfl) ?_
      refine HA.val (k := 0) (v := .agg (e_api_Addr g).toArray) rfl rfl (by kernel_rfl) (by kernel_rfl) (want_none) rfl (fun _ ⟨c203, c202⟩ => q_loadAgg (cs := (e_api_Addr g)) ta_27 rfl rfl (Blk.cells (k := 17) c202 rfl)) ?_
      refine HA.val (k := 1) (v := .pointer (some ⟨b_2, 1, none⟩)) rfl rfl (by kernel_rfl) (by kernel_rfl) (want_none) rfl (fun _ ⟨c203, c202⟩ => q_fieldAddr fa_24_1 rfl rfl) ?_
      refine HA.val (k := 2) (v := vf_Sources) rfl rfl (by kernel_rfl) (by kernel_rfl) (want_none) rfl (fun _ ⟨c203, c202⟩ => q_load to_22 rfl (Blk.cell c203 rfl)) ?_
      refine HA.two (k := 3) (k' := 5) ⟨⟨(hS.box 1 rfl), (hS.box 2 rfl)⟩, (Go.Wk.at_nil _ _)⟩ (by kernel_rfl) ?_ ?_
      · refine HS.call rfl (want_none) rfl (ec en_48 rfl rfl) (slices_Clone_s_api_Addr_api_Addr_walk (fr := (Ow.box b_3 40 (c_api_Record (.int .i64 0) (false, (default : Ba 16)) (.slice none 0 0)).toArray :: Ow.box b_2 24 #[.bool f_Exclude, vf_Sources] :: Ow.box b_1 27 (e_api_Addr g).toArray :: fr)) f_Sources vf_Sources hS hL_f_Sources hM) ?_
        rintro vr_1 h_6 ⟨F_2, r_2, _, rfl, hk, hS, _, hM⟩
        replace hK := hK.trans hk
        replace hL_f_Sources := hL_f_Sources.kp hk
        refine Go.Wk.HA.re (fun h => (OwnIs h 0 27 17 e_api_Addr vr_1 r_2) ∧ (Blk h b_2 (.cells #[.bool f_Exclude, vf_Sources] 24 (0, 0))) ∧ (Blk h b_1 (.cells (e_api_Addr g).toArray 27 (0, 0)))) [] (fun L_ h_ hL_ ⟨c227, c203, c202⟩ hs_ => ⟨⟨c203, c202⟩, (Go.Wk.at_nil _ _)⟩) ?_
        refine HA.val (k := 4) (v := .agg (c_api_Record (.int .i64 1) g vr_1).toArray) rfl rfl (by kernel_rfl) (by kernel_rfl) (want_none) rfl (fun _ ⟨c227, c203, c202⟩ => q_build tp_40 (fill_cons (cs' := (c_api_Record (.int .i64 1) (false, (default : Ba 16)) (.slice none 0 0)).toArray) (vc := #[.int .i64 1]) rfl rfl rfl (Nat.le_of_ble_eq_true rfl) rfl (fill_cons (cs' := (c_api_Record (.int .i64 1) g (.slice none 0 0)).toArray) (vc := (e_api_Addr g).toArray) rfl rfl rfl (Nat.le_of_ble_eq_true rfl) rfl (fill_cons (cs' := (c_api_Record (.int .i64 1) g vr_1).toArray) (vc := #[vr_1]) rfl (shp c227.slice).cells rfl (Nat.le_of_ble_eq_true rfl) rfl rfl)))) ?_
        refine HA.one (k := 5) ⟨⟨(hS.own 0 rfl), (hS.box 2 rfl), (hS.box 3 rfl)⟩, (Go.Wk.at_nil _ _)⟩ (by kernel_rfl) ?_
        refine HS.eff rfl (want_none) rfl (st_alloc (c := (c_api_Record (.int .i64 0) (false, (default : Ba 16)) (.slice none 0 0)).toArray) hS tz_40 rfl) ?_
        rintro _ h_7 ⟨b_5, rfl, hS, hk⟩
        replace hK := hK.trans hk
        replace hL_f_Sources := hL_f_Sources.kp hk
        refine HA.one (k := 6) ⟨⟨(hS.own 1 rfl), (hS.box 3 rfl), (hS.box 4 rfl)⟩, (Go.Wk.at_nil _ _)⟩ (by kernel_rfl) ?_
        refine HS.sto rfl (want_none) rfl (st_storeAgg (c' := (c_api_Record (.int .i64 1) g vr_1).toArray) hS (i := 0) rfl ta_40 rfl rfl rfl (List.forall_mem_cons.2 ⟨rfl, (List.forall_mem_cons.2 ⟨rfl, (List.forall_mem_cons.2 ⟨rfl, (List.forall_mem_cons.2 ⟨rfl, (List.forall_mem_cons.2 ⟨rfl, (List.forall_mem_cons.2 ⟨rfl, (List.forall_mem_cons.2 ⟨rfl, (List.forall_mem_cons.2 ⟨rfl, (List.forall_mem_cons.2 ⟨rfl, (List.forall_mem_cons.2 ⟨rfl, (List.forall_mem_cons.2 ⟨rfl, (List.forall_mem_cons.2 ⟨rfl, (List.forall_mem_cons.2 ⟨rfl, (List.forall_mem_cons.2 ⟨rfl, (List.forall_mem_cons.2 ⟨rfl, (List.forall_mem_cons.2 ⟨rfl, (List.forall_mem_cons.2 ⟨rfl, (List.forall_mem_cons.2 ⟨rfl, (List.forall_mem_cons.2 ⟨(shp (hS.own 1 rfl).slice).one, (fun _ h => by cases h)⟩)⟩)⟩)⟩)⟩)⟩)⟩)⟩)⟩)⟩)⟩)⟩)⟩)⟩)⟩)⟩)⟩)⟩)⟩) (Nat.le_of_ble_eq_true rfl) rfl) ?_
        rintro h_8 ⟨hS, hk⟩
        replace hS : St F_2 (Ow.box b_5 40 (c_api_Record (.int .i64 1) g vr_1).toArray :: Ow.own 27 17 e_api_Addr vr_1 r_2 :: Ow.box b_3 40 (c_api_Record (.int .i64 0) (false, (default : Ba 16)) (.slice none 0 0)).toArray :: Ow.box b_2 24 #[.bool f_Exclude, vf_Sources] :: Ow.box b_1 27 (e_api_Addr g).toArray :: fr) h_8 := hS
        replace hK := hK.trans hk
        replace hL_f_Sources := hL_f_Sources.kp hk
        refine HA.nil ⟨⟨(hS.own 1 rfl), (hS.box 3 rfl), (hS.box 4 rfl)⟩, (Go.Wk.at_nil _ _)⟩ (by kernel_rfl) (thenQ_normal (?_))
        replace hS : St F_2 (Ow.box b_2 24 #[.bool f_Exclude, vf_Sources] :: Ow.box b_3 40 (c_api_Record (.int .i64 0) (false, (default : Ba 16)) (.slice none 0 0)).toArray :: Ow.box b_5 40 (c_api_Record (.int .i64 1) g vr_1).toArray :: Ow.own 27 17 e_api_Addr vr_1 r_2 :: fr) h_8 := hS.perm2 [3, 2, 0, 1] 5 rfl rfl
        exact ⟨F_2, r_2, b_5, vr_1, rfl, rfl, rfl, rfl, hK, hS, hL_f_Sources, hM⟩
      · refine HS.eff rfl (want_none) rfl (st_alloc (c := (c_api_Record (.int .i64 0) (false, (default : Ba 16)) (.slice none 0 0)).toArray) hS tz_40 rfl) ?_
        rintro _ h_6 ⟨b_5, rfl, hS, hk⟩
        replace hK := hK.trans hk
        replace hL_f_Sources := hL_f_Sources.kp hk
        refine HA.one (k := 3) ⟨⟨(hS.box 2 rfl), (hS.box 3 rfl)⟩, (Go.Wk.at_nil _ _)⟩ (by kernel_rfl) ?_
        refine HS.call rfl (want_none) rfl (ec en_48 rfl rfl) (slices_Clone_s_api_Addr_api_Addr_walk (fr := (Ow.box b_5 40 (c_api_Record (.int .i64 0) (false, (default : Ba 16)) (.slice none 0 0)).toArray :: Ow.box b_3 40 (c_api_Record (.int .i64 0) (false, (default : Ba 16)) (.slice none 0 0)).toArray :: Ow.box b_2 24 #[.bool f_Exclude, vf_Sources] :: Ow.box b_1 27 (e_api_Addr g).toArray :: fr)) f_Sources vf_Sources hS hL_f_Sources hM) ?_
        rintro vr_1 h_7 ⟨F_2, r_2, _, rfl, hk, hS, _, hM⟩
        replace hK := hK.trans hk
        replace hL_f_Sources := hL_f_Sources.kp hk
        refine Go.Wk.HA.re (fun h => (OwnIs h 0 27 17 e_api_Addr vr_1 r_2) ∧ (Blk h b_2 (.cells #[.bool f_Exclude, vf_Sources] 24 (0, 0))) ∧ (Blk h b_1 (.cells (e_api_Addr g).toArray 27 (0, 0)))) [] (fun L_ h_ hL_ ⟨c227, c203, c202⟩ hs_ => ⟨⟨c203, c202⟩, (Go.Wk.at_nil _ _)⟩) ?_
        refine HA.val (k := 4) (v := .agg (c_api_Record (.int .i64 1) g vr_1).toArray) rfl rfl (by kernel_rfl) (by kernel_rfl) (want_none) rfl (fun _ ⟨c227, c203, c202⟩ => q_build tp_40 (fill_cons (cs' := (c_api_Record (.int .i64 1) (false, (default : Ba 16)) (.slice none 0 0)).toArray) (vc := #[.int .i64 1]) rfl rfl rfl (Nat.le_of_ble_eq_true rfl) rfl (fill_cons (cs' := (c_api_Record (.int .i64 1) g (.slice none 0 0)).toArray) (vc := (e_api_Addr g).toArray) rfl rfl rfl (Nat.le_of_ble_eq_true rfl) rfl (fill_cons (cs' := (c_api_Record (.int .i64 1) g vr_1).toArray) (vc := #[vr_1]) rfl (shp c227.slice).cells rfl (Nat.le_of_ble_eq_true rfl) rfl rfl)))) ?_
        refine HA.one (k := 6) ⟨⟨(hS.own 0 rfl), (hS.box 3 rfl), (hS.box 4 rfl)⟩, (Go.Wk.at_nil _ _)⟩ (by kernel_rfl) ?_
        refine HS.sto rfl (want_none) rfl (st_storeAgg (c' := (c_api_Record (.int .i64 1) g vr_1).toArray) hS (i := 1) rfl ta_40 rfl rfl rfl (List.forall_mem_cons.2 ⟨rfl, (List.forall_mem_cons.2 ⟨rfl, (List.forall_mem_cons.2 ⟨rfl, (List.forall_mem_cons.2 ⟨rfl, (List.forall_mem_cons.2 ⟨rfl, (List.forall_mem_cons.2 ⟨rfl, (List.forall_mem_cons.2 ⟨rfl, (List.forall_mem_cons.2 ⟨rfl, (List.forall_mem_cons.2 ⟨rfl, (List.forall_mem_cons.2 ⟨rfl, (List.forall_mem_cons.2 ⟨rfl, (List.forall_mem_cons.2 ⟨rfl, (List.forall_mem_cons.2 ⟨rfl, (List.forall_mem_cons.2 ⟨rfl, (List.forall_mem_cons.2 ⟨rfl, (List.forall_mem_cons.2 ⟨rfl, (List.forall_mem_cons.2 ⟨rfl, (List.forall_mem_cons.2 ⟨rfl, (List.forall_mem_cons.2 ⟨(shp (hS.own 0 rfl).slice).one, (fun _ h => by cases h)⟩)⟩)⟩)⟩)⟩)⟩)⟩)⟩)⟩)⟩)⟩)⟩)⟩)⟩)⟩)⟩)⟩)⟩)⟩) (Nat.le_of_ble_eq_true rfl) rfl) ?_
        rintro h_8 ⟨hS, hk⟩
        replace hS : St F_2 (Ow.own 27 17 e_api_Addr vr_1 r_2 :: Ow.box b_5 40 (c_api_Record (.int .i64 1) g vr_1).toArray :: Ow.box b_3 40 (c_api_Record (.int .i64 0) (false, (default : Ba 16)) (.slice none 0 0)).toArray :: Ow.box b_2 24 #[.bool f_Exclude, vf_Sources] :: Ow.box b_1 27 (e_api_Addr g).toArray :: fr) h_8 := hS
        replace hK := hK.trans hk
        replace hL_f_Sources := hL_f_Sources.kp hk
        refine HA.nil ⟨⟨(hS.own 0 rfl), (hS.box 3 rfl), (hS.box 4 rfl)⟩, (Go.Wk.at_nil _ _)⟩ (by kernel_rfl) (thenQ_normal (?_))
        replace hS : St F_2 (Ow.box b_2 24 #[.bool f_Exclude, vf_Sources] :: Ow.box b_3 40 (c_api_Record (.int .i64 0) (false, (default : Ba 16)) (.slice none 0 0)).toArray :: Ow.box b_5 40 (c_api_Record (.int .i64 1) g vr_1).toArray :: Ow.own 27 17 e_api_Addr vr_1 r_2 :: fr) h_8 := hS.perm2 [3, 2, 1, 0] 5 rfl rfl
        exact ⟨F_2, r_2, b_5, vr_1, rfl, rfl, rfl, rfl, hK, hS, hL_f_Sources, hM⟩
    · rintro f_1 h_9 ⟨F_3, out_18_1, b_4, vout_18_1, e3, e4, e5, e6, hK, hS, hL_f_Sources, hM⟩
      unfold merge_Current_j1 at hM
      refine HW.fr [(3, .pointer (some ⟨b_2, 0, none⟩)), (4, .pointer (some ⟨b_3, 0, none⟩)), (5, .bool false), (6, .pointer (some ⟨b_4, 0, none⟩))] ⟨e3, e4, e5, e6, trivial⟩ ?_
      refine HW.seq ?_
      refine HW.seq ?_
      refine HW.region ?_
      refine HO.val (v := .pointer (some ⟨b_2, 0, none⟩)) (want_none) rfl (q_fieldAddr fa_24_0 rfl rfl) ?_
      refine HO.val (v := .bool f_Exclude) (want_none) rfl (q_load to_4 rfl (Blk.cell (hS.box 0 rfl) rfl)) ?_
      refine HO.nil (thenQ_normal (?_))
      refine HW.cond f_Exclude rfl (fun c_2 => ?_) (fun c_2 => ?_)
      · replace hM := hM.1 c_2
        refine HW.region ?_
        refine HO.val (v := .pointer (some ⟨b_4, 0, none⟩)) (want_none) rfl (q_fieldAddr fa_40_0 rfl rfl) ?_
        refine HO.sto (want_none) rfl (st_store (c' := (c_api_Record (.int .i64 2) g vout_18_1).toArray) hS (i := 2) rfl to_3 rfl rfl rfl rfl (Nat.le_of_ble_eq_true rfl) rfl) ?_
        rintro h_10 ⟨hS, hk⟩
        replace hS : St F_3 (Ow.box b_2 24 #[.bool f_Exclude, vf_Sources] :: Ow.box b_3 40 (c_api_Record (.int .i64 0) (false, (default : Ba 16)) (.slice none 0 0)).toArray :: Ow.box b_4 40 (c_api_Record (.int .i64 2) g vout_18_1).toArray :: Ow.own 27 17 e_api_Addr vout_18_1 out_18_1 :: fr) h_10 := hS
        replace hK := hK.trans hk
        replace hL_f_Sources := hL_f_Sources.kp hk
        refine HO.nil (thenQ_normal (?_))
        refine HW.seq ?_
        refine HW.region ?_
        refine HO.val (v := .agg (c_api_Record (.int .i64 2) g vout_18_1).toArray) (want_none) rfl (q_loadAgg (cs := (c_api_Record (.int .i64 2) g vout_18_1)) ta_40 rfl rfl (Blk.cells (k := 19) (hS.box 2 rfl) rfl)) ?_
        refine HO.sto (want_none) rfl (st_storeAgg (c' := (c_api_Record (.int .i64 2) g vout_18_1).toArray) hS (i := 1) rfl ta_40 rfl rfl rfl (List.forall_mem_cons.2 ⟨rfl, (List.forall_mem_cons.2 ⟨rfl, (List.forall_mem_cons.2 ⟨rfl, (List.forall_mem_cons.2 ⟨rfl, (List.forall_mem_cons.2 ⟨rfl, (List.forall_mem_cons.2 ⟨rfl, (List.forall_mem_cons.2 ⟨rfl, (List.forall_mem_cons.2 ⟨rfl, (List.forall_mem_cons.2 ⟨rfl, (List.forall_mem_cons.2 ⟨rfl, (List.forall_mem_cons.2 ⟨rfl, (List.forall_mem_cons.2 ⟨rfl, (List.forall_mem_cons.2 ⟨rfl, (List.forall_mem_cons.2 ⟨rfl, (List.forall_mem_cons.2 ⟨rfl, (List.forall_mem_cons.2 ⟨rfl, (List.forall_mem_cons.2 ⟨rfl, (List.forall_mem_cons.2 ⟨rfl, (List.forall_mem_cons.2 ⟨(shp (hS.own 3 rfl).slice).one, (fun _ h => by cases h)⟩)⟩)⟩)⟩)⟩)⟩)⟩)⟩)⟩)⟩)⟩)⟩)⟩)⟩)⟩)⟩)⟩)⟩)⟩) (Nat.le_of_ble_eq_true rfl) rfl) ?_
        rintro h_11 ⟨hS, hk⟩
        replace hS : St F_3 (Ow.box b_2 24 #[.bool f_Exclude, vf_Sources] :: Ow.box b_3 40 (c_api_Record (.int .i64 2) g vout_18_1).toArray :: Ow.box b_4 40 (c_api_Record (.int .i64 2) g vout_18_1).toArray :: Ow.own 27 17 e_api_Addr vout_18_1 out_18_1 :: fr) h_11 := hS
        replace hK := hK.trans hk
        replace hL_f_Sources := hL_f_Sources.kp hk
        refine HO.val (v := .bool true) (want_none) rfl (q_assign rfl) ?_
        refine HO.nil (thenQ_normal (?_))
        refine HW.ret (?_)
        refine ⟨.inr rfl, .tuple #[.agg (c_api_Record (.int .i64 2) g vout_18_1).toArray, .bool true], res2 rfl (rca (cs := (c_api_Record (.int .i64 2) g vout_18_1)) ta_40 rfl rfl (Blk.cells (k := 19) (hS.box 1 rfl) rfl)) (rt rfl), ?_⟩
        replace hS : St F_3 (Ow.own 27 17 e_api_Addr vout_18_1 out_18_1 :: fr) h_11 := hS.perm2 [3] 4 rfl rfl
        exact ⟨F_3, 2, g.1, g.2, out_18_1, true, vout_18_1, rfl, hK, hS, hL_f_Sources, hM⟩
      · replace hM := hM.2 c_2
        refine HW.skip (thenQ_normal (?_))
        refine HW.seq ?_
        refine HW.region ?_
        refine HO.val (v := .agg (c_api_Record (.int .i64 1) g vout_18_1).toArray) (want_none) rfl (q_loadAgg (cs := (c_api_Record (.int .i64 1) g vout_18_1)) ta_40 rfl rfl (Blk.cells (k := 19) (hS.box 2 rfl) rfl)) ?_
        refine HO.sto (want_none) rfl (st_storeAgg (c' := (c_api_Record (.int .i64 1) g vout_18_1).toArray) hS (i := 1) rfl ta_40 rfl rfl rfl (List.forall_mem_cons.2 ⟨rfl, (List.forall_mem_cons.2 ⟨rfl, (List.forall_mem_cons.2 ⟨rfl, (List.forall_mem_cons.2 ⟨rfl, (List.forall_mem_cons.2 ⟨rfl, (List.forall_mem_cons.2 ⟨rfl, (List.forall_mem_cons.2 ⟨rfl, (List.forall_mem_cons.2 ⟨rfl, (List.forall_mem_cons.2 ⟨rfl, (List.forall_mem_cons.2 ⟨rfl, (List.forall_mem_cons.2 ⟨rfl, (List.forall_mem_cons.2 ⟨rfl, (List.forall_mem_cons.2 ⟨rfl, (List.forall_mem_cons.2 ⟨rfl, (List.forall_mem_cons.2 ⟨rfl, (List.forall_mem_cons.2 ⟨rfl, (List.forall_mem_cons.2 ⟨rfl, (List.forall_mem_cons.2 ⟨rfl, (List.forall_mem_cons.2 ⟨(shp (hS.own 3 rfl).slice).one, (fun _ h => by cases h)⟩)⟩)⟩)⟩)⟩)⟩)⟩)⟩)⟩)⟩)⟩)⟩)⟩)⟩)⟩)⟩)⟩)⟩)⟩) (Nat.le_of_ble_eq_true rfl) rfl) ?_
        rintro h_12 ⟨hS, hk⟩
        replace hS : St F_3 (Ow.box b_2 24 #[.bool f_Exclude, vf_Sources] :: Ow.box b_3 40 (c_api_Record (.int .i64 1) g vout_18_1).toArray :: Ow.box b_4 40 (c_api_Record (.int .i64 1) g vout_18_1).toArray :: Ow.own 27 17 e_api_Addr vout_18_1 out_18_1 :: fr) h_12 := hS
        replace hK := hK.trans hk
        replace hL_f_Sources := hL_f_Sources.kp hk
        refine HO.val (v := .bool true) (want_none) rfl (q_assign rfl) ?_
        refine HO.nil (thenQ_normal (?_))
        refine HW.ret (?_)
        refine ⟨.inr rfl, .tuple #[.agg (c_api_Record (.int .i64 1) g vout_18_1).toArray, .bool true], res2 rfl (rca (cs := (c_api_Record (.int .i64 1) g vout_18_1)) ta_40 rfl rfl (Blk.cells (k := 19) (hS.box 1 rfl) rfl)) (rt rfl), ?_⟩
        replace hS : St F_3 (Ow.own 27 17 e_api_Addr vout_18_1 out_18_1 :: fr) h_12 := hS.perm2 [3] 4 rfl rfl
        exact ⟨F_3, 1, g.1, g.2, out_18_1, true, vout_18_1, rfl, hK, hS, hL_f_Sources, hM⟩

def merge_None_W (f_Exclude : Bool) (f_Sources : List T_api_Addr) (Q : Bool → Prop) : Prop :=
  merge_none_W f_Exclude f_Sources (fun r_2 => Q r_2)
set_option maxHeartbeats 40000000 in
set_option maxRecDepth 100000 in
theorem merge_None_walk {F : Fz} {fr : List Ow} {h0 : Heap} (f_Exclude : Bool) (f_Sources : List T_api_Addr) (vf_Sources : Value) (hS : St F (fr) h0) (hL_f_Sources : SliceF F h0 17 e_api_Addr vf_Sources f_Sources) {Q : Bool → Prop} (hM : merge_None_W f_Exclude f_Sources Q) :
    HC Tryd.prog 30 #[.agg #[.bool f_Exclude, vf_Sources]] h0 fun u h' => ∃ (F' : Fz) (r_1 : Bool), u = .bool r_1 ∧ Kp F h0 F' h' ∧ St F' (fr) h' ∧ (SliceF F' h' 17 e_api_Addr vf_Sources f_Sources) ∧ Q r_1 := by
  unfold merge_None_W at hM
  have hK := Kp.refl F h0
  refine HC.of_HW (n := 5) Tryd.func30 rfl rfl (Nat.le_of_ble_eq_true rfl) ?_
  refine HW.seq ?_
  refine HW.region ?_
  refine HO.eff (want_none) rfl (st_box (c := #[.bool f_Exclude, vf_Sources]) (k' := 2) hS rfl rfl) ?_
  rintro _ h_1 ⟨b_1, rfl, hS, hk⟩
  replace hK := hK.trans hk
  replace hL_f_Sources := hL_f_Sources.kp hk
  refine HO.val (v := .bool false) (want_none) rfl (q_assign rfl) ?_
  refine HO.nil (thenQ_normal (?_))
  refine HW.seq ?_
  refine HW.region ?_
  refine HO.val (v := .agg #[.bool f_Exclude, vf_Sources]) (want_none) rfl (q_loadAgg (cs := [.bool f_Exclude, vf_Sources]) ta_24 rfl rfl (Blk.cells (k := 2) (hS.box 0 rfl) rfl)) ?_
  refine HO.call (want_none) rfl (ec en_54 rfl rfl) (merge_none_walk (fr := (Ow.box b_1 24 #[.bool f_Exclude, vf_Sources] :: fr)) f_Exclude f_Sources vf_Sources hS hL_f_Sources hM) ?_
  rintro _ h_2 ⟨F_1, r_2, rfl, hk, hS, _, hM⟩
  replace hK := hK.trans hk
  replace hL_f_Sources := hL_f_Sources.kp hk
  refine HO.val (v := .bool r_2) (want_none) rfl (q_assign rfl) ?_
  refine HO.nil (thenQ_normal (?_))
  refine HW.ret (?_)
  refine ⟨.inr rfl, .bool r_2, res1 rfl (rt rfl), ?_⟩
  replace hS : St F_1 (fr) h_2 := hS.perm2 [] 1 rfl rfl
  exact ⟨F_1, r_2, rfl, hK, hS, hL_f_Sources, hM⟩

def ref19_None_W (f_Exclude : Bool) (f_Sources : List T_api_Addr) (Q : Bool → Prop) : Prop :=
  ((!f_Exclude) = true → Q (decide ((f_Sources.length : Int) = 0))) ∧ ((!f_Exclude) = false → Q false)
set_option maxHeartbeats 40000000 in
set_option maxRecDepth 100000 in
theorem ref19_None_walk {F : Fz} {fr : List Ow} {h0 : Heap} (f_Exclude : Bool) (f_Sources : List T_api_Addr) (vf_Sources : Value) (hS : St F (fr) h0) (hL_f_Sources : SliceF F h0 17 e_api_Addr vf_Sources f_Sources) {Q : Bool → Prop} (hM : ref19_None_W f_Exclude f_Sources Q) :
    HC Tryd.prog 31 #[.agg #[.bool f_Exclude, vf_Sources]] h0 fun u h' => ∃ (F' : Fz) (r_1 : Bool), u = .bool r_1 ∧ Kp F h0 F' h' ∧ St F' (fr) h' ∧ (SliceF F' h' 17 e_api_Addr vf_Sources f_Sources) ∧ Q r_1 := by
  unfold ref19_None_W at hM
  have hK := Kp.refl F h0
  refine HC.of_HW (n := 12) Tryd.func31 rfl rfl (Nat.le_of_ble_eq_true rfl) ?_
  refine HW.seq ?_
  refine HW.region ?_
  refine HO.eff (want_none) rfl (st_box (c := #[.bool f_Exclude, vf_Sources]) (k' := 2) hS rfl rfl) ?_
  rintro _ h_1 ⟨b_1, rfl, hS, hk⟩
  replace hK := hK.trans hk
  replace hL_f_Sources := hL_f_Sources.kp hk
  refine HO.val (v := .bool false) (want_none) rfl (q_assign rfl) ?_
  refine HO.nil (thenQ_normal (?_))
  refine HW.seq ?_
  refine HW.region ?_
  refine HO.val (v := .pointer (some ⟨b_1, 0, none⟩)) (want_none) rfl (q_fieldAddr fa_24_0 rfl rfl) ?_
  refine HO.val (v := .bool f_Exclude) (want_none) rfl (q_load to_4 rfl (Blk.cell (hS.box 0 rfl) rfl)) ?_
  refine HO.val (v := .bool (!f_Exclude)) (want_none) rfl (q_not rfl) ?_
  refine HO.val (v := .bool (!f_Exclude)) (want_none) rfl (q_move rfl) ?_
  rcases Bool.eq_false_or_eq_true (!f_Exclude) with c_1 | c_1
  · replace hM := hM.1 c_1
    refine HO.val (v := .pointer (some ⟨b_1, 1, none⟩)) (want_by rfl rfl c_1) rfl (q_fieldAddr fa_24_1 rfl rfl) ?_
    refine HO.val (v := vf_Sources) (want_by rfl rfl c_1) rfl (q_load to_22 rfl (Blk.cell (hS.box 0 rfl) rfl)) ?_
    refine HO.val (v := .int .i64 (f_Sources.length : Int)) (want_by rfl rfl c_1) rfl (q_len ts_22 (shp hL_f_Sources.is) rfl rfl) ?_
    refine HO.val (v := .bool (decide ((f_Sources.length : Int) = 0))) (want_by rfl rfl c_1) rfl (q_eql rfl rfl) ?_
    refine HO.val (v := .bool (decide ((f_Sources.length : Int) = 0))) (want_none) rfl (q_pickK true rfl c_1 rfl) ?_
    refine HO.val (v := .bool (decide ((f_Sources.length : Int) = 0))) (want_none) rfl (q_assign rfl) ?_
    refine HO.nil (thenQ_normal (?_))
    refine HW.ret (?_)
    refine ⟨.inr rfl, .bool (decide ((f_Sources.length : Int) = 0)), res1 rfl (rt rfl), ?_⟩
    replace hS : St F (fr) h_1 := hS.perm2 [] 1 rfl rfl
    exact ⟨F, decide ((f_Sources.length : Int) = 0), rfl, hK, hS, hL_f_Sources, hM⟩
  · replace hM := hM.2 c_1
    refine HO.past (past_by rfl rfl c_1) rfl ?_
    refine HO.past (past_by rfl rfl c_1) rfl ?_
    refine HO.past (past_by rfl rfl c_1) rfl ?_
    refine HO.past (past_by rfl rfl c_1) rfl ?_
    refine HO.val (v := .bool false) (want_none) rfl (q_pickK false rfl c_1 rfl) ?_
    refine HO.val (v := .bool false) (want_none) rfl (q_assign rfl) ?_
    refine HO.nil (thenQ_normal (?_))
    refine HW.ret (?_)
    refine ⟨.inr rfl, .bool false, res1 rfl (rt rfl), ?_⟩
    replace hS : St F (fr) h_1 := hS.perm2 [] 1 rfl rfl
    exact ⟨F, false, rfl, hK, hS, hL_f_Sources, hM⟩

def slices_Equal_s_api_Addr_api_Addr_l1 (s1 : List T_api_Addr) (s2 : List T_api_Addr) (Q : Bool → Prop) (K_1 : Int → Prop) (n_1 : Int) : Prop :=
  (n_1 < (s1.length : Int) → ((0 : Int) ≤ n_1 ∧ n_1 < (s1.length : Int)) ∧ (((0 : Int) ≤ n_1 ∧ n_1 < (s2.length : Int)) ∧ ((¬ (((gi s1 n_1) : T_api_Addr) = (gi s2 n_1)) → Q false) ∧ (((gi s1 n_1) : T_api_Addr) = (gi s2 n_1) → (I64 (n_1 + 1)) ∧ (K_1 (n_1 + 1)))))) ∧ (¬ (n_1 < (s1.length : Int)) → Q true)
def slices_Equal_s_api_Addr_api_Addr_W (s1 : List T_api_Addr) (s2 : List T_api_Addr) (Q : Bool → Prop) : Prop :=
  (¬ ((s1.length : Int) = (s2.length : Int)) → Q false) ∧ ((s1.length : Int) = (s2.length : Int) → loopW (fun (K_1 : Int → Prop) (s : Int) => slices_Equal_s_api_Addr_api_Addr_l1 s1 s2 Q K_1 s) 0)
set_option maxHeartbeats 40000000 in
set_option maxRecDepth 100000 in
theorem slices_Equal_s_api_Addr_api_Addr_walk {F : Fz} {fr : List Ow} {h0 : Heap} (s1 : List T_api_Addr) (s2 : List T_api_Addr) (vs1 : Value) (vs2 : Value) (hS : St F (fr) h0) (hL_s1 : SliceF F h0 17 e_api_Addr vs1 s1) (hL_s2 : SliceF F h0 17 e_api_Addr vs2 s2) {Q : Bool → Prop} (hM : slices_Equal_s_api_Addr_api_Addr_W s1 s2 Q) :
    HC Tryd.prog 66 #[vs1, vs2] h0 fun u h' => ∃ (F' : Fz) (r_1 : Bool), u = .bool r_1 ∧ Kp F h0 F' h' ∧ St F' (fr) h' ∧ (SliceF F' h' 17 e_api_Addr vs1 s1) ∧ (SliceF F' h' 17 e_api_Addr vs2 s2) ∧ Q r_1 := by
  unfold slices_Equal_s_api_Addr_api_Addr_W at hM
  have hK := Kp.refl F h0
  refine HC.of_HW (n := 26) Tryd.func66 rfl rfl (Nat.le_of_ble_eq_true rfl) ?_
  refine HW.seq ?_
  refine HW.region ?_
  refine HO.val (v := .bool false) (want_none) rfl (q_assign rfl) ?_
  refine HO.nil (thenQ_normal (?_))
  refine HW.seq ?_
  refine HW.seq ?_
  refine HW.region ?_
  refine HO.val (v := vs1) (want_none) rfl (q_move rfl) ?_
  refine HO.val (v := .int .i64 (s1.length : Int)) (want_none) rfl (q_len ts_22 (shp hL_s1.is) rfl rfl) ?_
  refine HO.val (v := vs2) (want_none) rfl (q_move rfl) ?_
  refine HO.val (v := .int .i64 (s2.length : Int)) (want_none) rfl (q_len ts_22 (shp hL_s2.is) rfl rfl) ?_
  refine HO.val (v := .bool (!decide ((s1.length : Int) = (s2.length : Int)))) (want_none) rfl (q_neq rfl rfl) ?_
  refine HO.nil (thenQ_normal (?_))
  refine HW.cond (!decide ((s1.length : Int) = (s2.length : Int))) rfl (fun c_1 => ?_) (fun c_1 => ?_)
  · replace hM := hM.1 (nd_true c_1)
    refine HW.seq ?_
    refine HW.region ?_
    refine HO.val (v := .bool false) (want_none) rfl (q_assign rfl) ?_
    refine HO.nil (thenQ_normal (?_))
    refine HW.ret (thenQ_ret (?_))
    refine ⟨.inr rfl, .bool false, res1 rfl (rt rfl), ?_⟩
    exact ⟨F, false, rfl, hK, hS, hL_s1, hL_s2, hM⟩
  · replace hM := hM.2 (nd_false c_1)
    refine HW.skip (thenQ_normal (?_))
    refine HW.seq ?_
    refine HW.seq ?_
    refine HW.region ?_
    refine HO.val (v := vs1) (want_none) rfl (q_move rfl) ?_
    refine HO.val (v := .int .i64 (s1.length : Int)) (want_none) rfl (q_len ts_22 (shp hL_s1.is) rfl rfl) ?_
    refine HO.val (v := .int .i64 0) (want_none) rfl (q_move rfl) ?_
    refine HO.nil (thenQ_normal (?_))
    refine HW.block ?_
    obtain ⟨I_1, m_1, hI_1, hR_1⟩ := hM
    refine HW.loop (S := Int) (fun n_1 f h => ∃ (F' : Fz), f 0 = vs1 ∧ f 1 = vs2 ∧ f 4 = .bool false ∧ f 12 = .int .i64 (s1.length : Int) ∧ f 13 = .int .i64 n_1 ∧ Kp F h0 F' h ∧ St F' (fr) h ∧ (SliceF F' h 17 e_api_Addr vs1 s1) ∧ (SliceF F' h 17 e_api_Addr vs2 s2) ∧ I_1 n_1) m_1 0 ⟨F, rfl, rfl, rfl, rfl, rfl, hK, hS, hL_s1, hL_s2, hI_1⟩ ?_
    rintro n_1 f_1 h_1 ⟨F_1, e0, e1, e4, e12, e13, hK, hS, hL_s1, hL_s2, hI0⟩
    obtain ⟨K_1, hKe_1⟩ : ∃ K : Int → Prop, K = fun n_1' => I_1 n_1' ∧ m_1 n_1' < m_1 n_1 := ⟨_, rfl⟩
    have hM : slices_Equal_s_api_Addr_api_Addr_l1 s1 s2 Q K_1 n_1 := by rw [hKe_1]; exact hR_1 n_1 hI0
    unfold slices_Equal_s_api_Addr_api_Addr_l1 at hM
    refine HW.fr [(0, vs1), (1, vs2), (4, .bool false), (12, .int .i64 (s1.length : Int)), (13, .int .i64 n_1)] ⟨e0, e1, e4, e12, e13, trivial⟩ ?_
    refine HW.seq ?_
    refine HW.region ?_
    refine HO.val (v := .bool (decide (n_1 < (s1.length : Int)))) (want_none) rfl (q_lss rfl rfl) ?_
    refine HO.nil (thenQ_normal (?_))
    refine HW.seq ?_
    refine HW.cond (decide (n_1 < (s1.length : Int))) rfl (fun c_2 => ?_) (fun c_2 => ?_)
    · replace hM := hM.1 (of_decide_eq_true c_2)
      refine HW.skip (thenQ_normal (?_))
      refine HW.seq ?_
      refine HW.block ?_
      refine HW.seq ?_
      refine HW.region ?_
      refine HO.val (v := .int .i64 n_1) (want_none) rfl (q_move rfl) ?_
      refine HO.val (v := .int .i64 n_1) (want_none) rfl (q_assign rfl) ?_
      refine HO.nil (thenQ_normal (?_))
      refine HW.seq ?_
      refine HW.regionA 9 mixed (fun h => (SliceIs h 17 e_api_Addr vs1 s1) ∧ (SliceIs h 17 e_api_Addr vs2 s2)) [] (by kernel_rfl) ?_
      refine HA.val (k := 0) (v := vs1) rfl rfl (by kernel_rfl) (by kernel_rfl) (want_none) rfl (fun _ ⟨hL_s1, hL_s2⟩ => q_move rfl) ?_
      refine HA.val (k := 1) (v := .int .i64 n_1) rfl rfl (by kernel_rfl) (by kernel_rfl) (want_none) rfl (fun _ ⟨hL_s1, hL_s2⟩ => q_move rfl) ?_
      obtain ⟨ho_1, hM⟩ := hM
      refine HA.val (k := 2) (v := elemPtr 17 vs1 (n_1).toNat) rfl rfl (by kernel_rfl) (by kernel_rfl) (want_none) rfl (fun _ ⟨hL_s1, hL_s2⟩ => q_idx ts_22 hL_s1 rfl rfl ho_1) ?_
      refine HA.val (k := 3) (v := .agg (e_api_Addr (gi s1 n_1)).toArray) rfl rfl (by kernel_rfl) (by kernel_rfl) (want_none) rfl (fun _ ⟨hL_s1, hL_s2⟩ => q_ldElemAgg (cs := (e_api_Addr (gi s1 n_1))) ta_27 hL_s1 rfl ho_1 rfl) ?_
      refine HA.val (k := 4) (v := vs2) rfl rfl (by kernel_rfl) (by kernel_rfl) (want_none) rfl (fun _ ⟨hL_s1, hL_s2⟩ => q_move rfl) ?_
      refine HA.val (k := 5) (v := .int .i64 n_1) rfl rfl (by kernel_rfl) (by kernel_rfl) (want_none) rfl (fun _ ⟨hL_s1, hL_s2⟩ => q_move rfl) ?_
      obtain ⟨ho_2, hM⟩ := hM
      refine HA.val (k := 6) (v := elemPtr 17 vs2 (n_1).toNat) rfl rfl (by kernel_rfl) (by kernel_rfl) (want_none) rfl (fun _ ⟨hL_s1, hL_s2⟩ => q_idx ts_22 hL_s2 rfl rfl ho_2) ?_
      refine HA.val (k := 7) (v := .agg (e_api_Addr (gi s2 n_1)).toArray) rfl rfl (by kernel_rfl) (by kernel_rfl) (want_none) rfl (fun _ ⟨hL_s1, hL_s2⟩ => q_ldElemAgg (cs := (e_api_Addr (gi s2 n_1))) ta_27 hL_s2 rfl ho_2 rfl) ?_
      refine HA.val (k := 8) (v := .bool (!decide (((gi s1 n_1) : T_api_Addr) = (gi s2 n_1)))) rfl rfl (by kernel_rfl) (by kernel_rfl) (want_none) rfl (fun _ ⟨hL_s1, hL_s2⟩ => q_neqAgg (a := (gi s1 n_1)) (b := (gi s2 n_1)) (fun a b w => teq_27 9997 a b w) (by kernel_rfl) rfl rfl rfl rfl) ?_
      refine HA.nil ⟨⟨hL_s1.is, hL_s2.is⟩, (Go.Wk.at_nil _ _)⟩ (by kernel_rfl) (thenQ_normal (?_))
      refine HW.cond (!decide (((gi s1 n_1) : T_api_Addr) = (gi s2 n_1))) rfl (fun c_3 => ?_) (fun c_3 => ?_)
      · replace hM := hM.1 (nd_true c_3)
        refine HW.seq ?_
        refine HW.region ?_
        refine HO.val (v := .bool false) (want_none) rfl (q_assign rfl) ?_
        refine HO.nil (thenQ_normal (?_))
        refine HW.ret (blockQ_ret (thenQ_ret (thenQ_ret (blockQ_ret (thenQ_ret (?_))))))
        refine ⟨.inr rfl, .bool false, res1 rfl (rt rfl), ?_⟩
        exact ⟨F_1, false, rfl, hK, hS, hL_s1, hL_s2, hM⟩
      · replace hM := hM.2 (nd_false c_3)
        refine HW.skip (blockQ_normal (thenQ_normal (?_)))
        refine HW.region ?_
        obtain ⟨ho_3, hM⟩ := hM
        refine HO.val (v := .int .i64 (n_1 + 1)) (want_none) rfl (q_addN _ rfl rfl rfl ho_3.1 ho_3.2) ?_
        refine HO.val (v := .int .i64 (n_1 + 1)) (want_none) rfl (q_move rfl) ?_
        refine HO.nil (thenQ_normal (?_))
        rw [hKe_1] at hM
        exact ⟨n_1 + 1, ⟨F_1, rfl, rfl, rfl, rfl, rfl, hK, hS, hL_s1, hL_s2, hM.1⟩, hM.2⟩
    · replace hM := hM.2 (of_decide_eq_false c_2)
      refine HW.exit (thenQ_exit (thenQ_exit (blockQ_exit (thenQ_normal (?_)))))
      refine HW.seq ?_
      refine HW.region ?_
      refine HO.val (v := .bool true) (want_none) rfl (q_assign rfl) ?_
      refine HO.nil (thenQ_normal (?_))
      refine HW.ret (?_)
      refine ⟨.inr rfl, .bool true, res1 rfl (rt rfl), ?_⟩
      exact ⟨F_1, true, rfl, hK, hS, hL_s1, hL_s2, hM⟩

def srcs_Same_W (a : List T_api_Addr) (b : List T_api_Addr) (Q : Bool → Prop) : Prop :=
  slices_Equal_s_api_Addr_api_Addr_W a b (fun r_2 => Q r_2)
set_option maxHeartbeats 40000000 in
set_option maxRecDepth 100000 in
theorem srcs_Same_walk {F : Fz} {fr : List Ow} {h0 : Heap} (a : List T_api_Addr) (b : List T_api_Addr) (va : Value) (vb : Value) (hS : St F (fr) h0) (hL_a : SliceF F h0 17 e_api_Addr va a) (hL_b : SliceF F h0 17 e_api_Addr vb b) {Q : Bool → Prop} (hM : srcs_Same_W a b Q) :
    HC Tryd.prog 45 #[va, vb] h0 fun u h' => ∃ (F' : Fz) (r_1 : Bool), u = .bool r_1 ∧ Kp F h0 F' h' ∧ St F' (fr) h' ∧ (SliceF F' h' 17 e_api_Addr va a) ∧ (SliceF F' h' 17 e_api_Addr vb b) ∧ Q r_1 := by
  unfold srcs_Same_W at hM
  have hK := Kp.refl F h0
  refine HC.of_HW (n := 8) Tryd.func45 rfl rfl (Nat.le_of_ble_eq_true rfl) ?_
  refine HW.seq ?_
  refine HW.region ?_
  refine HO.val (v := .bool false) (want_none) rfl (q_assign rfl) ?_
  refine HO.nil (thenQ_normal (?_))
  refine HW.seq ?_
  refine HW.region ?_
  refine HO.val (v := va) (want_none) rfl (q_move rfl) ?_
  refine HO.val (v := vb) (want_none) rfl (q_move rfl) ?_
  refine HO.call (want_none) rfl (ec en_66 rfl rfl) (slices_Equal_s_api_Addr_api_Addr_walk (fr := (fr)) a b va vb hS hL_a hL_b hM) ?_
  rintro _ h_1 ⟨F_1, r_2, rfl, hk, hS, _, _, hM⟩
  replace hK := hK.trans hk
  replace hL_a := hL_a.kp hk
  replace hL_b := hL_b.kp hk
  refine HO.val (v := .bool r_2) (want_none) rfl (q_assign rfl) ?_
  refine HO.nil (thenQ_normal (?_))
  refine HW.ret (?_)
  refine ⟨.inr rfl, .bool r_2, res1 rfl (rt rfl), ?_⟩
  exact ⟨F_1, r_2, rfl, hK, hS, hL_a, hL_b, hM⟩

def merge_Same_W (a_Exclude : Bool) (a_Sources : List T_api_Addr) (b_Exclude : Bool) (b_Sources : List T_api_Addr) (Q : Bool → Prop) : Prop :=
  ((a_Exclude == b_Exclude) = true → srcs_Same_W a_Sources b_Sources (fun r_2 => Q r_2)) ∧ ((a_Exclude == b_Exclude) = false → Q false)
set_option maxHeartbeats 40000000 in
set_option maxRecDepth 100000 in
theorem merge_Same_walk {F : Fz} {fr : List Ow} {h0 : Heap} (a_Exclude : Bool) (a_Sources : List T_api_Addr) (b_Exclude : Bool) (b_Sources : List T_api_Addr) (va_Sources : Value) (vb_Sources : Value) (hS : St F (fr) h0) (hL_a_Sources : SliceF F h0 17 e_api_Addr va_Sources a_Sources) (hL_b_Sources : SliceF F h0 17 e_api_Addr vb_Sources b_Sources) {Q : Bool → Prop} (hM : merge_Same_W a_Exclude a_Sources b_Exclude b_Sources Q) :
    HC Tryd.prog 32 #[.agg #[.bool a_Exclude, va_Sources], .agg #[.bool b_Exclude, vb_Sources]] h0 fun u h' => ∃ (F' : Fz) (r_1 : Bool), u = .bool r_1 ∧ Kp F h0 F' h' ∧ St F' (fr) h' ∧ (SliceF F' h' 17 e_api_Addr va_Sources a_Sources) ∧ (SliceF F' h' 17 e_api_Addr vb_Sources b_Sources) ∧ Q r_1 := by
  unfold merge_Same_W at hM
  have hK := Kp.refl F h0
  refine HC.of_HW (n := 17) Tryd.func32 rfl rfl (Nat.le_of_ble_eq_true rfl) ?_
  refine HW.seq ?_
  refine HW.region ?_
  refine HO.eff (want_none) rfl (st_box (c := #[.bool a_Exclude, va_Sources]) (k' := 2) hS rfl rfl) ?_
  rintro _ h_1 ⟨b_1, rfl, hS, hk⟩
  replace hK := hK.trans hk
  replace hL_a_Sources := hL_a_Sources.kp hk
  replace hL_b_Sources := hL_b_Sources.kp hk
  refine HO.eff (want_none) rfl (st_box (c := #[.bool b_Exclude, vb_Sources]) (k' := 2) hS rfl rfl) ?_
  rintro _ h_2 ⟨b_2, rfl, hS, hk⟩
  replace hK := hK.trans hk
  replace hL_a_Sources := hL_a_Sources.kp hk
  replace hL_b_Sources := hL_b_Sources.kp hk
  refine HO.val (v := .bool false) (want_none) rfl (q_assign rfl) ?_
  refine HO.nil (thenQ_normal (?_))
  refine HW.seq ?_
  refine HW.region ?_
  refine HO.val (v := .pointer (some ⟨b_1, 0, none⟩)) (want_none) rfl (q_fieldAddr fa_24_0 rfl rfl) ?_
  refine HO.val (v := .bool a_Exclude) (want_none) rfl (q_load to_4 rfl (Blk.cell (hS.box 1 rfl) rfl)) ?_
  refine HO.val (v := .pointer (some ⟨b_2, 0, none⟩)) (want_none) rfl (q_fieldAddr fa_24_0 rfl rfl) ?_
  refine HO.val (v := .bool b_Exclude) (want_none) rfl (q_load to_4 rfl (Blk.cell (hS.box 0 rfl) rfl)) ?_
  refine HO.val (v := .bool (a_Exclude == b_Exclude)) (want_none) rfl (q_eqlB Tryd.underlying4 rfl rfl) ?_
  refine HO.val (v := .bool (a_Exclude == b_Exclude)) (want_none) rfl (q_move rfl) ?_
  rcases Bool.eq_false_or_eq_true (a_Exclude == b_Exclude) with c_1 | c_1
  · replace hM := hM.1 c_1
    refine HO.val (v := .pointer (some ⟨b_1, 1, none⟩)) (want_by rfl rfl c_1) rfl (q_fieldAddr fa_24_1 rfl rfl) ?_
    refine HO.val (v := va_Sources) (want_by rfl rfl c_1) rfl (q_load to_22 rfl (Blk.cell (hS.box 1 rfl) rfl)) ?_
    refine HO.val (v := .pointer (some ⟨b_2, 1, none⟩)) (want_by rfl rfl c_1) rfl (q_fieldAddr fa_24_1 rfl rfl) ?_
    refine HO.val (v := vb_Sources) (want_by rfl rfl c_1) rfl (q_load to_22 rfl (Blk.cell (hS.box 0 rfl) rfl)) ?_
    refine HO.call (want_by rfl rfl c_1) rfl (ec en_45 rfl rfl) (srcs_Same_walk (fr := (Ow.box b_2 24 #[.bool b_Exclude, vb_Sources] :: Ow.box b_1 24 #[.bool a_Exclude, va_Sources] :: fr)) a_Sources b_Sources va_Sources vb_Sources hS hL_a_Sources hL_b_Sources hM) ?_
    rintro _ h_3 ⟨F_1, r_2, rfl, hk, hS, _, _, hM⟩
    replace hK := hK.trans hk
    replace hL_a_Sources := hL_a_Sources.kp hk
    replace hL_b_Sources := hL_b_Sources.kp hk
    refine HO.val (v := .bool r_2) (want_none) rfl (q_pickK true rfl c_1 rfl) ?_
    refine HO.val (v := .bool r_2) (want_none) rfl (q_assign rfl) ?_
    refine HO.nil (thenQ_normal (?_))
    refine HW.ret (?_)
    refine ⟨.inr rfl, .bool r_2, res1 rfl (rt rfl), ?_⟩
    replace hS : St F_1 (fr) h_3 := hS.perm2 [] 2 rfl rfl
    exact ⟨F_1, r_2, rfl, hK, hS, hL_a_Sources, hL_b_Sources, hM⟩
  · replace hM := hM.2 c_1
    refine HO.past (past_by rfl rfl c_1) rfl ?_
    refine HO.past (past_by rfl rfl c_1) rfl ?_
    refine HO.past (past_by rfl rfl c_1) rfl ?_
    refine HO.past (past_by rfl rfl c_1) rfl ?_
    refine HO.past (past_by rfl rfl c_1) rfl ?_
    refine HO.val (v := .bool false) (want_none) rfl (q_pickK false rfl c_1 rfl) ?_
    refine HO.val (v := .bool false) (want_none) rfl (q_assign rfl) ?_
    refine HO.nil (thenQ_normal (?_))
    refine HW.ret (?_)
    refine ⟨.inr rfl, .bool false, res1 rfl (rt rfl), ?_⟩
    replace hS : St F (fr) h_2 := hS.perm2 [] 2 rfl rfl
    exact ⟨F, false, rfl, hK, hS, hL_a_Sources, hL_b_Sources, hM⟩

def ref08_SameAddrs_l1 (a : List T_api_Addr) (b : List T_api_Addr) (Q : Bool → Prop) (K_1 : Int → Prop) (i_1 : Int) : Prop :=
  (i_1 < (a.length : Int) → ((0 : Int) ≤ i_1 ∧ i_1 < (a.length : Int)) ∧ (((0 : Int) ≤ i_1 ∧ i_1 < (b.length : Int)) ∧ ((¬ (((gi a i_1) : T_api_Addr) = (gi b i_1)) → Q false) ∧ (((gi a i_1) : T_api_Addr) = (gi b i_1) → (I64 (i_1 + 1)) ∧ (K_1 (i_1 + 1)))))) ∧ (¬ (i_1 < (a.length : Int)) → Q true)
def ref08_SameAddrs_W (a : List T_api_Addr) (b : List T_api_Addr) (Q : Bool → Prop) : Prop :=
  (¬ ((a.length : Int) = (b.length : Int)) → Q false) ∧ ((a.length : Int) = (b.length : Int) → loopW (fun (K_1 : Int → Prop) (s : Int) => ref08_SameAddrs_l1 a b Q K_1 s) 0)
set_option maxHeartbeats 40000000 in
set_option maxRecDepth 100000 in
theorem ref08_SameAddrs_walk {F : Fz} {fr : List Ow} {h0 : Heap} (a : List T_api_Addr) (b : List T_api_Addr) (va : Value) (vb : Value) (hS : St F (fr) h0) (hL_a : SliceF F h0 17 e_api_Addr va a) (hL_b : SliceF F h0 17 e_api_Addr vb b) {Q : Bool → Prop} (hM : ref08_SameAddrs_W a b Q) :
    HC Tryd.prog 49 #[va, vb] h0 fun u h' => ∃ (F' : Fz) (r_1 : Bool), u = .bool r_1 ∧ Kp F h0 F' h' ∧ St F' (fr) h' ∧ (SliceF F' h' 17 e_api_Addr va a) ∧ (SliceF F' h' 17 e_api_Addr vb b) ∧ Q r_1 := by
  unfold ref08_SameAddrs_W at hM
  have hK := Kp.refl F h0
  refine HC.of_HW (n := 26) Tryd.func49 rfl rfl (Nat.le_of_ble_eq_true rfl) ?_
  refine HW.seq ?_
  refine HW.region ?_
  refine HO.val (v := .bool false) (want_none) rfl (q_assign rfl) ?_
  refine HO.nil (thenQ_normal (?_))
  refine HW.seq ?_
  refine HW.seq ?_
  refine HW.region ?_
  refine HO.val (v := va) (want_none) rfl (q_move rfl) ?_
  refine HO.val (v := .int .i64 (a.length : Int)) (want_none) rfl (q_len ts_22 (shp hL_a.is) rfl rfl) ?_
  refine HO.val (v := vb) (want_none) rfl (q_move rfl) ?_
  refine HO.val (v := .int .i64 (b.length : Int)) (want_none) rfl (q_len ts_22 (shp hL_b.is) rfl rfl) ?_
  refine HO.val (v := .bool (!decide ((a.length : Int) = (b.length : Int)))) (want_none) rfl (q_neq rfl rfl) ?_
  refine HO.nil (thenQ_normal (?_))
  refine HW.cond (!decide ((a.length : Int) = (b.length : Int))) rfl (fun c_1 => ?_) (fun c_1 => ?_)
  · replace hM := hM.1 (nd_true c_1)
    refine HW.seq ?_
    refine HW.region ?_
    refine HO.val (v := .bool false) (want_none) rfl (q_assign rfl) ?_
    refine HO.nil (thenQ_normal (?_))
    refine HW.ret (thenQ_ret (?_))
    refine ⟨.inr rfl, .bool false, res1 rfl (rt rfl), ?_⟩
    exact ⟨F, false, rfl, hK, hS, hL_a, hL_b, hM⟩
  · replace hM := hM.2 (nd_false c_1)
    refine HW.skip (thenQ_normal (?_))
    refine HW.seq ?_
    refine HW.seq ?_
    refine HW.region ?_
    refine HO.val (v := .int .i64 0) (want_none) rfl (q_assign rfl) ?_
    refine HO.nil (thenQ_normal (?_))
    refine HW.block ?_
    obtain ⟨I_1, m_1, hI_1, hR_1⟩ := hM
    refine HW.loop (S := Int) (fun i_1 f h => ∃ (F' : Fz), f 0 = va ∧ f 1 = vb ∧ f 4 = .bool false ∧ f 5 = .int .i64 i_1 ∧ Kp F h0 F' h ∧ St F' (fr) h ∧ (SliceF F' h 17 e_api_Addr va a) ∧ (SliceF F' h 17 e_api_Addr vb b) ∧ I_1 i_1) m_1 0 ⟨F, rfl, rfl, rfl, rfl, hK, hS, hL_a, hL_b, hI_1⟩ ?_
    rintro i_1 f_1 h_1 ⟨F_1, e0, e1, e4, e5, hK, hS, hL_a, hL_b, hI0⟩
    obtain ⟨K_1, hKe_1⟩ : ∃ K : Int → Prop, K = fun i_1' => I_1 i_1' ∧ m_1 i_1' < m_1 i_1 := ⟨_, rfl⟩
    have hM : ref08_SameAddrs_l1 a b Q K_1 i_1 := by rw [hKe_1]; exact hR_1 i_1 hI0
    unfold ref08_SameAddrs_l1 at hM
    refine HW.fr [(0, va), (1, vb), (4, .bool false), (5, .int .i64 i_1)] ⟨e0, e1, e4, e5, trivial⟩ ?_
    refine HW.seq ?_
    refine HW.seq ?_
    refine HW.region ?_
    refine HO.val (v := .int .i64 i_1) (want_none) rfl (q_move rfl) ?_
    refine HO.val (v := va) (want_none) rfl (q_move rfl) ?_
    refine HO.val (v := .int .i64 (a.length : Int)) (want_none) rfl (q_len ts_22 (shp hL_a.is) rfl rfl) ?_
    refine HO.val (v := .bool (decide (i_1 < (a.length : Int)))) (want_none) rfl (q_lss rfl rfl) ?_
    refine HO.nil (thenQ_normal (?_))
    refine HW.cond (decide (i_1 < (a.length : Int))) rfl (fun c_2 => ?_) (fun c_2 => ?_)
    · replace hM := hM.1 (of_decide_eq_true c_2)
      refine HW.skip (thenQ_normal (?_))
      refine HW.seq ?_
      refine HW.block ?_
      refine HW.seq ?_
      refine HW.regionA 9 mixed (fun h => (SliceIs h 17 e_api_Addr va a) ∧ (SliceIs h 17 e_api_Addr vb b)) [] (by kernel_rfl) ?_
      refine HA.val (k := 0) (v := va) rfl rfl (by kernel_rfl) (by kernel_rfl) (want_none) rfl (fun _ ⟨hL_a, hL_b⟩ => q_move rfl) ?_
      refine HA.val (k := 1) (v := .int .i64 i_1) rfl rfl (by kernel_rfl) (by kernel_rfl) (want_none) rfl (fun _ ⟨hL_a, hL_b⟩ => q_move rfl) ?_
      obtain ⟨ho_1, hM⟩ := hM
      refine HA.val (k := 2) (v := elemPtr 17 va (i_1).toNat) rfl rfl (by kernel_rfl) (by kernel_rfl) (want_none) rfl (fun _ ⟨hL_a, hL_b⟩ => q_idx ts_22 hL_a rfl rfl ho_1) ?_
      refine HA.val (k := 3) (v := .agg (e_api_Addr (gi a i_1)).toArray) rfl rfl (by kernel_rfl) (by kernel_rfl) (want_none) rfl (fun _ ⟨hL_a, hL_b⟩ => q_ldElemAgg (cs := (e_api_Addr (gi a i_1))) ta_27 hL_a rfl ho_1 rfl) ?_
      refine HA.val (k := 4) (v := vb) rfl rfl (by kernel_rfl) (by kernel_rfl) (want_none) rfl (fun _ ⟨hL_a, hL_b⟩ => q_move rfl) ?_
      refine HA.val (k := 5) (v := .int .i64 i_1) rfl rfl (by kernel_rfl) (by kernel_rfl) (want_none) rfl (fun _ ⟨hL_a, hL_b⟩ => q_move rfl) ?_
      obtain ⟨ho_2, hM⟩ := hM
      refine HA.val (k := 6) (v := elemPtr 17 vb (i_1).toNat) rfl rfl (by kernel_rfl) (by kernel_rfl) (want_none) rfl (fun _ ⟨hL_a, hL_b⟩ => q_idx ts_22 hL_b rfl rfl ho_2) ?_
      refine HA.val (k := 7) (v := .agg (e_api_Addr (gi b i_1)).toArray) rfl rfl (by kernel_rfl) (by kernel_rfl) (want_none) rfl (fun _ ⟨hL_a, hL_b⟩ => q_ldElemAgg (cs := (e_api_Addr (gi b i_1))) ta_27 hL_b rfl ho_2 rfl) ?_
      refine HA.val (k := 8) (v := .bool (!decide (((gi a i_1) : T_api_Addr) = (gi b i_1)))) rfl rfl (by kernel_rfl) (by kernel_rfl) (want_none) rfl (fun _ ⟨hL_a, hL_b⟩ => q_neqAgg (a := (gi a i_1)) (b := (gi b i_1)) (fun a b w => teq_27 9997 a b w) (by kernel_rfl) rfl rfl rfl rfl) ?_
      refine HA.nil ⟨⟨hL_a.is, hL_b.is⟩, (Go.Wk.at_nil _ _)⟩ (by kernel_rfl) (thenQ_normal (?_))
      refine HW.cond (!decide (((gi a i_1) : T_api_Addr) = (gi b i_1))) rfl (fun c_3 => ?_) (fun c_3 => ?_)
      · replace hM := hM.1 (nd_true c_3)
        refine HW.seq ?_
        refine HW.region ?_
        refine HO.val (v := .bool false) (want_none) rfl (q_assign rfl) ?_
        refine HO.nil (thenQ_normal (?_))
        refine HW.ret (blockQ_ret (thenQ_ret (thenQ_ret (blockQ_ret (thenQ_ret (?_))))))
        refine ⟨.inr rfl, .bool false, res1 rfl (rt rfl), ?_⟩
        exact ⟨F_1, false, rfl, hK, hS, hL_a, hL_b, hM⟩
      · replace hM := hM.2 (nd_false c_3)
        refine HW.skip (blockQ_normal (thenQ_normal (?_)))
        refine HW.region ?_
        refine HO.val (v := .int .i64 i_1) (want_none) rfl (q_move rfl) ?_
        obtain ⟨ho_3, hM⟩ := hM
        refine HO.val (v := .int .i64 (i_1 + 1)) (want_none) rfl (q_addN _ rfl rfl rfl ho_3.1 ho_3.2) ?_
        refine HO.val (v := .int .i64 (i_1 + 1)) (want_none) rfl (q_assign rfl) ?_
        refine HO.nil (thenQ_normal (?_))
        rw [hKe_1] at hM
        exact ⟨i_1 + 1, ⟨F_1, rfl, rfl, rfl, rfl, hK, hS, hL_a, hL_b, hM.1⟩, hM.2⟩
    · replace hM := hM.2 (of_decide_eq_false c_2)
      refine HW.exit (thenQ_exit (thenQ_exit (blockQ_exit (thenQ_normal (?_)))))
      refine HW.seq ?_
      refine HW.region ?_
      refine HO.val (v := .bool true) (want_none) rfl (q_assign rfl) ?_
      refine HO.nil (thenQ_normal (?_))
      refine HW.ret (?_)
      refine ⟨.inr rfl, .bool true, res1 rfl (rt rfl), ?_⟩
      exact ⟨F_1, true, rfl, hK, hS, hL_a, hL_b, hM⟩
end Go.Wk
