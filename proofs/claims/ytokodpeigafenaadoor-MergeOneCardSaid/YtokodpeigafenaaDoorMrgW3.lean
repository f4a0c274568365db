/- Walks and mirrors of Merge laws. -/
import Derived.Test.YtokodpeigafenaaDoorMrgW2
set_option linter.unusedSimpArgs false
set_option linter.unusedVariables false
set_option linter.unusedSectionVars false
namespace Go.Wk
open Go.HL
open Go.Proofs hiding encI
variable [DM]

def ref08_SameRecords_l1 (a : List T_api_Record) (b : List T_api_Record) (Q : Bool → Prop) (K_1 : Int → Prop) (i_1 : Int) : Prop :=
  (i_1 < (a.length : Int) → ((0 : Int) ≤ i_1 ∧ i_1 < (a.length : Int)) ∧ (((0 : Int) ≤ i_1 ∧ i_1 < (b.length : Int)) ∧ ((¬ (((gi a i_1).1) = ((gi b i_1).1)) → Q false) ∧ (((gi a i_1).1) = ((gi b i_1).1) → (¬ ((((gi a i_1).2.1) : T_api_Addr) = ((gi b i_1).2.1)) → Q false) ∧ ((((gi a i_1).2.1) : T_api_Addr) = ((gi b i_1).2.1) → ref08_SameAddrs_W (((gi a i_1).2.2).2) (((gi b i_1).2.2).2) (fun r_2 => ((!r_2) = true → Q false) ∧ ((!r_2) = false → (I64 (i_1 + 1)) ∧ (K_1 (i_1 + 1))))))))) ∧ (¬ (i_1 < (a.length : Int)) → Q true)
def ref08_SameRecords_W (a : List T_api_Record) (b : List T_api_Record) (Q : Bool → Prop) : Prop :=
  (¬ ((a.length : Int) = (b.length : Int)) → Q false) ∧ ((a.length : Int) = (b.length : Int) → loopW (fun (K_1 : Int → Prop) (s : Int) => ref08_SameRecords_l1 a b Q K_1 s) 0)
set_option maxHeartbeats 40000000 in
set_option maxRecDepth 100000 in
theorem ref08_SameRecords_walk {F : Fz} {fr : List Ow} {h0 : Heap} (a : List T_api_Record) (b : List T_api_Record) (va : Value) (vb : Value) (hS : St F (fr) h0) (hN_a : NfL nf_api_Record F h0 a) (hL_a : SliceF F h0 19 e_api_Record va a) (hN_b : NfL nf_api_Record F h0 b) (hL_b : SliceF F h0 19 e_api_Record vb b) {Q : Bool → Prop} (hM : ref08_SameRecords_W a b Q) :
    HC Tryd.prog 11 #[va, vb] h0 fun u h' => ∃ (F' : Fz) (r_1 : Bool), u = .bool r_1 ∧ Kp F h0 F' h' ∧ St F' (fr) h' ∧ (NfL nf_api_Record F' h' a) ∧ (SliceF F' h' 19 e_api_Record va a) ∧ (NfL nf_api_Record F' h' b) ∧ (SliceF F' h' 19 e_api_Record vb b) ∧ Q r_1 := by
  unfold ref08_SameRecords_W at hM
  have hK := Kp.refl F h0
  refine HC.of_HW (n := 55) Tryd.func11 rfl rfl (Nat.le_of_ble_eq_true rfl) ?_
  refine HW.seq ?_
  refine HW.region ?_
  refine HO.val (v := .bool false) (want_none) rfl (q_assign rfl) ?_
  refine HO.nil (thenQ_normal (?_))
  refine HW.seq ?_
  refine HW.seq ?_
  refine HW.region ?_
  refine HO.val (v := va) (want_none) rfl (q_move rfl) ?_
  refine HO.val (v := .int .i64 (a.length : Int)) (want_none) rfl (q_len ts_31 (shp hL_a.is) rfl rfl) ?_
  refine HO.val (v := vb) (want_none) rfl (q_move rfl) ?_
  refine HO.val (v := .int .i64 (b.length : Int)) (want_none) rfl (q_len ts_31 (shp hL_b.is) rfl rfl) ?_
  refine HO.val (v := .bool (!decide ((a.length : Int) = (b.length : Int)))) (want_none) rfl (q_neq rfl rfl) ?_
  refine HO.nil (thenQ_normal (?_))
  refine HW.cond (!decide ((a.length : Int) = (b.length : Int))) rfl (fun c_1 => ?_) (fun c_1 => ?_)
  · replace hM := hM.1 (nd_true c_1)
    refine HW.seq ?_
    refine HW.region ?_
    refine HO.val (v := .bool false) (want_none) rfl (q_assign rfl) ?_
    refine HO.nil (thenQ_normal (?_))
    refine HW.ret (thenQ_ret (?_))
    refine ⟨.inr rfl, .bool false, res1 rfl (rt rfl), ?_⟩
    exact ⟨F, false, rfl, hK, hS, hN_a, hL_a, hN_b, hL_b, hM⟩
  · replace hM := hM.2 (nd_false c_1)
    refine HW.skip (thenQ_normal (?_))
    refine HW.seq ?_
    refine HW.seq ?_
    refine HW.region ?_
    refine HO.val (v := .int .i64 0) (want_none) rfl (q_assign rfl) ?_
    refine HO.nil (thenQ_normal (?_))
    refine HW.block ?_
    obtain ⟨I_1, m_1, hI_1, hR_1⟩ := hM
    refine HW.loop (S := Int) (fun i_1 f h => ∃ (F' : Fz), f 0 = va ∧ f 1 = vb ∧ f 4 = .bool false ∧ f 5 = .int .i64 i_1 ∧ Kp F h0 F' h ∧ St F' (fr) h ∧ (NfL nf_api_Record F' h a) ∧ (SliceF F' h 19 e_api_Record va a) ∧ (NfL nf_api_Record F' h b) ∧ (SliceF F' h 19 e_api_Record vb b) ∧ I_1 i_1) m_1 0 ⟨F, rfl, rfl, rfl, rfl, hK, hS, hN_a, hL_a, hN_b, hL_b, hI_1⟩ ?_
    rintro i_1 f_1 h_1 ⟨F_1, e0, e1, e4, e5, hK, hS, hN_a, hL_a, hN_b, hL_b, hI0⟩
    obtain ⟨K_1, hKe_1⟩ : ∃ K : Int → Prop, K = fun i_1' => I_1 i_1' ∧ m_1 i_1' < m_1 i_1 := ⟨_, rfl⟩
    have hM : ref08_SameRecords_l1 a b Q K_1 i_1 := by rw [hKe_1]; exact hR_1 i_1 hI0
    unfold ref08_SameRecords_l1 at hM
    refine HW.fr [(0, va), (1, vb), (4, .bool false), (5, .int .i64 i_1)] ⟨e0, e1, e4, e5, trivial⟩ ?_
    refine HW.seq ?_
    refine HW.seq ?_
    refine HW.region ?_
    refine HO.val (v := .int .i64 i_1) (want_none) rfl (q_move rfl) ?_
    refine HO.val (v := va) (want_none) rfl (q_move rfl) ?_
    refine HO.val (v := .int .i64 (a.length : Int)) (want_none) rfl (q_len ts_31 (shp hL_a.is) rfl rfl) ?_
    refine HO.val (v := .bool (decide (i_1 < (a.length : Int)))) (want_none) rfl (q_lss rfl rfl) ?_
    refine HO.nil (thenQ_normal (?_))
    refine HW.cond (decide (i_1 < (a.length : Int))) rfl (fun c_2 => ?_) (fun c_2 => ?_)
    · replace hM := hM.1 (of_decide_eq_true c_2)
      refine HW.skip (thenQ_normal (?_))
      refine HW.seq ?_
      refine HW.block ?_
      refine HW.seq ?_
      refine HW.regionA 38 mixed (fun h => (SliceIs h 19 e_api_Record va a) ∧ (SliceIs h 19 e_api_Record vb b)) [] (by kernel_rfl) ?_
      refine HA.val (k := 0) (v := va) rfl rfl (by kernel_rfl) (by kernel_rfl) (want_none) rfl (fun _ ⟨hL_a, hL_b⟩ => q_move rfl) ?_
      refine HA.val (k := 1) (v := .int .i64 i_1) rfl rfl (by kernel_rfl) (by kernel_rfl) (want_none) rfl (fun _ ⟨hL_a, hL_b⟩ => q_move rfl) ?_
      obtain ⟨ho_1, hM⟩ := hM
      refine HA.val (k := 2) (v := elemPtr 19 va (i_1).toNat) rfl rfl (by kernel_rfl) (by kernel_rfl) (want_none) rfl (fun _ ⟨hL_a, hL_b⟩ => q_idx ts_31 hL_a rfl rfl ho_1) ?_
      refine HA.val (k := 3) (v := fieldPtr 19 va (i_1).toNat 0) rfl rfl (by kernel_rfl) (by kernel_rfl) (want_none) rfl (fun _ ⟨hL_a, hL_b⟩ => q_fldElem fa_40_0 hL_a rfl ho_1) ?_
      refine HA.val (k := 4) (v := .int .i64 ((gi a i_1).1)) rfl rfl (by kernel_rfl) (by kernel_rfl) (want_none) rfl (fun _ ⟨hL_a, hL_b⟩ => q_ldField to_3 hL_a rfl ho_1 (by decide) rfl) ?_
      refine HA.val (k := 5) (v := vb) rfl rfl (by kernel_rfl) (by kernel_rfl) (want_none) rfl (fun _ ⟨hL_a, hL_b⟩ => q_move rfl) ?_
      refine HA.val (k := 6) (v := .int .i64 i_1) rfl rfl (by kernel_rfl) (by kernel_rfl) (want_none) rfl (fun _ ⟨hL_a, hL_b⟩ => q_move rfl) ?_
      obtain ⟨ho_2, hM⟩ := hM
      refine HA.val (k := 7) (v := elemPtr 19 vb (i_1).toNat) rfl rfl (by kernel_rfl) (by kernel_rfl) (want_none) rfl (fun _ ⟨hL_a, hL_b⟩ => q_idx ts_31 hL_b rfl rfl ho_2) ?_
      refine HA.val (k := 8) (v := fieldPtr 19 vb (i_1).toNat 0) rfl rfl (by kernel_rfl) (by kernel_rfl) (want_none) rfl (fun _ ⟨hL_a, hL_b⟩ => q_fldElem fa_40_0 hL_b rfl ho_2) ?_
      refine HA.val (k := 9) (v := .int .i64 ((gi b i_1).1)) rfl rfl (by kernel_rfl) (by kernel_rfl) (want_none) rfl (fun _ ⟨hL_a, hL_b⟩ => q_ldField to_3 hL_b rfl ho_2 (by decide) rfl) ?_
      refine HA.val (k := 10) (v := .bool (!decide (((gi a i_1).1) = ((gi b i_1).1)))) rfl rfl (by kernel_rfl) (by kernel_rfl) (want_none) rfl (fun _ ⟨hL_a, hL_b⟩ => q_neq rfl rfl) ?_
      refine HA.val (k := 11) (v := .bool (!decide (((gi a i_1).1) = ((gi b i_1).1)))) rfl rfl (by kernel_rfl) (by kernel_rfl) (want_none) rfl (fun _ ⟨hL_a, hL_b⟩ => q_move rfl) ?_
      rcases Bool.eq_false_or_eq_true (!decide (((gi a i_1).1) = ((gi b i_1).1))) with c_3 | c_3
      · replace hM := hM.1 (nd_true c_3)
        refine HA.past (k := 12) rfl rfl (by kernel_rfl) (by kernel_rfl) (past_by rfl rfl c_3) rfl ?_
        refine HA.past (k := 13) rfl rfl (by kernel_rfl) (by kernel_rfl) (past_by rfl rfl c_3) rfl ?_
        refine HA.past (k := 14) rfl rfl (by kernel_rfl) (by kernel_rfl) (past_by rfl rfl c_3) rfl ?_
        refine HA.past (k := 15) rfl rfl (by kernel_rfl) (by kernel_rfl) (past_by rfl rfl c_3) rfl ?_
        refine HA.past (k := 16) rfl rfl (by kernel_rfl) (by kernel_rfl) (past_by rfl rfl c_3) rfl ?_
        refine HA.past (k := 17) rfl rfl (by kernel_rfl) (by kernel_rfl) (past_by rfl rfl c_3) rfl ?_
        refine HA.past (k := 18) rfl rfl (by kernel_rfl) (by kernel_rfl) (past_by rfl rfl c_3) rfl ?_
        refine HA.past (k := 19) rfl rfl (by kernel_rfl) (by kernel_rfl) (past_by rfl rfl c_3) rfl ?_
        refine HA.past (k := 20) rfl rfl (by kernel_rfl) (by kernel_rfl) (past_by rfl rfl c_3) rfl ?_
        refine HA.past (k := 21) rfl rfl (by kernel_rfl) (by kernel_rfl) (past_by rfl rfl c_3) rfl ?_
        refine HA.past (k := 22) rfl rfl (by kernel_rfl) (by kernel_rfl) (past_by rfl rfl c_3) rfl ?_
        refine HA.val (k := 23) (v := .bool true) rfl rfl (by kernel_rfl) (by kernel_rfl) (want_none) rfl (fun _ ⟨hL_a, hL_b⟩ => q_pickK true rfl c_3 rfl) ?_
        refine HA.val (k := 24) (v := .bool true) rfl rfl (by kernel_rfl) (by kernel_rfl) (want_none) rfl (fun _ ⟨hL_a, hL_b⟩ => q_move rfl) ?_
        refine HA.past (k := 25) rfl rfl (by kernel_rfl) (by kernel_rfl) (past_some rfl rfl) rfl ?_
        refine HA.past (k := 26) rfl rfl (by kernel_rfl) (by kernel_rfl) (past_some rfl rfl) rfl ?_
        refine HA.past (k := 27) rfl rfl (by kernel_rfl) (by kernel_rfl) (past_some rfl rfl) rfl ?_
        refine HA.past (k := 28) rfl rfl (by kernel_rfl) (by kernel_rfl) (past_some rfl rfl) rfl ?_
        refine HA.past (k := 29) rfl rfl (by kernel_rfl) (by kernel_rfl) (past_some rfl rfl) rfl ?_
        refine HA.past (k := 30) rfl rfl (by kernel_rfl) (by kernel_rfl) (past_some rfl rfl) rfl ?_
        refine HA.past (k := 31) rfl rfl (by kernel_rfl) (by kernel_rfl) (past_some rfl rfl) rfl ?_
        refine HA.past (k := 32) rfl rfl (by kernel_rfl) (by kernel_rfl) (past_some rfl rfl) rfl ?_
        refine HA.past (k := 33) rfl rfl (by kernel_rfl) (by kernel_rfl) (past_some rfl rfl) rfl ?_
        refine HA.past (k := 34) rfl rfl (by kernel_rfl) (by kernel_rfl) (past_some rfl rfl) rfl ?_
        refine HA.one (k := 35) ⟨⟨hL_a.is, hL_b.is⟩, (Go.Wk.at_nil _ _)⟩ (by kernel_rfl) ?_
        refine HS.past rfl (past_some rfl rfl) rfl ?_
        refine HA.past (k := 36) rfl rfl (by kernel_rfl) (by kernel_rfl) (past_some rfl rfl) rfl ?_
        refine HA.val (k := 37) (v := .bool true) rfl rfl (by kernel_rfl) (by kernel_rfl) (want_none) rfl (fun _ ⟨hL_a, hL_b⟩ => q_pick rfl rfl) ?_
        refine HA.nil ⟨⟨hL_a.is, hL_b.is⟩, (Go.Wk.at_nil _ _)⟩ (by kernel_rfl) (thenQ_normal (?_))
        refine HW.condT rfl ?_
        refine HW.seq ?_
        refine HW.region ?_
        refine HO.val (v := .bool false) (want_none) rfl (q_assign rfl) ?_
        refine HO.nil (thenQ_normal (?_))
        refine HW.ret (blockQ_ret (thenQ_ret (thenQ_ret (blockQ_ret (thenQ_ret (?_))))))
        refine ⟨.inr rfl, .bool false, res1 rfl (rt rfl), ?_⟩
        exact ⟨F_1, false, rfl, hK, hS, hN_a, hL_a, hN_b, hL_b, hM⟩
      · replace hM := hM.2 (nd_false c_3)
        refine HA.val (k := 12) (v := va) rfl rfl (by kernel_rfl) (by kernel_rfl) (want_by rfl rfl c_3) rfl (fun _ ⟨hL_a, hL_b⟩ => q_move rfl) ?_
        refine HA.val (k := 13) (v := .int .i64 i_1) rfl rfl (by kernel_rfl) (by kernel_rfl) (want_by rfl rfl c_3) rfl (fun _ ⟨hL_a, hL_b⟩ => q_move rfl) ?_
        refine HA.val (k := 14) (v := elemPtr 19 va (i_1).toNat) rfl rfl (by kernel_rfl) (by kernel_rfl) (want_by rfl rfl c_3) rfl (fun _ ⟨hL_a, hL_b⟩ => q_idx ts_31 hL_a rfl rfl ho_1) ?_
        refine HA.val (k := 15) (v := fieldPtr 19 va (i_1).toNat 1) rfl rfl (by kernel_rfl) (by kernel_rfl) (want_by rfl rfl c_3) rfl (fun _ ⟨hL_a, hL_b⟩ => q_fldElem fa_40_1 hL_a rfl ho_1) ?_
        refine HA.val (k := 16) (v := .agg (e_api_Addr ((gi a i_1).2.1)).toArray) rfl rfl (by kernel_rfl) (by kernel_rfl) (want_by rfl rfl c_3) rfl (fun _ ⟨hL_a, hL_b⟩ => q_ldFieldAgg (n := 17) (cs := (e_api_Addr ((gi a i_1).2.1))) ta_27 hL_a rfl ho_1 (by decide) rfl) ?_
        refine HA.val (k := 17) (v := vb) rfl rfl (by kernel_rfl) (by kernel_rfl) (want_by rfl rfl c_3) rfl (fun _ ⟨hL_a, hL_b⟩ => q_move rfl) ?_
        refine HA.val (k := 18) (v := .int .i64 i_1) rfl rfl (by kernel_rfl) (by kernel_rfl) (want_by rfl rfl c_3) rfl (fun _ ⟨hL_a, hL_b⟩ => q_move rfl) ?_
        refine HA.val (k := 19) (v := elemPtr 19 vb (i_1).toNat) rfl rfl (by kernel_rfl) (by kernel_rfl) (want_by rfl rfl c_3) rfl (fun _ ⟨hL_a, hL_b⟩ => q_idx ts_31 hL_b rfl rfl ho_2) ?_
        refine HA.val (k := 20) (v := fieldPtr 19 vb (i_1).toNat 1) rfl rfl (by kernel_rfl) (by kernel_rfl) (want_by rfl rfl c_3) rfl (fun _ ⟨hL_a, hL_b⟩ => q_fldElem fa_40_1 hL_b rfl ho_2) ?_
        refine HA.val (k := 21) (v := .agg (e_api_Addr ((gi b i_1).2.1)).toArray) rfl rfl (by kernel_rfl) (by kernel_rfl) (want_by rfl rfl c_3) rfl (fun _ ⟨hL_a, hL_b⟩ => q_ldFieldAgg (n := 17) (cs := (e_api_Addr ((gi b i_1).2.1))) ta_27 hL_b rfl ho_2 (by decide) rfl) ?_
        refine HA.val (k := 22) (v := .bool (!decide ((((gi a i_1).2.1) : T_api_Addr) = ((gi b i_1).2.1)))) rfl rfl (by kernel_rfl) (by kernel_rfl) (want_by rfl rfl c_3) rfl (fun _ ⟨hL_a, hL_b⟩ => q_neqAgg (a := ((gi a i_1).2.1)) (b := ((gi b i_1).2.1)) (fun a b w => teq_27 9997 a b w) (by kernel_rfl) rfl rfl rfl rfl) ?_
        refine HA.val (k := 23) (v := .bool (!decide ((((gi a i_1).2.1) : T_api_Addr) = ((gi b i_1).2.1)))) rfl rfl (by kernel_rfl) (by kernel_rfl) (want_none) rfl (fun _ ⟨hL_a, hL_b⟩ => q_pickK false rfl c_3 rfl) ?_
        refine HA.val (k := 24) (v := .bool (!decide ((((gi a i_1).2.1) : T_api_Addr) = ((gi b i_1).2.1)))) rfl rfl (by kernel_rfl) (by kernel_rfl) (want_none) rfl (fun _ ⟨hL_a, hL_b⟩ => q_move rfl) ?_
        rcases Bool.eq_false_or_eq_true (!decide ((((gi a i_1).2.1) : T_api_Addr) = ((gi b i_1).2.1))) with c_4 | c_4
        · replace hM := hM.1 (nd_true c_4)
          refine HA.past (k := 25) rfl rfl (by kernel_rfl) (by kernel_rfl) (past_by rfl rfl c_4) rfl ?_
          refine HA.past (k := 26) rfl rfl (by kernel_rfl) (by kernel_rfl) (past_by rfl rfl c_4) rfl ?_
          refine HA.past (k := 27) rfl rfl (by kernel_rfl) (by kernel_rfl) (past_by rfl rfl c_4) rfl ?_
          refine HA.past (k := 28) rfl rfl (by kernel_rfl) (by kernel_rfl) (past_by rfl rfl c_4) rfl ?_
          refine HA.past (k := 29) rfl rfl (by kernel_rfl) (by kernel_rfl) (past_by rfl rfl c_4) rfl ?_
          refine HA.past (k := 30) rfl rfl (by kernel_rfl) (by kernel_rfl) (past_by rfl rfl c_4) rfl ?_
          refine HA.past (k := 31) rfl rfl (by kernel_rfl) (by kernel_rfl) (past_by rfl rfl c_4) rfl ?_
          refine HA.past (k := 32) rfl rfl (by kernel_rfl) (by kernel_rfl) (past_by rfl rfl c_4) rfl ?_
          refine HA.past (k := 33) rfl rfl (by kernel_rfl) (by kernel_rfl) (past_by rfl rfl c_4) rfl ?_
          refine HA.past (k := 34) rfl rfl (by kernel_rfl) (by kernel_rfl) (past_by rfl rfl c_4) rfl ?_
          refine HA.one (k := 35) ⟨⟨hL_a.is, hL_b.is⟩, (Go.Wk.at_nil _ _)⟩ (by kernel_rfl) ?_
          refine HS.past rfl (past_by rfl rfl c_4) rfl ?_
          refine HA.past (k := 36) rfl rfl (by kernel_rfl) (by kernel_rfl) (past_by rfl rfl c_4) rfl ?_
          refine HA.val (k := 37) (v := .bool true) rfl rfl (by kernel_rfl) (by kernel_rfl) (want_none) rfl (fun _ ⟨hL_a, hL_b⟩ => q_pickK true rfl c_4 rfl) ?_
          refine HA.nil ⟨⟨hL_a.is, hL_b.is⟩, (Go.Wk.at_nil _ _)⟩ (by kernel_rfl) (thenQ_normal (?_))
          refine HW.condT rfl ?_
          refine HW.seq ?_
          refine HW.region ?_
          refine HO.val (v := .bool false) (want_none) rfl (q_assign rfl) ?_
          refine HO.nil (thenQ_normal (?_))
          refine HW.ret (blockQ_ret (thenQ_ret (thenQ_ret (blockQ_ret (thenQ_ret (?_))))))
          refine ⟨.inr rfl, .bool false, res1 rfl (rt rfl), ?_⟩
          exact ⟨F_1, false, rfl, hK, hS, hN_a, hL_a, hN_b, hL_b, hM⟩
        · replace hM := hM.2 (nd_false c_4)
          refine HA.val (k := 25) (v := va) rfl rfl (by kernel_rfl) (by kernel_rfl) (want_by rfl rfl c_4) rfl (fun _ ⟨hL_a, hL_b⟩ => q_move rfl) ?_
          refine HA.val (k := 26) (v := .int .i64 i_1) rfl rfl (by kernel_rfl) (by kernel_rfl) (want_by rfl rfl c_4) rfl (fun _ ⟨hL_a, hL_b⟩ => q_move rfl) ?_
          refine HA.val (k := 27) (v := elemPtr 19 va (i_1).toNat) rfl rfl (by kernel_rfl) (by kernel_rfl) (want_by rfl rfl c_4) rfl (fun _ ⟨hL_a, hL_b⟩ => q_idx ts_31 hL_a rfl rfl ho_1) ?_
          refine HA.val (k := 28) (v := fieldPtr 19 va (i_1).toNat 18) rfl rfl (by kernel_rfl) (by kernel_rfl) (want_by rfl rfl c_4) rfl (fun _ ⟨hL_a, hL_b⟩ => q_fldElem fa_40_2 hL_a rfl ho_1) ?_
          refine HA.val (k := 29) (v := ((gi a i_1).2.2).1) rfl rfl (by kernel_rfl) (by kernel_rfl) (want_by rfl rfl c_4) rfl (fun _ ⟨hL_a, hL_b⟩ => q_ldField to_22 hL_a rfl ho_1 (by decide) rfl) ?_
          refine HA.val (k := 30) (v := vb) rfl rfl (by kernel_rfl) (by kernel_rfl) (want_by rfl rfl c_4) rfl (fun _ ⟨hL_a, hL_b⟩ => q_move rfl) ?_
          refine HA.val (k := 31) (v := .int .i64 i_1) rfl rfl (by kernel_rfl) (by kernel_rfl) (want_by rfl rfl c_4) rfl (fun _ ⟨hL_a, hL_b⟩ => q_move rfl) ?_
          refine HA.val (k := 32) (v := elemPtr 19 vb (i_1).toNat) rfl rfl (by kernel_rfl) (by kernel_rfl) (want_by rfl rfl c_4) rfl (fun _ ⟨hL_a, hL_b⟩ => q_idx ts_31 hL_b rfl rfl ho_2) ?_
          refine HA.val (k := 33) (v := fieldPtr 19 vb (i_1).toNat 18) rfl rfl (by kernel_rfl) (by kernel_rfl) (want_by rfl rfl c_4) rfl (fun _ ⟨hL_a, hL_b⟩ => q_fldElem fa_40_2 hL_b rfl ho_2) ?_
          refine HA.val (k := 34) (v := ((gi b i_1).2.2).1) rfl rfl (by kernel_rfl) (by kernel_rfl) (want_by rfl rfl c_4) rfl (fun _ ⟨hL_a, hL_b⟩ => q_ldField to_22 hL_b rfl ho_2 (by decide) rfl) ?_
          refine HA.one (k := 35) ⟨⟨hL_a.is, hL_b.is⟩, (Go.Wk.at_nil _ _)⟩ (by kernel_rfl) ?_
          refine HS.call rfl (want_by rfl rfl c_4) rfl (ec en_49 rfl rfl) (ref08_SameAddrs_walk (fr := (fr)) (((gi a i_1).2.2).2) (((gi b i_1).2.2).2) (((gi a i_1).2.2).1) (((gi b i_1).2.2).1) hS (nff_api_Record_18 (NfL.at hN_a ho_1)) (nff_api_Record_18 (NfL.at hN_b ho_2)) hM) ?_
          rintro _ h_2 ⟨F_2, r_2, rfl, hk, hS, _, _, hM⟩
          replace hK := hK.trans hk
          replace hN_a := hN_a.kp hk
          replace hL_a := hL_a.kp hk
          replace hN_b := hN_b.kp hk
          replace hL_b := hL_b.kp hk
          refine HA.val (k := 36) (v := .bool (!r_2)) rfl rfl (by kernel_rfl) (by kernel_rfl) (want_by rfl rfl c_4) rfl (fun _ ⟨hL_a, hL_b⟩ => q_not rfl) ?_
          refine HA.val (k := 37) (v := .bool (!r_2)) rfl rfl (by kernel_rfl) (by kernel_rfl) (want_none) rfl (fun _ ⟨hL_a, hL_b⟩ => q_pickK false rfl c_4 rfl) ?_
          refine HA.nil ⟨⟨hL_a.is, hL_b.is⟩, (Go.Wk.at_nil _ _)⟩ (by kernel_rfl) (thenQ_normal (?_))
          refine HW.cond (!r_2) rfl (fun c_5 => ?_) (fun c_5 => ?_)
          · replace hM := hM.1 c_5
            refine HW.seq ?_
            refine HW.region ?_
            refine HO.val (v := .bool false) (want_none) rfl (q_assign rfl) ?_
            refine HO.nil (thenQ_normal (?_))
            refine HW.ret (blockQ_ret (thenQ_ret (thenQ_ret (blockQ_ret (thenQ_ret (?_))))))
            refine ⟨.inr rfl, .bool false, res1 rfl (rt rfl), ?_⟩
            exact ⟨F_2, false, rfl, hK, hS, hN_a, hL_a, hN_b, hL_b, hM⟩
          · replace hM := hM.2 c_5
            refine HW.skip (blockQ_normal (thenQ_normal (?_)))
            refine HW.region ?_
            refine HO.val (v := .int .i64 i_1) (want_none) rfl (q_move rfl) ?_
            obtain ⟨ho_3, hM⟩ := hM
            refine HO.val (v := .int .i64 (i_1 + 1)) (want_none) rfl (q_addN _ rfl rfl rfl ho_3.1 ho_3.2) ?_
            refine HO.val (v := .int .i64 (i_1 + 1)) (want_none) rfl (q_assign rfl) ?_
            refine HO.nil (thenQ_normal (?_))
            rw [hKe_1] at hM
            exact ⟨i_1 + 1, ⟨F_2, rfl, rfl, rfl, rfl, hK, hS, hN_a, hL_a, hN_b, hL_b, hM.1⟩, hM.2⟩
    · replace hM := hM.2 (of_decide_eq_false c_2)
      refine HW.exit (thenQ_exit (thenQ_exit (blockQ_exit (thenQ_normal (?_)))))
      refine HW.seq ?_
      refine HW.region ?_
      refine HO.val (v := .bool true) (want_none) rfl (q_assign rfl) ?_
      refine HO.nil (thenQ_normal (?_))
      refine HW.ret (?_)
      refine ⟨.inr rfl, .bool true, res1 rfl (rt rfl), ?_⟩
      exact ⟨F_1, true, rfl, hK, hS, hN_a, hL_a, hN_b, hL_b, hM⟩

def slices_IndexFunc_s_api_Addr_api_Addr_l1 (s1 : List T_api_Addr) (cf_f : T_api_Addr → Bool) (Q : Int → Prop) (K_1 : Int → Prop) (n_1 : Int) : Prop :=
  (n_1 < (s1.length : Int) → ((0 : Int) ≤ n_1 ∧ n_1 < (s1.length : Int)) ∧ (((cf_f (gi s1 n_1)) = true → Q n_1) ∧ ((cf_f (gi s1 n_1)) = false → (I64 (n_1 + 1)) ∧ (K_1 (n_1 + 1))))) ∧ (¬ (n_1 < (s1.length : Int)) → Q (-1))
def slices_IndexFunc_s_api_Addr_api_Addr_W (s1 : List T_api_Addr) (cf_f : T_api_Addr → Bool) (Q : Int → Prop) : Prop :=
  loopW (fun (K_1 : Int → Prop) (s : Int) => slices_IndexFunc_s_api_Addr_api_Addr_l1 s1 cf_f Q K_1 s) 0
set_option maxHeartbeats 40000000 in
set_option maxRecDepth 100000 in
theorem slices_IndexFunc_s_api_Addr_api_Addr_walk {F : Fz} {fr : List Ow} {h0 : Heap} (s1 : List T_api_Addr) (cf_f : T_api_Addr → Bool) (vs : Value) (g_f : Nat) (fs_f : Array Value) (cs_f : Array Value) (hS : St F (fr) h0) (hL_s1 : SliceF F h0 17 e_api_Addr vs s1) (hF_cf_f : FnP Tryd.prog F h0 g_f fs_f cs_f (fun x : T_api_Addr => [.agg (e_api_Addr x).toArray]) (fun x => .bool (cf_f x))) {Q : Int → Prop} (hM : slices_IndexFunc_s_api_Addr_api_Addr_W s1 cf_f Q) :
    HC Tryd.prog 70 #[vs, .func (.func g_f) fs_f cs_f] h0 fun u h' => ∃ (F' : Fz) (r_1 : Int), u = .int .i64 r_1 ∧ Kp F h0 F' h' ∧ St F' (fr) h' ∧ (SliceF F' h' 17 e_api_Addr vs s1) ∧ (FnP Tryd.prog F' h' g_f fs_f cs_f (fun x : T_api_Addr => [.agg (e_api_Addr x).toArray]) (fun x => .bool (cf_f x))) ∧ Q r_1 := by
  unfold slices_IndexFunc_s_api_Addr_api_Addr_W at hM
  have hK := Kp.refl F h0
  refine HC.of_HW (n := 19) Tryd.func70 rfl rfl (Nat.le_of_ble_eq_true rfl) ?_
  refine HW.seq ?_
  refine HW.region ?_
  refine HO.val (v := .int .i64 0) (want_none) rfl (q_assign rfl) ?_
  refine HO.nil (thenQ_normal (?_))
  refine HW.seq ?_
  refine HW.seq ?_
  refine HW.region ?_
  refine HO.val (v := vs) (want_none) rfl (q_move rfl) ?_
  refine HO.val (v := .int .i64 (s1.length : Int)) (want_none) rfl (q_len ts_22 (shp hL_s1.is) rfl rfl) ?_
  refine HO.val (v := .int .i64 0) (want_none) rfl (q_move rfl) ?_
  refine HO.nil (thenQ_normal (?_))
  refine HW.block ?_
  obtain ⟨I_1, m_1, hI_1, hR_1⟩ := hM
  refine HW.loop (S := Int) (fun n_1 f h => ∃ (F' : Fz), f 0 = vs ∧ f 1 = .func (.func g_f) fs_f cs_f ∧ f 4 = .int .i64 0 ∧ f 7 = .int .i64 (s1.length : Int) ∧ f 8 = .int .i64 n_1 ∧ Kp F h0 F' h ∧ St F' (fr) h ∧ (SliceF F' h 17 e_api_Addr vs s1) ∧ (FnP Tryd.prog F' h g_f fs_f cs_f (fun x : T_api_Addr => [.agg (e_api_Addr x).toArray]) (fun x => .bool (cf_f x))) ∧ I_1 n_1) m_1 0 ⟨F, rfl, rfl, rfl, rfl, rfl, hK, hS, hL_s1, hF_cf_f, hI_1⟩ ?_
  rintro n_1 f_1 h_1 ⟨F_1, e0, e1, e4, e7, e8, hK, hS, hL_s1, hF_cf_f, hI0⟩
  obtain ⟨K_1, hKe_1⟩ : ∃ K : Int → Prop, K = fun n_1' => I_1 n_1' ∧ m_1 n_1' < m_1 n_1 := ⟨_, rfl⟩
  have hM : slices_IndexFunc_s_api_Addr_api_Addr_l1 s1 cf_f Q K_1 n_1 := by rw [hKe_1]; exact hR_1 n_1 hI0
  unfold slices_IndexFunc_s_api_Addr_api_Addr_l1 at hM
  refine HW.fr [(0, vs), (1, .func (.func g_f) fs_f cs_f), (4, .int .i64 0), (7, .int .i64 (s1.length : Int)), (8, .int .i64 n_1)] ⟨e0, e1, e4, e7, e8, trivial⟩ ?_
  refine HW.seq ?_
  refine HW.region ?_
  refine HO.val (v := .bool (decide (n_1 < (s1.length : Int)))) (want_none) rfl (q_lss rfl rfl) ?_
  refine HO.nil (thenQ_normal (?_))
  refine HW.seq ?_
  refine HW.cond (decide (n_1 < (s1.length : Int))) rfl (fun c_1 => ?_) (fun c_1 => ?_)
  · replace hM := hM.1 (of_decide_eq_true c_1)
    refine HW.skip (thenQ_normal (?_))
    refine HW.seq ?_
    refine HW.block ?_
    refine HW.seq ?_
    refine HW.region ?_
    refine HO.val (v := .int .i64 n_1) (want_none) rfl (q_move rfl) ?_
    refine HO.val (v := .int .i64 n_1) (want_none) rfl (q_assign rfl) ?_
    refine HO.nil (thenQ_normal (?_))
    refine HW.seq ?_
    refine HW.region ?_
    refine HO.val (v := .func (.func g_f) fs_f cs_f) (want_none) rfl (q_move rfl) ?_
    refine HO.val (v := vs) (want_none) rfl (q_move rfl) ?_
    refine HO.val (v := .int .i64 n_1) (want_none) rfl (q_move rfl) ?_
    obtain ⟨ho_1, hM⟩ := hM
    refine HO.val (v := elemPtr 17 vs (n_1).toNat) (want_none) rfl (q_idx ts_22 hL_s1.is rfl rfl ho_1) ?_
    refine HO.val (v := .agg (e_api_Addr (gi s1 n_1)).toArray) (want_none) rfl (q_ldElemAgg (cs := (e_api_Addr (gi s1 n_1))) ta_27 hL_s1.is rfl ho_1 rfl) ?_
    refine HO.call (want_none) rfl (hF_cf_f.ec (gi s1 n_1) rfl rfl) (hF_cf_f.hc (gi s1 n_1) hS) ?_
    rintro _ h_2 ⟨rfl, hS, hk⟩
    replace hK := hK.trans hk
    replace hL_s1 := hL_s1.kp hk
    replace hF_cf_f := hF_cf_f.kp hk
    refine HO.nil (thenQ_normal (?_))
    refine HW.cond (cf_f (gi s1 n_1)) rfl (fun c_2 => ?_) (fun c_2 => ?_)
    · replace hM := hM.1 c_2
      refine HW.seq ?_
      refine HW.region ?_
      refine HO.val (v := .int .i64 n_1) (want_none) rfl (q_move rfl) ?_
      refine HO.val (v := .int .i64 n_1) (want_none) rfl (q_assign rfl) ?_
      refine HO.nil (thenQ_normal (?_))
      refine HW.ret (blockQ_ret (thenQ_ret (thenQ_ret (blockQ_ret (thenQ_ret (?_))))))
      refine ⟨.inr rfl, .int .i64 n_1, res1 rfl (rt rfl), ?_⟩
      exact ⟨F_1, n_1, rfl, hK, hS, hL_s1, hF_cf_f, hM⟩
    · replace hM := hM.2 c_2
      refine HW.skip (blockQ_normal (thenQ_normal (?_)))
      refine HW.region ?_
      obtain ⟨ho_2, hM⟩ := hM
      refine HO.val (v := .int .i64 (n_1 + 1)) (want_none) rfl (q_addN _ rfl rfl rfl ho_2.1 ho_2.2) ?_
      refine HO.val (v := .int .i64 (n_1 + 1)) (want_none) rfl (q_move rfl) ?_
      refine HO.nil (thenQ_normal (?_))
      rw [hKe_1] at hM
      exact ⟨n_1 + 1, ⟨F_1, rfl, rfl, rfl, rfl, rfl, hK, hS, hL_s1, hF_cf_f, hM.1⟩, hM.2⟩
  · replace hM := hM.2 (of_decide_eq_false c_1)
    refine HW.exit (thenQ_exit (thenQ_exit (blockQ_exit (thenQ_normal (?_)))))
    refine HW.seq ?_
    refine HW.region ?_
    refine HO.val (v := .int .i64 (-1)) (want_none) rfl (q_assign rfl) ?_
    refine HO.nil (thenQ_normal (?_))
    refine HW.ret (?_)
    refine ⟨.inr rfl, .int .i64 (-1), res1 rfl (rt rfl), ?_⟩
    exact ⟨F_1, (-1), rfl, hK, hS, hL_s1, hF_cf_f, hM⟩

def slices_DeleteFunc_s_api_Addr_api_Addr_l2 (cf_del : T_api_Addr → Bool) (Q : (List T_api_Addr) → Prop) (K_1 : (List T_api_Addr) → Int → Int → Prop) (l_1 : List T_api_Addr) (i_1 : Int) (j_1 : Int) : Prop :=
  (j_1 < (l_1.length : Int) → ((0 : Int) ≤ j_1 ∧ j_1 < (l_1.length : Int)) ∧ (((!(cf_del (gi l_1 j_1))) = true → ((0 : Int) ≤ i_1 ∧ i_1 < (l_1.length : Int)) ∧ ((I64 (i_1 + 1)) ∧ ((I64 (j_1 + 1)) ∧ (K_1 (l_1.set (i_1).toNat (gi l_1 j_1)) (i_1 + 1) (j_1 + 1))))) ∧ ((!(cf_del (gi l_1 j_1))) = false → (I64 (j_1 + 1)) ∧ (K_1 l_1 i_1 (j_1 + 1))))) ∧ (¬ (j_1 < (l_1.length : Int)) → ((0 : Int) ≤ i_1 ∧ i_1 ≤ (l_1.length : Int)) ∧ (((0 : Int) ≤ i_1 ∧ i_1 ≤ (l_1.length : Int) ∧ (l_1.length : Int) ≤ (l_1.length : Int)) ∧ (((0 : Int) ≤ i_1 ∧ i_1 ≤ ((clr l_1 i_1 (l_1.length : Int)).length : Int)) ∧ (Q (cut (clr l_1 i_1 (l_1.length : Int)) 0 i_1)))))
def slices_DeleteFunc_s_api_Addr_api_Addr_W (s1 : List T_api_Addr) (cf_del : T_api_Addr → Bool) (Q : (List T_api_Addr) → Prop) : Prop :=
  slices_IndexFunc_s_api_Addr_api_Addr_W s1 cf_del (fun r_2 => (r_2 = (-1) → Q s1) ∧ (¬ (r_2 = (-1)) → (I64 (r_2 + 1)) ∧ (loopW (fun (K_1 : (List T_api_Addr × Int × Int) → Prop) (s : List T_api_Addr × Int × Int) => slices_DeleteFunc_s_api_Addr_api_Addr_l2 cf_del Q (fun l_1 i_1 j_1 => K_1 (l_1, i_1, j_1)) s.1 s.2.1 s.2.2) (s1, r_2, r_2 + 1))))
set_option maxHeartbeats 40000000 in
set_option maxRecDepth 100000 in
theorem slices_DeleteFunc_s_api_Addr_api_Addr_walk {F : Fz} {fr : List Ow} {h0 : Heap} (s1 : List T_api_Addr) (cf_del : T_api_Addr → Bool) (vs : Value) (g_del : Nat) (fs_del : Array Value) (cs_del : Array Value) (hS : St F (Ow.own 27 17 e_api_Addr vs s1 :: fr) h0) (hF_cf_del : FnP Tryd.prog F h0 g_del fs_del cs_del (fun x : T_api_Addr => [.agg (e_api_Addr x).toArray]) (fun x => .bool (cf_del x))) {Q : (List T_api_Addr) → Prop} (hM : slices_DeleteFunc_s_api_Addr_api_Addr_W s1 cf_del Q) :
    HC Tryd.prog 55 #[vs, .func (.func g_del) fs_del cs_del] h0 fun u h' => ∃ (F' : Fz) (r_1 : List T_api_Addr) (vr_1 : Value), u = vr_1 ∧ Kp F h0 F' h' ∧ St F' (Ow.own 27 17 e_api_Addr vr_1 r_1 :: fr) h' ∧ (FnP Tryd.prog F' h' g_del fs_del cs_del (fun x : T_api_Addr => [.agg (e_api_Addr x).toArray]) (fun x => .bool (cf_del x))) ∧ Q r_1 := by
  unfold slices_DeleteFunc_s_api_Addr_api_Addr_W at hM
  have hK := Kp.refl F h0
  refine HC.of_HW (n := 42) Tryd.func55 rfl rfl (Nat.le_of_ble_eq_true rfl) ?_
  refine HW.seq ?_
  refine HW.region ?_
  refine HO.val (v := .slice none 0 0) (want_none) rfl (q_assign rfl) ?_
  refine HO.nil (thenQ_normal (?_))
  refine HW.seq ?_
  refine HW.region ?_
  refine HO.val (v := vs) (want_none) rfl (q_move rfl) ?_
  refine HO.val (v := .func (.func g_del) fs_del cs_del) (want_none) rfl (q_move rfl) ?_
  have hZ_1 := hS
  have hkz_1 := (hS.freeze).2
  replace hS := hS.freeze.1
  have hL_1 : SliceF (fun b => F b ∨ (Ow.own 27 17 e_api_Addr vs s1).foot b) h0 17 e_api_Addr vs s1 := ⟨(hZ_1.own 0 rfl).slice, fun _ b hb => .inr hb⟩
  refine HO.call (want_none) rfl (ec en_70 rfl rfl) (slices_IndexFunc_s_api_Addr_api_Addr_walk (fr := (fr)) s1 cf_del vs g_del fs_del cs_del hS hL_1 (hF_cf_del.kp hkz_1) hM) ?_
  rintro _ h_1 ⟨F_1, r_2, rfl, hk, hS, _, _, hM⟩
  obtain ⟨hS, hk⟩ := hZ_1.back hk hS
  generalize (fun b => F_1 b ∧ ¬ (Ow.own 27 17 e_api_Addr vs s1).foot b) = F_2 at hS hk
  replace hK := hK.trans hk
  replace hF_cf_del := hF_cf_del.kp hk
  refine HO.val (v := .int .i64 r_2) (want_none) rfl (q_assign rfl) ?_
  refine HO.nil (thenQ_normal (?_))
  refine HW.seq ?_
  refine HW.seq ?_
  refine HW.region ?_
  refine HO.val (v := .int .i64 r_2) (want_none) rfl (q_move rfl) ?_
  refine HO.val (v := .bool (decide (r_2 = (-1)))) (want_none) rfl (q_eql rfl rfl) ?_
  refine HO.nil (thenQ_normal (?_))
  refine HW.cond (decide (r_2 = (-1))) rfl (fun c_1 => ?_) (fun c_1 => ?_)
  · replace hM := hM.1 (of_decide_eq_true c_1)
    refine HW.seq ?_
    refine HW.region ?_
    refine HO.val (v := vs) (want_none) rfl (q_move rfl) ?_
    refine HO.val (v := vs) (want_none) rfl (q_assign rfl) ?_
    refine HO.nil (thenQ_normal (?_))
    refine HW.ret (thenQ_ret (?_))
    refine ⟨.inr rfl, vs, res1 rfl (rt rfl), ?_⟩
    exact ⟨F_2, s1, vs, rfl, hK, hS, hF_cf_del, hM⟩
  · replace hM := hM.2 (of_decide_eq_false c_1)
    refine HW.skip (thenQ_normal (?_))
    refine HW.seq ?_
    refine HW.seq ?_
    refine HW.region ?_
    refine HO.val (v := .int .i64 r_2) (want_none) rfl (q_move rfl) ?_
    obtain ⟨ho_1, hM⟩ := hM
    refine HO.val (v := .int .i64 (r_2 + 1)) (want_none) rfl (q_addN _ rfl rfl rfl ho_1.1 ho_1.2) ?_
    refine HO.val (v := .int .i64 (r_2 + 1)) (want_none) rfl (q_assign rfl) ?_
    refine HO.nil (thenQ_normal (?_))
    refine HW.block ?_
    obtain ⟨I_1, m_1, hI_1, hR_1⟩ := hM
    refine HW.loop (S := List T_api_Addr × Int × Int) (fun s f h => match s with | (l_1, i_1, j_1) => ∃ (F' : Fz), f 0 = vs ∧ f 1 = .func (.func g_del) fs_del cs_del ∧ f 4 = .slice none 0 0 ∧ f 5 = .int .i64 i_1 ∧ f 6 = .int .i64 j_1 ∧ Kp F h0 F' h ∧ St F' (Ow.own 27 17 e_api_Addr vs l_1 :: fr) h ∧ (FnP Tryd.prog F' h g_del fs_del cs_del (fun x : T_api_Addr => [.agg (e_api_Addr x).toArray]) (fun x => .bool (cf_del x))) ∧ I_1 (l_1, i_1, j_1)) m_1 (s1, r_2, r_2 + 1) ⟨F_2, rfl, rfl, rfl, rfl, rfl, hK, hS, hF_cf_del, hI_1⟩ ?_
    rintro ⟨l_1, i_1, j_1⟩ f_1 h_2 ⟨F_3, e0, e1, e4, e5, e6, hK, hS, hF_cf_del, hI0⟩
    obtain ⟨K_1, hKe_1⟩ : ∃ K : (List T_api_Addr) → Int → Int → Prop, K = fun l_1' i_1' j_1' => I_1 (l_1', i_1', j_1') ∧ m_1 (l_1', i_1', j_1') < m_1 (l_1, i_1, j_1) := ⟨_, rfl⟩
    have hM : slices_DeleteFunc_s_api_Addr_api_Addr_l2 cf_del Q K_1 l_1 i_1 j_1 := by rw [hKe_1]; exact hR_1 (l_1, i_1, j_1) hI0
    unfold slices_DeleteFunc_s_api_Addr_api_Addr_l2 at hM
    refine HW.fr [(0, vs), (1, .func (.func g_del) fs_del cs_del), (4, .slice none 0 0), (5, .int .i64 i_1), (6, .int .i64 j_1)] ⟨e0, e1, e4, e5, e6, trivial⟩ ?_
    refine HW.seq ?_
    refine HW.seq ?_
    refine HW.region ?_
    refine HO.val (v := .int .i64 j_1) (want_none) rfl (q_move rfl) ?_
    refine HO.val (v := vs) (want_none) rfl (q_move rfl) ?_
    refine HO.val (v := .int .i64 (l_1.length : Int)) (want_none) rfl (q_len ts_22 (shp (hS.own 0 rfl).slice) rfl rfl) ?_
    refine HO.val (v := .bool (decide (j_1 < (l_1.length : Int)))) (want_none) rfl (q_lss rfl rfl) ?_
    refine HO.nil (thenQ_normal (?_))
    refine HW.cond (decide (j_1 < (l_1.length : Int))) rfl (fun c_2 => ?_) (fun c_2 => ?_)
    · replace hM := hM.1 (of_decide_eq_true c_2)
      refine HW.skip (thenQ_normal (?_))
      refine HW.seq ?_
      refine HW.block ?_
      refine HW.seq ?_
      refine HW.region ?_
      refine HO.val (v := vs) (want_none) rfl (q_move rfl) ?_
      refine HO.val (v := .int .i64 j_1) (want_none) rfl (q_move rfl) ?_
      obtain ⟨ho_2, hM⟩ := hM
      refine HO.val (v := elemPtr 17 vs (j_1).toNat) (want_none) rfl (q_idx ts_22 (hS.own 0 rfl).slice rfl rfl ho_2) ?_
      refine HO.val (v := .agg (e_api_Addr (gi l_1 j_1)).toArray) (want_none) rfl (q_ldElemAgg (cs := (e_api_Addr (gi l_1 j_1))) ta_27 (hS.own 0 rfl).slice rfl ho_2 rfl) ?_
      refine HO.eff (want_none) rfl (st_alloc (c := (e_api_Addr (false, (default : Ba 16))).toArray) hS tz_27 rfl) ?_
      rintro _ h_3 ⟨b_1, rfl, hS, hk⟩
      replace hK := hK.trans hk
      replace hF_cf_del := hF_cf_del.kp hk
      refine HO.sto (want_none) rfl (st_storeAgg (c' := (e_api_Addr (gi l_1 j_1)).toArray) hS (i := 0) rfl ta_27 rfl rfl rfl (one_e_api_Addr _) (Nat.le_of_ble_eq_true rfl) rfl) ?_
      rintro h_4 ⟨hS, hk⟩
      replace hS : St F_3 (Ow.box b_1 27 (e_api_Addr (gi l_1 j_1)).toArray :: Ow.own 27 17 e_api_Addr vs l_1 :: fr) h_4 := hS
      replace hK := hK.trans hk
      replace hF_cf_del := hF_cf_del.kp hk
      refine HO.nil (thenQ_normal (?_))
      refine HW.seq ?_
      refine HW.region ?_
      refine HO.val (v := .func (.func g_del) fs_del cs_del) (want_none) rfl (q_move rfl) ?_
      refine HO.val (v := .agg (e_api_Addr (gi l_1 j_1)).toArray) (want_none) rfl (q_loadAgg (cs := (e_api_Addr (gi l_1 j_1))) ta_27 rfl rfl (Blk.cells (k := 17) (hS.box 0 rfl) rfl)) ?_
      refine HO.call (want_none) rfl (hF_cf_del.ec (gi l_1 j_1) rfl rfl) (hF_cf_del.hc (gi l_1 j_1) hS) ?_
      rintro _ h_5 ⟨rfl, hS, hk⟩
      replace hK := hK.trans hk
      replace hF_cf_del := hF_cf_del.kp hk
      refine HO.val (v := .bool (!(cf_del (gi l_1 j_1)))) (want_none) rfl (q_not rfl) ?_
      refine HO.nil (thenQ_normal (?_))
      refine HW.cond (!(cf_del (gi l_1 j_1))) rfl (fun c_3 => ?_) (fun c_3 => ?_)
      · replace hM := hM.1 c_3
        refine HW.seq ?_
        refine HW.region ?_
        refine HO.val (v := vs) (want_none) rfl (q_move rfl) ?_
        refine HO.val (v := .int .i64 i_1) (want_none) rfl (q_move rfl) ?_
        refine HO.val (v := .agg (e_api_Addr (gi l_1 j_1)).toArray) (want_none) rfl (q_loadAgg (cs := (e_api_Addr (gi l_1 j_1))) ta_27 rfl rfl (Blk.cells (k := 17) (hS.box 0 rfl) rfl)) ?_
        obtain ⟨ho_3, hM⟩ := hM
        refine HO.val (v := elemPtr 17 vs (i_1).toNat) (want_none) rfl (q_idx ts_22 (hS.own 1 rfl).slice rfl rfl ho_3) ?_
        refine HO.sto (want_none) rfl (st_storeElem (a := (gi l_1 j_1)) (t := i_1) hS (i := 1) rfl ta_27 rfl ho_3 rfl rfl rfl (one_e_api_Addr _)) ?_
        rintro h_6 ⟨hS, hk⟩
        replace hS : St F_3 (Ow.box b_1 27 (e_api_Addr (gi l_1 j_1)).toArray :: Ow.own 27 17 e_api_Addr vs (l_1.set (i_1).toNat (gi l_1 j_1)) :: fr) h_6 := hS
        replace hK := hK.trans hk
        replace hF_cf_del := hF_cf_del.kp hk
        refine HO.nil (thenQ_normal (?_))
        refine HW.region ?_
        refine HO.val (v := .int .i64 i_1) (want_none) rfl (q_move rfl) ?_
        obtain ⟨ho_4, hM⟩ := hM
        refine HO.val (v := .int .i64 (i_1 + 1)) (want_none) rfl (q_addN _ rfl rfl rfl ho_4.1 ho_4.2) ?_
        refine HO.val (v := .int .i64 (i_1 + 1)) (want_none) rfl (q_assign rfl) ?_
        refine HO.nil (blockQ_normal (thenQ_normal (?_)))
        refine HW.region ?_
        refine HO.val (v := .int .i64 j_1) (want_none) rfl (q_move rfl) ?_
        obtain ⟨ho_5, hM⟩ := hM
        refine HO.val (v := .int .i64 (j_1 + 1)) (want_none) rfl (q_addN _ rfl rfl rfl ho_5.1 ho_5.2) ?_
        refine HO.val (v := .int .i64 (j_1 + 1)) (want_none) rfl (q_assign rfl) ?_
        refine HO.nil (thenQ_normal (?_))
        replace hS : St F_3 (Ow.own 27 17 e_api_Addr vs (l_1.set (i_1).toNat (gi l_1 j_1)) :: fr) h_6 := hS.perm2 [1] 2 rfl rfl
        rw [hKe_1] at hM
        exact ⟨(l_1.set (i_1).toNat (gi l_1 j_1), i_1 + 1, j_1 + 1), ⟨F_3, rfl, rfl, rfl, rfl, rfl, hK, hS, hF_cf_del, hM.1⟩, hM.2⟩
      · replace hM := hM.2 c_3
        refine HW.skip (blockQ_normal (thenQ_normal (?_)))
        refine HW.region ?_
        refine HO.val (v := .int .i64 j_1) (want_none) rfl (q_move rfl) ?_
        obtain ⟨ho_6, hM⟩ := hM
        refine HO.val (v := .int .i64 (j_1 + 1)) (want_none) rfl (q_addN _ rfl rfl rfl ho_6.1 ho_6.2) ?_
        refine HO.val (v := .int .i64 (j_1 + 1)) (want_none) rfl (q_assign rfl) ?_
        refine HO.nil (thenQ_normal (?_))
        replace hS : St F_3 (Ow.own 27 17 e_api_Addr vs l_1 :: fr) h_5 := hS.perm2 [1] 2 rfl rfl
        rw [hKe_1] at hM
        exact ⟨(l_1, i_1, j_1 + 1), ⟨F_3, rfl, rfl, rfl, rfl, rfl, hK, hS, hF_cf_del, hM.1⟩, hM.2⟩
    · replace hM := hM.2 (of_decide_eq_false c_2)
      refine HW.exit (thenQ_exit (thenQ_exit (blockQ_exit (thenQ_normal (?_)))))
      refine HW.seq ?_
      refine HW.region ?_
      refine HO.val (v := vs) (want_none) rfl (q_move rfl) ?_
      refine HO.val (v := .int .i64 i_1) (want_none) rfl (q_move rfl) ?_
      obtain ⟨ho_7, hM⟩ := hM
      refine HO.val (v := cutV 17 vs (i_1).toNat ((l_1.length : Int)).toNat) (want_none) rfl (q_slL ts_22 (hS.own 0 rfl).slice rfl rfl ho_7) ?_
      obtain ⟨ho_8, hM⟩ := hM
      refine HO.eff (want_none) rfl (st_clearS (lo := i_1) (hi := (l_1.length : Int)) (z := .agg #[.bool false, .int .u8 0, .int .u8 0, .int .u8 0, .int .u8 0, .int .u8 0, .int .u8 0, .int .u8 0, .int .u8 0, .int .u8 0, .int .u8 0, .int .u8 0, .int .u8 0, .int .u8 0, .int .u8 0, .int .u8 0, .int .u8 0]) hS (i := 0) rfl te_22 tz_27 rfl (by intro u hu; simp [e_api_Addr, encI, encN, encB, encT, default] at hu; rcases hu with rfl | rfl | rfl | rfl | rfl | rfl | rfl | rfl | rfl | rfl | rfl | rfl | rfl | rfl | rfl | rfl | rfl <;> rfl) rfl ho_8 rfl) ?_
      rintro _ h_7 ⟨rfl, hS, hk⟩
      replace hS : St F_3 (Ow.own 27 17 e_api_Addr vs (clr l_1 i_1 (l_1.length : Int)) :: fr) h_7 := hS
      replace hK := hK.trans hk
      replace hF_cf_del := hF_cf_del.kp hk
      refine HO.nil (thenQ_normal (?_))
      refine HW.seq ?_
      refine HW.region ?_
      refine HO.val (v := vs) (want_none) rfl (q_move rfl) ?_
      refine HO.val (v := .int .i64 i_1) (want_none) rfl (q_move rfl) ?_
      obtain ⟨ho_9, hM⟩ := hM
      refine HO.val (v := cutV 17 vs (0 : Int).toNat (i_1).toNat) (want_none) rfl (q_slH ts_22 (hS.own 0 rfl).slice rfl rfl ho_9) ?_
      refine HO.val (v := cutV 17 vs (0 : Int).toNat (i_1).toNat) (want_none) rfl (q_assign rfl) ?_
      refine HO.nil (thenQ_normal (?_))
      refine HW.ret (?_)
      refine ⟨.inr rfl, cutV 17 vs (0 : Int).toNat (i_1).toNat, res1 rfl (rt rfl), ?_⟩
      replace hS := hS.shrink 0 rfl i_1 ho_9.1 ho_9.2
      replace hS : St F_3 (Ow.own 27 17 e_api_Addr (cutV 17 vs (0 : Int).toNat (i_1).toNat) (cut (clr l_1 i_1 (l_1.length : Int)) 0 i_1) :: fr) h_7 := hS
      exact ⟨F_3, cut (clr l_1 i_1 (l_1.length : Int)) 0 i_1, cutV 17 vs (0 : Int).toNat (i_1).toNat, rfl, hK, hS, hF_cf_del, hM⟩

def srcs_Of_1_W (a : T_api_Addr) (Q : Bool → Prop) : Prop :=
  addr_Good_W a (fun r_2 => Q (!r_2))
set_option maxHeartbeats 40000000 in
set_option maxRecDepth 100000 in
theorem srcs_Of_1_walk {F : Fz} {fr : List Ow} {h0 : Heap} (a : T_api_Addr) (hS : St F (fr) h0)  {Q : Bool → Prop} (hM : srcs_Of_1_W a Q) :
    HC Tryd.prog 56 #[.agg (e_api_Addr a).toArray] h0 fun u h' => ∃ (F' : Fz) (r_1 : Bool), u = .bool r_1 ∧ Kp F h0 F' h' ∧ St F' (fr) h' ∧ Q r_1 := by
  unfold srcs_Of_1_W at hM
  have hK := Kp.refl F h0
  refine HC.of_HW (n := 6) Tryd.func56 rfl rfl (Nat.le_of_ble_eq_true rfl) ?_
  refine HW.seq ?_
  refine HW.region ?_
  refine HO.eff (want_none) rfl (st_box (c := (e_api_Addr a).toArray) (k' := 17) hS rfl rfl) ?_
  rintro _ h_1 ⟨b_1, rfl, hS, hk⟩
  replace hK := hK.trans hk
  refine HO.val (v := .bool false) (want_none) rfl (q_assign rfl) ?_
  refine HO.nil (thenQ_normal (?_))
  refine HW.seq ?_
  refine HW.region ?_
  refine HO.val (v := .agg (e_api_Addr a).toArray) (want_none) rfl (q_loadAgg (cs := (e_api_Addr a)) ta_27 rfl rfl (Blk.cells (k := 17) (hS.box 0 rfl) rfl)) ?_
  refine HO.call (want_none) rfl (ec en_57 rfl rfl) (addr_Good_walk (fr := (Ow.box b_1 27 (e_api_Addr a).toArray :: fr)) a hS hM) ?_
  rintro _ h_2 ⟨F_1, r_2, rfl, hk, hS, hM⟩
  replace hK := hK.trans hk
  refine HO.val (v := .bool (!r_2)) (want_none) rfl (q_not rfl) ?_
  refine HO.val (v := .bool (!r_2)) (want_none) rfl (q_assign rfl) ?_
  refine HO.nil (thenQ_normal (?_))
  refine HW.ret (?_)
  refine ⟨.inr rfl, .bool (!r_2), res1 rfl (rt rfl), ?_⟩
  replace hS : St F_1 (fr) h_2 := hS.perm2 [] 1 rfl rfl
  exact ⟨F_1, !r_2, rfl, hK, hS, hM⟩

def slices_Compact_s_api_Addr_api_Addr_l3 (s1 : List T_api_Addr) (Q : (List T_api_Addr) → Prop) (k_1 : Int) (K_2 : (List T_api_Addr) → Int → Int → Prop) (l_2 : List T_api_Addr) (k_2 : Int) (k2_1 : Int) : Prop :=
  ((0 : Int) ≤ k_1 ∧ k_1 ≤ (s1.length : Int) ∧ (s1.length : Int) ≤ (l_2.length : Int)) ∧ ((k2_1 < ((cut l_2 k_1 (s1.length : Int)).length : Int) → ((0 : Int) ≤ k2_1 ∧ k2_1 < ((cut l_2 k_1 (s1.length : Int)).length : Int)) ∧ ((I64 (k2_1 - 1)) ∧ (((0 : Int) ≤ k2_1 - 1 ∧ k2_1 - 1 < ((cut l_2 k_1 (s1.length : Int)).length : Int)) ∧ ((¬ ((((gi (cut l_2 k_1 (s1.length : Int)) k2_1).1, ((gi (cut l_2 k_1 (s1.length : Int)) k2_1).2)) : T_api_Addr) = ((gi (cut l_2 k_1 (s1.length : Int)) (k2_1 - 1)).1, ((gi (cut l_2 k_1 (s1.length : Int)) (k2_1 - 1)).2))) → ((0 : Int) ≤ k_2 ∧ k_2 < (l_2.length : Int)) ∧ ((I64 (k_2 + 1)) ∧ ((I64 (k2_1 + 1)) ∧ (K_2 (l_2.set (k_2).toNat ((gi (cut l_2 k_1 (s1.length : Int)) k2_1).1, ((gi (cut l_2 k_1 (s1.length : Int)) k2_1).2))) (k_2 + 1) (k2_1 + 1))))) ∧ ((((gi (cut l_2 k_1 (s1.length : Int)) k2_1).1, ((gi (cut l_2 k_1 (s1.length : Int)) k2_1).2)) : T_api_Addr) = ((gi (cut l_2 k_1 (s1.length : Int)) (k2_1 - 1)).1, ((gi (cut l_2 k_1 (s1.length : Int)) (k2_1 - 1)).2)) → (I64 (k2_1 + 1)) ∧ (K_2 l_2 k_2 (k2_1 + 1))))))) ∧ (¬ (k2_1 < ((cut l_2 k_1 (s1.length : Int)).length : Int)) → ((0 : Int) ≤ k_2 ∧ k_2 ≤ (l_2.length : Int)) ∧ (((0 : Int) ≤ k_2 ∧ k_2 ≤ (l_2.length : Int) ∧ (l_2.length : Int) ≤ (l_2.length : Int)) ∧ (((0 : Int) ≤ k_2 ∧ k_2 ≤ ((clr l_2 k_2 (l_2.length : Int)).length : Int)) ∧ (Q (cut (clr l_2 k_2 (l_2.length : Int)) 0 k_2))))))
def slices_Compact_s_api_Addr_api_Addr_l1 (s1 : List T_api_Addr) (Q : (List T_api_Addr) → Prop) (K_1 : Int → Prop) (k_1 : Int) : Prop :=
  (k_1 < (s1.length : Int) → ((0 : Int) ≤ k_1 ∧ k_1 < (s1.length : Int)) ∧ ((I64 (k_1 - 1)) ∧ (((0 : Int) ≤ k_1 - 1 ∧ k_1 - 1 < (s1.length : Int)) ∧ ((((gi s1 k_1) : T_api_Addr) = (gi s1 (k_1 - 1)) → ((0 : Int) ≤ k_1 ∧ k_1 ≤ (s1.length : Int)) ∧ (loopW (fun (K_2 : (List T_api_Addr × Int × Int) → Prop) (s : List T_api_Addr × Int × Int) => slices_Compact_s_api_Addr_api_Addr_l3 s1 Q k_1 (fun l_2 k_2 k2_1 => K_2 (l_2, k_2, k2_1)) s.1 s.2.1 s.2.2) (s1, k_1, 1))) ∧ (¬ (((gi s1 k_1) : T_api_Addr) = (gi s1 (k_1 - 1))) → (I64 (k_1 + 1)) ∧ (K_1 (k_1 + 1))))))) ∧ (¬ (k_1 < (s1.length : Int)) → Q s1)
def slices_Compact_s_api_Addr_api_Addr_W (s1 : List T_api_Addr) (Q : (List T_api_Addr) → Prop) : Prop :=
  ((s1.length : Int) < 2 → Q s1) ∧ (¬ ((s1.length : Int) < 2) → loopW (fun (K_1 : Int → Prop) (s : Int) => slices_Compact_s_api_Addr_api_Addr_l1 s1 Q K_1 s) 1)
set_option maxHeartbeats 40000000 in
set_option maxRecDepth 100000 in
theorem slices_Compact_s_api_Addr_api_Addr_walk {F : Fz} {fr : List Ow} {h0 : Heap} (s1 : List T_api_Addr) (vs : Value) (hS : St F (Ow.own 27 17 e_api_Addr vs s1 :: fr) h0)  {Q : (List T_api_Addr) → Prop} (hM : slices_Compact_s_api_Addr_api_Addr_W s1 Q) :
    HC Tryd.prog 60 #[vs] h0 fun u h' => ∃ (F' : Fz) (r_1 : List T_api_Addr) (vr_1 : Value), u = vr_1 ∧ Kp F h0 F' h' ∧ St F' (Ow.own 27 17 e_api_Addr vr_1 r_1 :: fr) h' ∧ Q r_1 := by
  unfold slices_Compact_s_api_Addr_api_Addr_W at hM
  have hK := Kp.refl F h0
  refine HC.of_HW (n := 61) Tryd.func60 rfl rfl (Nat.le_of_ble_eq_true rfl) ?_
  refine HW.seq ?_
  refine HW.region ?_
  refine HO.val (v := .slice none 0 0) (want_none) rfl (q_assign rfl) ?_
  refine HO.nil (thenQ_normal (?_))
  refine HW.seq ?_
  refine HW.seq ?_
  refine HW.region ?_
  refine HO.val (v := vs) (want_none) rfl (q_move rfl) ?_
  refine HO.val (v := .int .i64 (s1.length : Int)) (want_none) rfl (q_len ts_22 (shp (hS.own 0 rfl).slice) rfl rfl) ?_
  refine HO.val (v := .bool (decide ((s1.length : Int) < 2))) (want_none) rfl (q_lss rfl rfl) ?_
  refine HO.nil (thenQ_normal (?_))
  refine HW.cond (decide ((s1.length : Int) < 2)) rfl (fun c_1 => ?_) (fun c_1 => ?_)
  · replace hM := hM.1 (of_decide_eq_true c_1)
    refine HW.seq ?_
    refine HW.region ?_
    refine HO.val (v := vs) (want_none) rfl (q_move rfl) ?_
    refine HO.val (v := vs) (want_none) rfl (q_assign rfl) ?_
    refine HO.nil (thenQ_normal (?_))
    refine HW.ret (thenQ_ret (?_))
    refine ⟨.inr rfl, vs, res1 rfl (rt rfl), ?_⟩
    exact ⟨F, s1, vs, rfl, hK, hS, hM⟩
  · replace hM := hM.2 (of_decide_eq_false c_1)
    refine HW.skip (thenQ_normal (?_))
    refine HW.seq ?_
    refine HW.seq ?_
    refine HW.region ?_
    refine HO.val (v := .int .i64 1) (want_none) rfl (q_assign rfl) ?_
    refine HO.nil (thenQ_normal (?_))
    refine HW.block ?_
    obtain ⟨I_1, m_1, hI_1, hR_1⟩ := hM
    refine HW.loop (S := Int) (fun k_1 f h => ∃ (F' : Fz), f 0 = vs ∧ f 2 = .slice none 0 0 ∧ f 3 = .int .i64 k_1 ∧ Kp F h0 F' h ∧ St F' (Ow.own 27 17 e_api_Addr vs s1 :: fr) h ∧ I_1 k_1) m_1 1 ⟨F, rfl, rfl, rfl, hK, hS, hI_1⟩ ?_
    rintro k_1 f_1 h_1 ⟨F_1, e0, e2, e3, hK, hS, hI0⟩
    obtain ⟨K_1, hKe_1⟩ : ∃ K : Int → Prop, K = fun k_1' => I_1 k_1' ∧ m_1 k_1' < m_1 k_1 := ⟨_, rfl⟩
    have hM : slices_Compact_s_api_Addr_api_Addr_l1 s1 Q K_1 k_1 := by rw [hKe_1]; exact hR_1 k_1 hI0
    unfold slices_Compact_s_api_Addr_api_Addr_l1 at hM
    refine HW.fr [(0, vs), (2, .slice none 0 0), (3, .int .i64 k_1)] ⟨e0, e2, e3, trivial⟩ ?_
    refine HW.seq ?_
    refine HW.seq ?_
    refine HW.region ?_
    refine HO.val (v := .int .i64 k_1) (want_none) rfl (q_move rfl) ?_
    refine HO.val (v := vs) (want_none) rfl (q_move rfl) ?_
    refine HO.val (v := .int .i64 (s1.length : Int)) (want_none) rfl (q_len ts_22 (shp (hS.own 0 rfl).slice) rfl rfl) ?_
    refine HO.val (v := .bool (decide (k_1 < (s1.length : Int)))) (want_none) rfl (q_lss rfl rfl) ?_
    refine HO.nil (thenQ_normal (?_))
    refine HW.cond (decide (k_1 < (s1.length : Int))) rfl (fun c_2 => ?_) (fun c_2 => ?_)
    · replace hM := hM.1 (of_decide_eq_true c_2)
      refine HW.skip (thenQ_normal (?_))
      refine HW.seq ?_
      refine HW.block ?_
      refine HW.seq ?_
      refine HW.regionA 10 mixed (fun h => (OwnIs h 0 27 17 e_api_Addr vs s1)) [] (by kernel_rfl) ?_
      refine HA.val (k := 0) (v := vs) rfl rfl (by kernel_rfl) (by kernel_rfl) (want_none) rfl (fun _ c303 => q_move rfl) ?_
      refine HA.val (k := 1) (v := .int .i64 k_1) rfl rfl (by kernel_rfl) (by kernel_rfl) (want_none) rfl (fun _ c303 => q_move rfl) ?_
      obtain ⟨ho_1, hM⟩ := hM
      refine HA.val (k := 2) (v := elemPtr 17 vs (k_1).toNat) rfl rfl (by kernel_rfl) (by kernel_rfl) (want_none) rfl (fun _ c303 => q_idx ts_22 c303.slice rfl rfl ho_1) ?_
      refine HA.val (k := 3) (v := .agg (e_api_Addr (gi s1 k_1)).toArray) rfl rfl (by kernel_rfl) (by kernel_rfl) (want_none) rfl (fun _ c303 => q_ldElemAgg (cs := (e_api_Addr (gi s1 k_1))) ta_27 c303.slice rfl ho_1 rfl) ?_
      refine HA.val (k := 4) (v := vs) rfl rfl (by kernel_rfl) (by kernel_rfl) (want_none) rfl (fun _ c303 => q_move rfl) ?_
      refine HA.val (k := 5) (v := .int .i64 k_1) rfl rfl (by kernel_rfl) (by kernel_rfl) (want_none) rfl (fun _ c303 => q_move rfl) ?_
      obtain ⟨ho_2, hM⟩ := hM
      refine HA.val (k := 6) (v := .int .i64 (k_1 - 1)) rfl rfl (by kernel_rfl) (by kernel_rfl) (want_none) rfl (fun _ c303 => q_subN _ rfl rfl rfl ho_2.1 ho_2.2) ?_
      obtain ⟨ho_3, hM⟩ := hM
      refine HA.val (k := 7) (v := elemPtr 17 vs (k_1 - 1).toNat) rfl rfl (by kernel_rfl) (by kernel_rfl) (want_none) rfl (fun _ c303 => q_idx ts_22 c303.slice rfl rfl ho_3) ?_
      refine HA.val (k := 8) (v := .agg (e_api_Addr (gi s1 (k_1 - 1))).toArray) rfl rfl (by kernel_rfl) (by kernel_rfl) (want_none) rfl (fun _ c303 => q_ldElemAgg (cs := (e_api_Addr (gi s1 (k_1 - 1)))) ta_27 c303.slice rfl ho_3 rfl) ?_
      refine HA.val (k := 9) (v := .bool (decide (((gi s1 k_1) : T_api_Addr) = (gi s1 (k_1 - 1))))) rfl rfl (by kernel_rfl) (by kernel_rfl) (want_none) rfl (fun _ c303 => q_eqlAgg (a := (gi s1 k_1)) (b := (gi s1 (k_1 - 1))) (fun a b w => teq_27 9997 a b w) (by kernel_rfl) rfl rfl rfl rfl) ?_
      refine HA.nil ⟨(hS.own 0 rfl), (Go.Wk.at_nil _ _)⟩ (by kernel_rfl) (thenQ_normal (?_))
      refine HW.cond (decide (((gi s1 k_1) : T_api_Addr) = (gi s1 (k_1 - 1)))) rfl (fun c_3 => ?_) (fun c_3 => ?_)
      · replace hM := hM.1 (of_decide_eq_true c_3)
        refine HW.seq ?_
        refine HW.region ?_
        refine HO.val (v := vs) (want_none) rfl (q_move rfl) ?_
        refine HO.val (v := .int .i64 k_1) (want_none) rfl (q_move rfl) ?_
        obtain ⟨ho_4, hM⟩ := hM
        refine HO.val (v := cutV 17 vs (k_1).toNat ((s1.length : Int)).toNat) (want_none) rfl (q_slL ts_22 (hS.own 0 rfl).slice rfl rfl ho_4) ?_
        refine HO.val (v := cutV 17 vs (k_1).toNat ((s1.length : Int)).toNat) (want_none) rfl (q_assign rfl) ?_
        refine HO.nil (thenQ_normal (?_))
        refine HW.seq ?_
        refine HW.seq ?_
        refine HW.region ?_
        refine HO.val (v := .int .i64 1) (want_none) rfl (q_assign rfl) ?_
        refine HO.nil (thenQ_normal (?_))
        refine HW.block ?_
        obtain ⟨I_2, m_2, hI_2, hR_2⟩ := hM
        refine HW.loop (S := List T_api_Addr × Int × Int) (fun s f h => match s with | (l_2, k_2, k2_1) => ∃ (F' : Fz), f 0 = vs ∧ f 2 = .slice none 0 0 ∧ f 3 = .int .i64 k_2 ∧ f 4 = cutV 17 vs (k_1).toNat ((s1.length : Int)).toNat ∧ f 5 = .int .i64 k2_1 ∧ Kp F h0 F' h ∧ St F' (Ow.own 27 17 e_api_Addr vs l_2 :: fr) h ∧ I_2 (l_2, k_2, k2_1)) m_2 (s1, k_1, 1) ⟨F_1, rfl, rfl, rfl, rfl, rfl, hK, hS, hI_2⟩ ?_
        rintro ⟨l_2, k_2, k2_1⟩ f_2 h_2 ⟨F_2, e0, e2, e3, e4, e5, hK, hS, hI0⟩
        obtain ⟨K_2, hKe_2⟩ : ∃ K : (List T_api_Addr) → Int → Int → Prop, K = fun l_2' k_2' k2_1' => I_2 (l_2', k_2', k2_1') ∧ m_2 (l_2', k_2', k2_1') < m_2 (l_2, k_2, k2_1) := ⟨_, rfl⟩
        have hM : slices_Compact_s_api_Addr_api_Addr_l3 s1 Q k_1 K_2 l_2 k_2 k2_1 := by rw [hKe_2]; exact hR_2 (l_2, k_2, k2_1) hI0
        unfold slices_Compact_s_api_Addr_api_Addr_l3 at hM
        refine HW.fr [(0, vs), (2, .slice none 0 0), (3, .int .i64 k_2), (4, cutV 17 vs (k_1).toNat ((s1.length : Int)).toNat), (5, .int .i64 k2_1)] ⟨e0, e2, e3, e4, e5, trivial⟩ ?_
        refine HW.seq ?_
        refine HW.seq ?_
        refine HW.region ?_
        refine HO.val (v := .int .i64 k2_1) (want_none) rfl (q_move rfl) ?_
        refine HO.val (v := cutV 17 vs (k_1).toNat ((s1.length : Int)).toNat) (want_none) rfl (q_move rfl) ?_
        obtain ⟨ho_5, hM⟩ := hM
        refine HO.val (v := .int .i64 ((cut l_2 k_1 (s1.length : Int)).length : Int)) (want_none) rfl (q_len ts_22 (shp (cutIs (hS.own 0 rfl).slice k_1 (s1.length : Int) ho_5.1 ho_5.2.1 ho_5.2.2)) rfl rfl) ?_
        refine HO.val (v := .bool (decide (k2_1 < ((cut l_2 k_1 (s1.length : Int)).length : Int)))) (want_none) rfl (q_lss rfl rfl) ?_
        refine HO.nil (thenQ_normal (?_))
        refine HW.cond (decide (k2_1 < ((cut l_2 k_1 (s1.length : Int)).length : Int))) rfl (fun c_4 => ?_) (fun c_4 => ?_)
        · replace hM := hM.1 (of_decide_eq_true c_4)
          refine HW.skip (thenQ_normal (?_))
          refine HW.seq ?_
          refine HW.block ?_
          refine HW.seq ?_
          refine HW.regionA 10 mixed (fun h => (OwnIs h 0 27 17 e_api_Addr vs l_2)) [] (by kernel_rfl) ?_
          refine HA.val (k := 0) (v := cutV 17 vs (k_1).toNat ((s1.length : Int)).toNat) rfl rfl (by kernel_rfl) (by kernel_rfl) (want_none) rfl (fun _ c520 => q_move rfl) ?_
          refine HA.val (k := 1) (v := .int .i64 k2_1) rfl rfl (by kernel_rfl) (by kernel_rfl) (want_none) rfl (fun _ c520 => q_move rfl) ?_
          obtain ⟨ho_6, hM⟩ := hM
          refine HA.val (k := 2) (v := elemPtr 17 (cutV 17 vs (k_1).toNat ((s1.length : Int)).toNat) (k2_1).toNat) rfl rfl (by kernel_rfl) (by kernel_rfl) (want_none) rfl (fun _ c520 => q_idx ts_22 (cutIs c520.slice k_1 (s1.length : Int) ho_5.1 ho_5.2.1 ho_5.2.2) rfl rfl ho_6) ?_
          refine HA.val (k := 3) (v := .agg (e_api_Addr ((gi (cut l_2 k_1 (s1.length : Int)) k2_1).1, ((gi (cut l_2 k_1 (s1.length : Int)) k2_1).2))).toArray) rfl rfl (by kernel_rfl) (by kernel_rfl) (want_none) rfl (fun _ c520 => q_ldElemAgg (cs := (e_api_Addr ((gi (cut l_2 k_1 (s1.length : Int)) k2_1).1, ((gi (cut l_2 k_1 (s1.length : Int)) k2_1).2)))) ta_27 (cutIs c520.slice k_1 (s1.length : Int) ho_5.1 ho_5.2.1 ho_5.2.2) rfl ho_6 rfl) ?_
          refine HA.val (k := 4) (v := cutV 17 vs (k_1).toNat ((s1.length : Int)).toNat) rfl rfl (by kernel_rfl) (by kernel_rfl) (want_none) rfl (fun _ c520 => q_move rfl) ?_
          refine HA.val (k := 5) (v := .int .i64 k2_1) rfl rfl (by kernel_rfl) (by kernel_rfl) (want_none) rfl (fun _ c520 => q_move rfl) ?_
          obtain ⟨ho_7, hM⟩ := hM
          refine HA.val (k := 6) (v := .int .i64 (k2_1 - 1)) rfl rfl (by kernel_rfl) (by kernel_rfl) (want_none) rfl (fun _ c520 => q_subN _ rfl rfl rfl ho_7.1 ho_7.2) ?_
          obtain ⟨ho_8, hM⟩ := hM
          refine HA.val (k := 7) (v := elemPtr 17 (cutV 17 vs (k_1).toNat ((s1.length : Int)).toNat) (k2_1 - 1).toNat) rfl rfl (by kernel_rfl) (by kernel_rfl) (want_none) rfl (fun _ c520 => q_idx ts_22 (cutIs c520.slice k_1 (s1.length : Int) ho_5.1 ho_5.2.1 ho_5.2.2) rfl rfl ho_8) ?_
          refine HA.val (k := 8) (v := .agg (e_api_Addr ((gi (cut l_2 k_1 (s1.length : Int)) (k2_1 - 1)).1, ((gi (cut l_2 k_1 (s1.length : Int)) (k2_1 - 1)).2))).toArray) rfl rfl (by kernel_rfl) (by kernel_rfl) (want_none) rfl (fun _ c520 => q_ldElemAgg (cs := (e_api_Addr ((gi (cut l_2 k_1 (s1.length : Int)) (k2_1 - 1)).1, ((gi (cut l_2 k_1 (s1.length : Int)) (k2_1 - 1)).2)))) ta_27 (cutIs c520.slice k_1 (s1.length : Int) ho_5.1 ho_5.2.1 ho_5.2.2) rfl ho_8 rfl) ?_
          refine HA.val (k := 9) (v := .bool (!decide ((((gi (cut l_2 k_1 (s1.length : Int)) k2_1).1, ((gi (cut l_2 k_1 (s1.length : Int)) k2_1).2)) : T_api_Addr) = ((gi (cut l_2 k_1 (s1.length : Int)) (k2_1 - 1)).1, ((gi (cut l_2 k_1 (s1.length : Int)) (k2_1 - 1)).2))))) rfl rfl (by kernel_rfl) (by kernel_rfl) (want_none) rfl (fun _ c520 => q_neqAgg (a := ((gi (cut l_2 k_1 (s1.length : Int)) k2_1).1, ((gi (cut l_2 k_1 (s1.length : Int)) k2_1).2))) (b := ((gi (cut l_2 k_1 (s1.length : Int)) (k2_1 - 1)).1, ((gi (cut l_2 k_1 (s1.length : Int)) (k2_1 - 1)).2))) (fun a b w => teq_27 9997 a b w) (by kernel_rfl) rfl rfl rfl rfl) ?_
          refine HA.nil ⟨(hS.own 0 rfl), (Go.Wk.at_nil _ _)⟩ (by kernel_rfl) (thenQ_normal (?_))
          refine HW.cond (!decide ((((gi (cut l_2 k_1 (s1.length : Int)) k2_1).1, ((gi (cut l_2 k_1 (s1.length : Int)) k2_1).2)) : T_api_Addr) = ((gi (cut l_2 k_1 (s1.length : Int)) (k2_1 - 1)).1, ((gi (cut l_2 k_1 (s1.length : Int)) (k2_1 - 1)).2)))) rfl (fun c_5 => ?_) (fun c_5 => ?_)
          · replace hM := hM.1 (nd_true c_5)
            refine HW.seq ?_
            refine HW.region ?_
            refine HO.val (v := vs) (want_none) rfl (q_move rfl) ?_
            refine HO.val (v := .int .i64 k_2) (want_none) rfl (q_move rfl) ?_
            refine HO.val (v := cutV 17 vs (k_1).toNat ((s1.length : Int)).toNat) (want_none) rfl (q_move rfl) ?_
            refine HO.val (v := .int .i64 k2_1) (want_none) rfl (q_move rfl) ?_
            refine HO.val (v := elemPtr 17 (cutV 17 vs (k_1).toNat ((s1.length : Int)).toNat) (k2_1).toNat) (want_none) rfl (q_idx ts_22 (cutIs (hS.own 0 rfl).slice k_1 (s1.length : Int) ho_5.1 ho_5.2.1 ho_5.2.2) rfl rfl ho_6) ?_
            refine HO.val (v := .agg (e_api_Addr ((gi (cut l_2 k_1 (s1.length : Int)) k2_1).1, ((gi (cut l_2 k_1 (s1.length : Int)) k2_1).2))).toArray) (want_none) rfl (q_ldElemAgg (cs := (e_api_Addr ((gi (cut l_2 k_1 (s1.length : Int)) k2_1).1, ((gi (cut l_2 k_1 (s1.length : Int)) k2_1).2)))) ta_27 (cutIs (hS.own 0 rfl).slice k_1 (s1.length : Int) ho_5.1 ho_5.2.1 ho_5.2.2) rfl ho_6 rfl) ?_
            obtain ⟨ho_9, hM⟩ := hM
            refine HO.val (v := elemPtr 17 vs (k_2).toNat) (want_none) rfl (q_idx ts_22 (hS.own 0 rfl).slice rfl rfl ho_9) ?_
            refine HO.sto (want_none) rfl (st_storeElem (a := ((gi (cut l_2 k_1 (s1.length : Int)) k2_1).1, ((gi (cut l_2 k_1 (s1.length : Int)) k2_1).2))) (t := k_2) hS (i := 0) rfl ta_27 rfl ho_9 rfl rfl rfl (one_e_api_Addr _)) ?_
            rintro h_3 ⟨hS, hk⟩
            replace hS : St F_2 (Ow.own 27 17 e_api_Addr vs (l_2.set (k_2).toNat ((gi (cut l_2 k_1 (s1.length : Int)) k2_1).1, ((gi (cut l_2 k_1 (s1.length : Int)) k2_1).2))) :: fr) h_3 := hS
            replace hK := hK.trans hk
            refine HO.nil (thenQ_normal (?_))
            refine HW.region ?_
            refine HO.val (v := .int .i64 k_2) (want_none) rfl (q_move rfl) ?_
            obtain ⟨ho_10, hM⟩ := hM
            refine HO.val (v := .int .i64 (k_2 + 1)) (want_none) rfl (q_addN _ rfl rfl rfl ho_10.1 ho_10.2) ?_
            refine HO.val (v := .int .i64 (k_2 + 1)) (want_none) rfl (q_assign rfl) ?_
            refine HO.nil (blockQ_normal (thenQ_normal (?_)))
            refine HW.region ?_
            refine HO.val (v := .int .i64 k2_1) (want_none) rfl (q_move rfl) ?_
            obtain ⟨ho_11, hM⟩ := hM
            refine HO.val (v := .int .i64 (k2_1 + 1)) (want_none) rfl (q_addN _ rfl rfl rfl ho_11.1 ho_11.2) ?_
            refine HO.val (v := .int .i64 (k2_1 + 1)) (want_none) rfl (q_assign rfl) ?_
            refine HO.nil (thenQ_normal (?_))
            rw [hKe_2] at hM
            exact ⟨(l_2.set (k_2).toNat ((gi (cut l_2 k_1 (s1.length : Int)) k2_1).1, ((gi (cut l_2 k_1 (s1.length : Int)) k2_1).2)), k_2 + 1, k2_1 + 1), ⟨F_2, rfl, rfl, rfl, rfl, rfl, hK, hS, hM.1⟩, hM.2⟩
          · replace hM := hM.2 (nd_false c_5)
            refine HW.skip (blockQ_normal (thenQ_normal (?_)))
            refine HW.region ?_
            refine HO.val (v := .int .i64 k2_1) (want_none) rfl (q_move rfl) ?_
            obtain ⟨ho_12, hM⟩ := hM
            refine HO.val (v := .int .i64 (k2_1 + 1)) (want_none) rfl (q_addN _ rfl rfl rfl ho_12.1 ho_12.2) ?_
            refine HO.val (v := .int .i64 (k2_1 + 1)) (want_none) rfl (q_assign rfl) ?_
            refine HO.nil (thenQ_normal (?_))
            rw [hKe_2] at hM
            exact ⟨(l_2, k_2, k2_1 + 1), ⟨F_2, rfl, rfl, rfl, rfl, rfl, hK, hS, hM.1⟩, hM.2⟩
        · replace hM := hM.2 (of_decide_eq_false c_4)
          refine HW.exit (thenQ_exit (thenQ_exit (blockQ_exit (thenQ_normal (?_)))))
          refine HW.seq ?_
          refine HW.region ?_
          refine HO.val (v := vs) (want_none) rfl (q_move rfl) ?_
          refine HO.val (v := .int .i64 k_2) (want_none) rfl (q_move rfl) ?_
          obtain ⟨ho_13, hM⟩ := hM
          refine HO.val (v := cutV 17 vs (k_2).toNat ((l_2.length : Int)).toNat) (want_none) rfl (q_slL ts_22 (hS.own 0 rfl).slice rfl rfl ho_13) ?_
          obtain ⟨ho_14, hM⟩ := hM
          refine HO.eff (want_none) rfl (st_clearS (lo := k_2) (hi := (l_2.length : Int)) (z := .agg #[.bool false, .int .u8 0, .int .u8 0, .int .u8 0, .int .u8 0, .int .u8 0, .int .u8 0, .int .u8 0, .int .u8 0, .int .u8 0, .int .u8 0, .int .u8 0, .int .u8 0, .int .u8 0, .int .u8 0, .int .u8 0, .int .u8 0]) hS (i := 0) rfl te_22 tz_27 rfl (by intro u hu; simp [e_api_Addr, encI, encN, encB, encT, default] at hu; rcases hu with rfl | rfl | rfl | rfl | rfl | rfl | rfl | rfl | rfl | rfl | rfl | rfl | rfl | rfl | rfl | rfl | rfl <;> rfl) rfl ho_14 rfl) ?_
          rintro _ h_4 ⟨rfl, hS, hk⟩
          replace hS : St F_2 (Ow.own 27 17 e_api_Addr vs (clr l_2 k_2 (l_2.length : Int)) :: fr) h_4 := hS
          replace hK := hK.trans hk
          refine HO.nil (thenQ_normal (?_))
          refine HW.seq ?_
          refine HW.region ?_
          refine HO.val (v := vs) (want_none) rfl (q_move rfl) ?_
          refine HO.val (v := .int .i64 k_2) (want_none) rfl (q_move rfl) ?_
          obtain ⟨ho_15, hM⟩ := hM
          refine HO.val (v := cutV 17 vs (0 : Int).toNat (k_2).toNat) (want_none) rfl (q_slH ts_22 (hS.own 0 rfl).slice rfl rfl ho_15) ?_
          refine HO.val (v := cutV 17 vs (0 : Int).toNat (k_2).toNat) (want_none) rfl (q_assign rfl) ?_
          refine HO.nil (thenQ_normal (?_))
          refine HW.ret (blockQ_ret (thenQ_ret (thenQ_ret (blockQ_ret (thenQ_ret (?_))))))
          refine ⟨.inr rfl, cutV 17 vs (0 : Int).toNat (k_2).toNat, res1 rfl (rt rfl), ?_⟩
          replace hS := hS.shrink 0 rfl k_2 ho_15.1 ho_15.2
          replace hS : St F_2 (Ow.own 27 17 e_api_Addr (cutV 17 vs (0 : Int).toNat (k_2).toNat) (cut (clr l_2 k_2 (l_2.length : Int)) 0 k_2) :: fr) h_4 := hS
          exact ⟨F_2, cut (clr l_2 k_2 (l_2.length : Int)) 0 k_2, cutV 17 vs (0 : Int).toNat (k_2).toNat, rfl, hK, hS, hM⟩
      · replace hM := hM.2 (of_decide_eq_false c_3)
        refine HW.skip (blockQ_normal (thenQ_normal (?_)))
        refine HW.region ?_
        refine HO.val (v := .int .i64 k_1) (want_none) rfl (q_move rfl) ?_
        obtain ⟨ho_16, hM⟩ := hM
        refine HO.val (v := .int .i64 (k_1 + 1)) (want_none) rfl (q_addN _ rfl rfl rfl ho_16.1 ho_16.2) ?_
        refine HO.val (v := .int .i64 (k_1 + 1)) (want_none) rfl (q_assign rfl) ?_
        refine HO.nil (thenQ_normal (?_))
        rw [hKe_1] at hM
        exact ⟨k_1 + 1, ⟨F_1, rfl, rfl, rfl, hK, hS, hM.1⟩, hM.2⟩
    · replace hM := hM.2 (of_decide_eq_false c_2)
      refine HW.exit (thenQ_exit (thenQ_exit (blockQ_exit (thenQ_normal (?_)))))
      refine HW.seq ?_
      refine HW.region ?_
      refine HO.val (v := vs) (want_none) rfl (q_move rfl) ?_
      refine HO.val (v := vs) (want_none) rfl (q_assign rfl) ?_
      refine HO.nil (thenQ_normal (?_))
      refine HW.ret (?_)
      refine ⟨.inr rfl, vs, res1 rfl (rt rfl), ?_⟩
      exact ⟨F_1, s1, vs, rfl, hK, hS, hM⟩

def srcs_Of_W (l : List T_api_Addr) (Q : (List T_api_Addr) → Prop) : Prop :=
  slices_Clone_s_api_Addr_api_Addr_W l (fun r_2 => ∃ cf_1 : T_api_Addr → Bool, (∀ x0, srcs_Of_1_W x0 (fun r => r = cf_1 x0)) ∧ (slices_DeleteFunc_s_api_Addr_api_Addr_W r_2 cf_1 (fun r_3 => ∃ cf_2 : T_api_Addr → T_api_Addr → Int, Swo cf_2 ∧ (∀ x y, addr_Cmp_W x y (fun r => r = cf_2 x y)) ∧ (r_3).length < 4611686018427387904 ∧ ∀ l_1 : List T_api_Addr, List.Perm l_1 r_3 → List.Pairwise (fun x y => ¬ cf_2 y x < 0) l_1 → (slices_Compact_s_api_Addr_api_Addr_W l_1 (fun r_4 => Q r_4)))))
set_option maxHeartbeats 40000000 in
set_option maxRecDepth 100000 in
theorem srcs_Of_walk {F : Fz} {fr : List Ow} {h0 : Heap} (l : List T_api_Addr) (vl : Value) (hS : St F (fr) h0) (hL_l : SliceF F h0 17 e_api_Addr vl l) {Q : (List T_api_Addr) → Prop} (hM : srcs_Of_W l Q) :
    HC Tryd.prog 35 #[vl] h0 fun u h' => ∃ (F' : Fz) (r_1 : List T_api_Addr) (vr_1 : Value), u = vr_1 ∧ Kp F h0 F' h' ∧ St F' (Ow.own 27 17 e_api_Addr vr_1 r_1 :: fr) h' ∧ (SliceF F' h' 17 e_api_Addr vl l) ∧ Q r_1 := by
  unfold srcs_Of_W at hM
  have hK := Kp.refl F h0
  refine HC.of_HW (n := 11) Tryd.func35 rfl rfl (Nat.le_of_ble_eq_true rfl) ?_
  refine HW.seq ?_
  refine HW.region ?_
  refine HO.val (v := .slice none 0 0) (want_none) rfl (q_assign rfl) ?_
  refine HO.nil (thenQ_normal (?_))
  refine HW.seq ?_
  refine HW.region ?_
  refine HO.val (v := vl) (want_none) rfl (q_move rfl) ?_
  refine HO.call (want_none) rfl (ec en_48 rfl rfl) (slices_Clone_s_api_Addr_api_Addr_walk (fr := (fr)) l vl hS hL_l hM) ?_
  rintro vr_2 h_1 ⟨F_1, r_2, _, rfl, hk, hS, _, hM⟩
  replace hK := hK.trans hk
  replace hL_l := hL_l.kp hk
  obtain ⟨cf_1, hc_1, hM⟩ := hM
  have hF_1 : FnP Tryd.prog F_1 h_1 56 #[] #[] (fun x : T_api_Addr => [.agg (e_api_Addr x).toArray]) (fun x => .bool (cf_1 x)) := FnP.of en_56 (fun x h' hk_ => @HC.mono ⟨true⟩ _ _ _ _ _ _ (@srcs_Of_1_walk ⟨true⟩ (allF h') [] h' x  (St.init h')  (fun r => r = cf_1 x) (hc_1 x)) (fun u h'' ⟨F', r, hu, k_, _, hr⟩ => ⟨by rw [hu, hr], F', k_⟩))
  refine HO.call (want_none) rfl (ec en_55 rfl rfl) (slices_DeleteFunc_s_api_Addr_api_Addr_walk (fr := (fr)) r_2 cf_1 vr_2 56 (#[]) (#[]) hS hF_1 hM) ?_
  rintro vr_3 h_2 ⟨F_2, r_3, _, rfl, hk, hS, _, hM⟩
  replace hK := hK.trans hk
  replace hL_l := hL_l.kp hk
  replace hF_1 := hF_1.kp hk
  refine HO.val (v := vr_3) (want_none) rfl (q_assign rfl) ?_
  refine HO.nil (thenQ_normal (?_))
  refine HW.seq ?_
  refine HW.region ?_
  refine HO.val (v := vr_3) (want_none) rfl (q_move rfl) ?_
  obtain ⟨cf_2, ho_1, hc_2, hM⟩ := hM
  obtain ⟨ho_2, hM⟩ := hM
  refine HO.call (want_none) rfl (ec en_58 rfl rfl) (sortFunc_own Tryd.sortAddr (by decide) (fun w => by kernel_rfl) (fun w => by kernel_rfl) (enc := e_api_Addr) (fun _ => rfl) (by intro a u hu; simp [e_api_Addr, encI, encN, encB, encT] at hu; rcases hu with rfl | rfl | rfl | rfl | rfl | rfl | rfl | rfl | rfl | rfl | rfl | rfl | rfl | rfl | rfl | rfl | rfl <;> rfl) ho_1 hS (fnP2 (enc := e_api_Addr) en_59 (fun x y h' => @addr_Cmp_walk ⟨true⟩ (allF h') [] h' x y (St.init h') (fun r => r = cf_2 x y) (hc_2 x y))) ho_2) ?_
  rintro _ h_3 ⟨l_1, rfl, hk, hS, hp_1, hs_1⟩
  replace hM := hM l_1 hp_1 hs_1
  replace hS : St F_2 (Ow.own 27 17 e_api_Addr vr_3 l_1 :: fr) h_3 := hS
  replace hK := hK.trans hk
  replace hL_l := hL_l.kp hk
  replace hF_1 := hF_1.kp hk
  refine HO.nil (thenQ_normal (?_))
  refine HW.seq ?_
  refine HW.region ?_
  refine HO.val (v := vr_3) (want_none) rfl (q_move rfl) ?_
  refine HO.call (want_none) rfl (ec en_60 rfl rfl) (slices_Compact_s_api_Addr_api_Addr_walk (fr := (fr)) l_1 vr_3 hS hM) ?_
  rintro vr_4 h_4 ⟨F_3, r_4, _, rfl, hk, hS, hM⟩
  replace hK := hK.trans hk
  replace hL_l := hL_l.kp hk
  replace hF_1 := hF_1.kp hk
  refine HO.val (v := vr_4) (want_none) rfl (q_assign rfl) ?_
  refine HO.nil (thenQ_normal (?_))
  refine HW.ret (?_)
  refine ⟨.inr rfl, vr_4, res1 rfl (rt rfl), ?_⟩
  exact ⟨F_3, r_4, vr_4, rfl, hK, hS, hL_l, hM⟩

def merge_Answer_W (f_Exclude : Bool) (f_Sources : List T_api_Addr) (l : List T_api_Addr) (Q : (List T_api_Addr) → Prop) : Prop :=
  srcs_Of_W l (fun r_2 => (f_Exclude = true → srcs_Minus_W r_2 f_Sources (fun r_3 => Q r_3)) ∧ (f_Exclude = false → srcs_And_W f_Sources r_2 (fun r_4 => Q r_4)))
set_option maxHeartbeats 40000000 in
set_option maxRecDepth 100000 in
theorem merge_Answer_walk {F : Fz} {fr : List Ow} {h0 : Heap} (f_Exclude : Bool) (f_Sources : List T_api_Addr) (l : List T_api_Addr) (vf_Sources : Value) (vl : Value) (hS : St F (fr) h0) (hL_f_Sources : SliceF F h0 17 e_api_Addr vf_Sources f_Sources) (hL_l : SliceF F h0 17 e_api_Addr vl l) {Q : (List T_api_Addr) → Prop} (hM : merge_Answer_W f_Exclude f_Sources l Q) :
    HC Tryd.prog 33 #[.agg #[.bool f_Exclude, vf_Sources], vl] h0 fun u h' => ∃ (F' : Fz) (r_1 : List T_api_Addr) (vr_1 : Value), u = vr_1 ∧ Kp F h0 F' h' ∧ St F' (Ow.own 27 17 e_api_Addr vr_1 r_1 :: fr) h' ∧ (SliceF F' h' 17 e_api_Addr vf_Sources f_Sources) ∧ (SliceF F' h' 17 e_api_Addr vl l) ∧ Q r_1 := by
  unfold merge_Answer_W at hM
  have hK := Kp.refl F h0
  refine HC.of_HW (n := 18) Tryd.func33 rfl rfl (Nat.le_of_ble_eq_true rfl) ?_
  refine HW.seq ?_
  refine HW.region ?_
  refine HO.eff (want_none) rfl (st_box (c := #[.bool f_Exclude, vf_Sources]) (k' := 2) hS rfl rfl) ?_
  rintro _ h_1 ⟨b_1, rfl, hS, hk⟩
  replace hK := hK.trans hk
  replace hL_f_Sources := hL_f_Sources.kp hk
  replace hL_l := hL_l.kp hk
  refine HO.val (v := .slice none 0 0) (want_none) rfl (q_assign rfl) ?_
  refine HO.nil (thenQ_normal (?_))
  refine HW.seq ?_
  refine HW.region ?_
  refine HO.val (v := vl) (want_none) rfl (q_move rfl) ?_
  refine HO.call (want_none) rfl (ec en_35 rfl rfl) (srcs_Of_walk (fr := (Ow.box b_1 24 #[.bool f_Exclude, vf_Sources] :: fr)) l vl hS hL_l hM) ?_
  rintro vr_2 h_2 ⟨F_1, r_2, _, rfl, hk, hS, _, hM⟩
  replace hK := hK.trans hk
  replace hL_f_Sources := hL_f_Sources.kp hk
  replace hL_l := hL_l.kp hk
  refine HO.val (v := vr_2) (want_none) rfl (q_assign rfl) ?_
  refine HO.nil (thenQ_normal (?_))
  refine HW.seq ?_
  refine HW.seq ?_
  refine HW.region ?_
  refine HO.val (v := .pointer (some ⟨b_1, 0, none⟩)) (want_none) rfl (q_fieldAddr fa_24_0 rfl rfl) ?_
  refine HO.val (v := .bool f_Exclude) (want_none) rfl (q_load to_4 rfl (Blk.cell (hS.box 1 rfl) rfl)) ?_
  refine HO.nil (thenQ_normal (?_))
  refine HW.cond f_Exclude rfl (fun c_1 => ?_) (fun c_1 => ?_)
  · replace hM := hM.1 c_1
    refine HW.seq ?_
    refine HW.region ?_
    refine HO.val (v := vr_2) (want_none) rfl (q_move rfl) ?_
    refine HO.val (v := .pointer (some ⟨b_1, 1, none⟩)) (want_none) rfl (q_fieldAddr fa_24_1 rfl rfl) ?_
    refine HO.val (v := vf_Sources) (want_none) rfl (q_load to_22 rfl (Blk.cell (hS.box 1 rfl) rfl)) ?_
    have hZ_1 := hS
    have hkz_1 := (hS.freeze).2
    replace hS := hS.freeze.1
    have hL_1 : SliceF (fun b => F_1 b ∨ (Ow.own 27 17 e_api_Addr vr_2 r_2).foot b) h_2 17 e_api_Addr vr_2 r_2 := ⟨(hZ_1.own 0 rfl).slice, fun _ b hb => .inr hb⟩
    refine HO.call (want_none) rfl (ec en_41 rfl rfl) (srcs_Minus_walk (fr := (Ow.box b_1 24 #[.bool f_Exclude, vf_Sources] :: fr)) r_2 f_Sources vr_2 vf_Sources hS hL_1 (hL_f_Sources.kp hkz_1) hM) ?_
    rintro vr_3 h_3 ⟨F_2, r_3, _, rfl, hk, hS, _, _, hM⟩
    obtain ⟨hS, hk⟩ := hZ_1.back hk hS
    generalize (fun b => F_2 b ∧ ¬ (Ow.own 27 17 e_api_Addr vr_2 r_2).foot b) = F_3 at hS hk
    replace hK := hK.trans hk
    replace hL_f_Sources := hL_f_Sources.kp hk
    replace hL_l := hL_l.kp hk
    refine HO.val (v := vr_3) (want_none) rfl (q_assign rfl) ?_
    refine HO.nil (thenQ_normal (?_))
    refine HW.ret (thenQ_ret (?_))
    refine ⟨.inr rfl, vr_3, res1 rfl (rt rfl), ?_⟩
    replace hS : St F_3 (Ow.own 27 17 e_api_Addr vr_3 r_3 :: fr) h_3 := hS.perm2 [1] 3 rfl rfl
    exact ⟨F_3, r_3, vr_3, rfl, hK, hS, hL_f_Sources, hL_l, hM⟩
  · replace hM := hM.2 c_1
    refine HW.skip (thenQ_normal (?_))
    refine HW.seq ?_
    refine HW.region ?_
    refine HO.val (v := .pointer (some ⟨b_1, 1, none⟩)) (want_none) rfl (q_fieldAddr fa_24_1 rfl rfl) ?_
    refine HO.val (v := vf_Sources) (want_none) rfl (q_load to_22 rfl (Blk.cell (hS.box 1 rfl) rfl)) ?_
    refine HO.val (v := vr_2) (want_none) rfl (q_move rfl) ?_
    have hZ_2 := hS
    have hkz_2 := (hS.freeze).2
    replace hS := hS.freeze.1
    have hL_2 : SliceF (fun b => F_1 b ∨ (Ow.own 27 17 e_api_Addr vr_2 r_2).foot b) h_2 17 e_api_Addr vr_2 r_2 := ⟨(hZ_2.own 0 rfl).slice, fun _ b hb => .inr hb⟩
    refine HO.call (want_none) rfl (ec en_40 rfl rfl) (srcs_And_walk (fr := (Ow.box b_1 24 #[.bool f_Exclude, vf_Sources] :: fr)) f_Sources r_2 vf_Sources vr_2 hS (hL_f_Sources.kp hkz_2) hL_2 hM) ?_
    rintro vr_4 h_4 ⟨F_4, r_4, _, rfl, hk, hS, _, _, hM⟩
    obtain ⟨hS, hk⟩ := hZ_2.back hk hS
    generalize (fun b => F_4 b ∧ ¬ (Ow.own 27 17 e_api_Addr vr_2 r_2).foot b) = F_5 at hS hk
    replace hK := hK.trans hk
    replace hL_f_Sources := hL_f_Sources.kp hk
    replace hL_l := hL_l.kp hk
    refine HO.val (v := vr_4) (want_none) rfl (q_assign rfl) ?_
    refine HO.nil (thenQ_normal (?_))
    refine HW.ret (?_)
    refine ⟨.inr rfl, vr_4, res1 rfl (rt rfl), ?_⟩
    replace hS : St F_5 (Ow.own 27 17 e_api_Addr vr_4 r_4 :: fr) h_4 := hS.perm2 [1] 3 rfl rfl
    exact ⟨F_5, r_4, vr_4, rfl, hK, hS, hL_f_Sources, hL_l, hM⟩

def ref19_Answer_l1 (f_Exclude : Bool) (f_Sources : List T_api_Addr) (Q : (List T_api_Addr) → Prop) (r_2 : List T_api_Addr) (K_1 : (List T_api_Addr) → Int → Prop) (out_1 : List T_api_Addr) (i_1 : Int) : Prop :=
  (i_1 < (r_2.length : Int) → ((0 : Int) ≤ i_1 ∧ i_1 < (r_2.length : Int)) ∧ (ref19_Lets_W f_Exclude f_Sources (gi r_2 i_1) (fun r_3 => (r_3 = true → ((out_1.length + ([(gi r_2 i_1)] : List T_api_Addr).length) * 17 ≤ 140737488355328) ∧ ((I64 (i_1 + 1)) ∧ (K_1 (out_1 ++ ([(gi r_2 i_1)] : List T_api_Addr)) (i_1 + 1)))) ∧ (r_3 = false → (I64 (i_1 + 1)) ∧ (K_1 out_1 (i_1 + 1)))))) ∧ (¬ (i_1 < (r_2.length : Int)) → Q out_1)
def ref19_Answer_W (f_Exclude : Bool) (f_Sources : List T_api_Addr) (l : List T_api_Addr) (Q : (List T_api_Addr) → Prop) : Prop :=
  ref11_Of_W l (fun r_2 => loopW (fun (K_1 : (List T_api_Addr × Int) → Prop) (s : List T_api_Addr × Int) => ref19_Answer_l1 f_Exclude f_Sources Q r_2 (fun out_1 i_1 => K_1 (out_1, i_1)) s.1 s.2) ([], 0))
set_option maxHeartbeats 40000000 in
set_option maxRecDepth 100000 in
theorem ref19_Answer_walk {F : Fz} {fr : List Ow} {h0 : Heap} (f_Exclude : Bool) (f_Sources : List T_api_Addr) (l : List T_api_Addr) (vf_Sources : Value) (vl : Value) (hS : St F (fr) h0) (hL_f_Sources : SliceF F h0 17 e_api_Addr vf_Sources f_Sources) (hL_l : SliceF F h0 17 e_api_Addr vl l) {Q : (List T_api_Addr) → Prop} (hM : ref19_Answer_W f_Exclude f_Sources l Q) :
    HC Tryd.prog 34 #[.agg #[.bool f_Exclude, vf_Sources], vl] h0 fun u h' => ∃ (F' : Fz) (r_1 : List T_api_Addr) (vr_1 : Value), u = vr_1 ∧ Kp F h0 F' h' ∧ St F' (Ow.own 27 17 e_api_Addr vr_1 r_1 :: fr) h' ∧ (SliceF F' h' 17 e_api_Addr vf_Sources f_Sources) ∧ (SliceF F' h' 17 e_api_Addr vl l) ∧ Q r_1 := by
  unfold ref19_Answer_W at hM
  have hK := Kp.refl F h0
  refine HC.of_HW (n := 31) Tryd.func34 rfl rfl (Nat.le_of_ble_eq_true rfl) ?_
  refine HW.seq ?_
  refine HW.region ?_
  refine HO.eff (want_none) rfl (st_box (c := #[.bool f_Exclude, vf_Sources]) (k' := 2) hS rfl rfl) ?_
  rintro _ h_1 ⟨b_1, rfl, hS, hk⟩
  replace hK := hK.trans hk
  replace hL_f_Sources := hL_f_Sources.kp hk
  replace hL_l := hL_l.kp hk
  refine HO.val (v := .slice none 0 0) (want_none) rfl (q_assign rfl) ?_
  refine HO.nil (thenQ_normal (?_))
  refine HW.seq ?_
  refine HW.region ?_
  refine HO.eff (want_none) rfl (st_litEmpty (α := T_api_Addr) e_api_Addr hS tl_22) ?_
  rintro _ h_2 ⟨b_2, rfl, hS, hk⟩
  replace hK := hK.trans hk
  replace hL_f_Sources := hL_f_Sources.kp hk
  replace hL_l := hL_l.kp hk
  refine HO.val (v := vl) (want_none) rfl (q_move rfl) ?_
  refine HO.call (want_none) rfl (ec en_28 rfl rfl) (ref11_Of_walk (fr := (Ow.own 27 17 e_api_Addr (.slice (some ⟨b_2, 0, none⟩) 0 0) ([] : List T_api_Addr) :: Ow.box b_1 24 #[.bool f_Exclude, vf_Sources] :: fr)) l vl hS hL_l hM) ?_
  rintro vr_2 h_3 ⟨F_1, r_2, _, rfl, hk, hS, _, hL_1, hM⟩
  replace hK := hK.trans hk
  replace hL_f_Sources := hL_f_Sources.kp hk
  replace hL_l := hL_l.kp hk
  refine HO.val (v := .slice (some ⟨b_2, 0, none⟩) 0 0) (want_none) rfl (q_assign rfl) ?_
  refine HO.val (v := vr_2) (want_none) rfl (q_assign rfl) ?_
  refine HO.nil (thenQ_normal (?_))
  refine HW.seq ?_
  refine HW.seq ?_
  refine HW.region ?_
  refine HO.val (v := .int .i64 0) (want_none) rfl (q_assign rfl) ?_
  refine HO.nil (thenQ_normal (?_))
  refine HW.block ?_
  obtain ⟨I_1, m_1, hI_1, hR_1⟩ := hM
  replace hS : St F_1 (Ow.box b_1 24 #[.bool f_Exclude, vf_Sources] :: Ow.own 27 17 e_api_Addr (.slice (some ⟨b_2, 0, none⟩) 0 0) ([] : List T_api_Addr) :: fr) h_3 := hS.perm2 [1, 0] 2 rfl rfl
  refine HW.loop (S := List T_api_Addr × Int) (fun s f h => match s with | (out_1, i_1) => ∃ (F' : Fz) (vout_1 : Value), f 2 = .pointer (some ⟨b_1, 0, none⟩) ∧ f 4 = .slice none 0 0 ∧ f 5 = vout_1 ∧ f 6 = vr_2 ∧ f 7 = .int .i64 i_1 ∧ Kp F h0 F' h ∧ St F' (Ow.box b_1 24 #[.bool f_Exclude, vf_Sources] :: Ow.own 27 17 e_api_Addr vout_1 out_1 :: fr) h ∧ (SliceF F' h 17 e_api_Addr vf_Sources f_Sources) ∧ (SliceF F' h 17 e_api_Addr vl l) ∧ (SliceF F' h 17 e_api_Addr vr_2 r_2) ∧ I_1 (out_1, i_1)) m_1 ([], 0) ⟨F_1, .slice (some ⟨b_2, 0, none⟩) 0 0, rfl, rfl, rfl, rfl, rfl, hK, hS, hL_f_Sources, hL_l, hL_1, hI_1⟩ ?_
  rintro ⟨out_1, i_1⟩ f_1 h_4 ⟨F_2, vout_1, e2, e4, e5, e6, e7, hK, hS, hL_f_Sources, hL_l, hL_1, hI0⟩
  obtain ⟨K_1, hKe_1⟩ : ∃ K : (List T_api_Addr) → Int → Prop, K = fun out_1' i_1' => I_1 (out_1', i_1') ∧ m_1 (out_1', i_1') < m_1 (out_1, i_1) := ⟨_, rfl⟩
  have hM : ref19_Answer_l1 f_Exclude f_Sources Q r_2 K_1 out_1 i_1 := by rw [hKe_1]; exact hR_1 (out_1, i_1) hI0
  unfold ref19_Answer_l1 at hM
  refine HW.fr [(2, .pointer (some ⟨b_1, 0, none⟩)), (4, .slice none 0 0), (5, vout_1), (6, vr_2), (7, .int .i64 i_1)] ⟨e2, e4, e5, e6, e7, trivial⟩ ?_
  refine HW.seq ?_
  refine HW.seq ?_
  refine HW.region ?_
  refine HO.val (v := .int .i64 i_1) (want_none) rfl (q_move rfl) ?_
  refine HO.val (v := vr_2) (want_none) rfl (q_move rfl) ?_
  refine HO.val (v := .int .i64 (r_2.length : Int)) (want_none) rfl (q_len ts_22 (shp hL_1.is) rfl rfl) ?_
  refine HO.val (v := .bool (decide (i_1 < (r_2.length : Int)))) (want_none) rfl (q_lss rfl rfl) ?_
  refine HO.nil (thenQ_normal (?_))
  refine HW.cond (decide (i_1 < (r_2.length : Int))) rfl (fun c_1 => ?_) (fun c_1 => ?_)
  · replace hM := hM.1 (of_decide_eq_true c_1)
    refine HW.skip (thenQ_normal (?_))
    refine HW.seq ?_
    refine HW.block ?_
    refine HW.seq ?_
    refine HW.regionA 6 mixed (fun h => (SliceIs h 17 e_api_Addr vr_2 r_2) ∧ (Blk h b_1 (.cells #[.bool f_Exclude, vf_Sources] 24 (0, 0)))) [] (by kernel_rfl) ?_
    refine HA.val (k := 0) (v := .agg #[.bool f_Exclude, vf_Sources]) rfl rfl (by kernel_rfl) (by kernel_rfl) (want_none) rfl (fun _ ⟨hL_1, c304⟩ => q_loadAgg (cs := [.bool f_Exclude, vf_Sources]) ta_24 rfl rfl (Blk.cells (k := 2) c304 rfl)) ?_
    refine HA.val (k := 1) (v := vr_2) rfl rfl (by kernel_rfl) (by kernel_rfl) (want_none) rfl (fun _ ⟨hL_1, c304⟩ => q_move rfl) ?_
    refine HA.val (k := 2) (v := .int .i64 i_1) rfl rfl (by kernel_rfl) (by kernel_rfl) (want_none) rfl (fun _ ⟨hL_1, c304⟩ => q_move rfl) ?_
    obtain ⟨ho_1, hM⟩ := hM
    refine HA.val (k := 3) (v := elemPtr 17 vr_2 (i_1).toNat) rfl rfl (by kernel_rfl) (by kernel_rfl) (want_none) rfl (fun _ ⟨hL_1, c304⟩ => q_idx ts_22 hL_1 rfl rfl ho_1) ?_
    refine HA.val (k := 4) (v := .agg (e_api_Addr (gi r_2 i_1)).toArray) rfl rfl (by kernel_rfl) (by kernel_rfl) (want_none) rfl (fun _ ⟨hL_1, c304⟩ => q_ldElemAgg (cs := (e_api_Addr (gi r_2 i_1))) ta_27 hL_1 rfl ho_1 rfl) ?_
    refine HA.one (k := 5) ⟨⟨hL_1.is, (hS.box 0 rfl)⟩, (Go.Wk.at_nil _ _)⟩ (by kernel_rfl) ?_
    refine HS.call rfl (want_none) rfl (ec en_14 rfl rfl) (ref19_Lets_walk (fr := (Ow.box b_1 24 #[.bool f_Exclude, vf_Sources] :: Ow.own 27 17 e_api_Addr vout_1 out_1 :: fr)) f_Exclude f_Sources (gi r_2 i_1) vf_Sources hS hL_f_Sources hM) ?_
    rintro _ h_5 ⟨F_3, r_3, rfl, hk, hS, _, hM⟩
    replace hK := hK.trans hk
    replace hL_f_Sources := hL_f_Sources.kp hk
    replace hL_l := hL_l.kp hk
    replace hL_1 := hL_1.kp hk
    refine HA.nil ⟨⟨hL_1.is, (hS.box 0 rfl)⟩, (Go.Wk.at_nil _ _)⟩ (by kernel_rfl) (thenQ_normal (?_))
    refine HW.cond r_3 rfl (fun c_2 => ?_) (fun c_2 => ?_)
    · replace hM := hM.1 c_2
      refine HW.region ?_
      refine HO.val (v := vout_1) (want_none) rfl (q_move rfl) ?_
      refine HO.val (v := vr_2) (want_none) rfl (q_move rfl) ?_
      refine HO.val (v := .int .i64 i_1) (want_none) rfl (q_move rfl) ?_
      refine HO.val (v := elemPtr 17 vr_2 (i_1).toNat) (want_none) rfl (q_idx ts_22 hL_1.is rfl rfl ho_1) ?_
      refine HO.val (v := .agg (e_api_Addr (gi r_2 i_1)).toArray) (want_none) rfl (q_ldElemAgg (cs := (e_api_Addr (gi r_2 i_1))) ta_27 hL_1.is rfl ho_1 rfl) ?_
      refine HO.eff (want_none) rfl (st_lit (enc := e_api_Addr) (cells := #[.bool ((gi r_2 i_1).1), .int .u8 (b8 ((gi r_2 i_1).2) 0), .int .u8 (b8 ((gi r_2 i_1).2) 1), .int .u8 (b8 ((gi r_2 i_1).2) 2), .int .u8 (b8 ((gi r_2 i_1).2) 3), .int .u8 (b8 ((gi r_2 i_1).2) 4), .int .u8 (b8 ((gi r_2 i_1).2) 5), .int .u8 (b8 ((gi r_2 i_1).2) 6), .int .u8 (b8 ((gi r_2 i_1).2) 7), .int .u8 (b8 ((gi r_2 i_1).2) 8), .int .u8 (b8 ((gi r_2 i_1).2) 9), .int .u8 (b8 ((gi r_2 i_1).2) 10), .int .u8 (b8 ((gi r_2 i_1).2) 11), .int .u8 (b8 ((gi r_2 i_1).2) 12), .int .u8 (b8 ((gi r_2 i_1).2) 13), .int .u8 (b8 ((gi r_2 i_1).2) 14), .int .u8 (b8 ((gi r_2 i_1).2) 15)]) #[.bool false, .int .u8 0, .int .u8 0, .int .u8 0, .int .u8 0, .int .u8 0, .int .u8 0, .int .u8 0, .int .u8 0, .int .u8 0, .int .u8 0, .int .u8 0, .int .u8 0, .int .u8 0, .int .u8 0, .int .u8 0, .int .u8 0] ([(gi r_2 i_1)] : List T_api_Addr) hS tl_22 (by decide) (by decide) (by kernel_rfl) (by kernel_rfl) rfl (by intro x hx; rfl) rfl) ?_
      rintro _ h_6 ⟨b_3, rfl, hS, hk⟩
      replace hK := hK.trans hk
      replace hL_f_Sources := hL_f_Sources.kp hk
      replace hL_l := hL_l.kp hk
      replace hL_1 := hL_1.kp hk
      obtain ⟨ho_2, hM⟩ := hM
      refine HO.eff (want_none) rfl (st_append te_22 hS (i := 2) rfl (hS.own 0 rfl).slice rfl rfl rfl (by intro a _ u hu; simp [e_api_Addr, encI, encN, encB, encT] at hu; rcases hu with rfl | rfl | rfl | rfl | rfl | rfl | rfl | rfl | rfl | rfl | rfl | rfl | rfl | rfl | rfl | rfl | rfl <;> rfl) ho_2 (by omega)) ?_
      rintro v_1 h_7 ⟨hS, hk⟩
      replace hS : St F_3 (Ow.own 27 17 e_api_Addr (.slice (some ⟨b_3, 0, none⟩) 1 1) ([(gi r_2 i_1)] : List T_api_Addr) :: Ow.box b_1 24 #[.bool f_Exclude, vf_Sources] :: Ow.own 27 17 e_api_Addr v_1 (out_1 ++ ([(gi r_2 i_1)] : List T_api_Addr)) :: fr) h_7 := hS
      replace hK := hK.trans hk
      replace hL_f_Sources := hL_f_Sources.kp hk
      replace hL_l := hL_l.kp hk
      replace hL_1 := hL_1.kp hk
      refine HO.val (v := v_1) (want_none) rfl (q_assign rfl) ?_
      refine HO.nil (blockQ_normal (thenQ_normal (?_)))
      refine HW.region ?_
      refine HO.val (v := .int .i64 i_1) (want_none) rfl (q_move rfl) ?_
      obtain ⟨ho_3, hM⟩ := hM
      refine HO.val (v := .int .i64 (i_1 + 1)) (want_none) rfl (q_addN _ rfl rfl rfl ho_3.1 ho_3.2) ?_
      refine HO.val (v := .int .i64 (i_1 + 1)) (want_none) rfl (q_assign rfl) ?_
      refine HO.nil (thenQ_normal (?_))
      replace hS : St F_3 (Ow.box b_1 24 #[.bool f_Exclude, vf_Sources] :: Ow.own 27 17 e_api_Addr v_1 (out_1 ++ ([(gi r_2 i_1)] : List T_api_Addr)) :: fr) h_7 := hS.perm2 [1, 2] 3 rfl rfl
      rw [hKe_1] at hM
      exact ⟨(out_1 ++ ([(gi r_2 i_1)] : List T_api_Addr), i_1 + 1), ⟨F_3, v_1, rfl, rfl, rfl, rfl, rfl, hK, hS, hL_f_Sources, hL_l, hL_1, hM.1⟩, hM.2⟩
    · replace hM := hM.2 c_2
      refine HW.skip (blockQ_normal (thenQ_normal (?_)))
      refine HW.region ?_
      refine HO.val (v := .int .i64 i_1) (want_none) rfl (q_move rfl) ?_
      obtain ⟨ho_4, hM⟩ := hM
      refine HO.val (v := .int .i64 (i_1 + 1)) (want_none) rfl (q_addN _ rfl rfl rfl ho_4.1 ho_4.2) ?_
      refine HO.val (v := .int .i64 (i_1 + 1)) (want_none) rfl (q_assign rfl) ?_
      refine HO.nil (thenQ_normal (?_))
      rw [hKe_1] at hM
      exact ⟨(out_1, i_1 + 1), ⟨F_3, vout_1, rfl, rfl, rfl, rfl, rfl, hK, hS, hL_f_Sources, hL_l, hL_1, hM.1⟩, hM.2⟩
  · replace hM := hM.2 (of_decide_eq_false c_1)
    refine HW.exit (thenQ_exit (thenQ_exit (blockQ_exit (thenQ_normal (?_)))))
    refine HW.seq ?_
    refine HW.region ?_
    refine HO.val (v := vout_1) (want_none) rfl (q_move rfl) ?_
    refine HO.val (v := vout_1) (want_none) rfl (q_assign rfl) ?_
    refine HO.nil (thenQ_normal (?_))
    refine HW.ret (?_)
    refine ⟨.inr rfl, vout_1, res1 rfl (rt rfl), ?_⟩
    replace hS : St F_2 (Ow.own 27 17 e_api_Addr vout_1 out_1 :: fr) h_4 := hS.perm2 [1] 2 rfl rfl
    exact ⟨F_2, out_1, vout_1, rfl, hK, hS, hL_f_Sources, hL_l, hM⟩
end Go.Wk
