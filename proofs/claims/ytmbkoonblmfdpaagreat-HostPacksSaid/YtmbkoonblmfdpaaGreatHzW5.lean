/- Walks of Host and Proxy. -/
import Derived.Test.YtmbkoonblmfdpaaGreatHzW4
set_option linter.unusedSimpArgs false
set_option linter.unusedVariables false
set_option linter.unusedSectionVars false
set_option maxHeartbeats 40000000
set_option maxRecDepth 100000
namespace Go.Wk
open Go.HL
open Go.Proofs hiding encI
variable [DM]
def ref08_SameRecords_l1 (a : List T_api_Record) (b : List T_api_Record) (Q : Bool → Prop) (K_1 : Int → Prop) (i_1 : Int) : Prop :=
 (i_1 < (a.length : Int) → ((0 : Int) ≤ i_1 ∧ i_1 < (a.length : Int)) ∧ (((0 : Int) ≤ i_1 ∧ i_1 < (b.length : Int)) ∧ ((¬ (((gi a i_1).1) = ((gi b i_1).1)) → Q false) ∧ (((gi a i_1).1) = ((gi b i_1).1) → (¬ ((((gi a i_1).2.1) : T_api_Addr) = ((gi b i_1).2.1)) → Q false) ∧ ((((gi a i_1).2.1) : T_api_Addr) = ((gi b i_1).2.1) → ref08_SameAddrs_W (((gi a i_1).2.2).2) (((gi b i_1).2.2).2) (fun r_2 => ((!r_2) = true → Q false) ∧ ((!r_2) = false → (I64 (i_1 + 1)) ∧ (K_1 (i_1 + 1))))))))) ∧ (¬ (i_1 < (a.length : Int)) → Q true)
def ref08_SameRecords_W (a : List T_api_Record) (b : List T_api_Record) (Q : Bool → Prop) : Prop :=
 (¬ ((a.length : Int) = (b.length : Int)) → Q false) ∧ ((a.length : Int) = (b.length : Int) → loopW (fun (K_1 : Int → Prop) (s : Int) => ref08_SameRecords_l1 a b Q K_1 s) 0)
theorem ref08_SameRecords_walk {F : Fz} {fr : List Ow} {h0 : Heap} (a : List T_api_Record) (b : List T_api_Record) (va : Value) (vb : Value) (hS : St F (fr) h0) (hN_a : NfL nf_api_Record F h0 a) (hL_a : SliceF F h0 19 e_api_Record va a) (hN_b : NfL nf_api_Record F h0 b) (hL_b : SliceF F h0 19 e_api_Record vb b) {Q : Bool → Prop} (hM : ref08_SameRecords_W a b Q) :
  HC Tryz.prog 14 #[va, vb] h0 fun u h' => ∃ (F' : Fz) (r_1 : Bool), u = .bool r_1 ∧ Kp F h0 F' h' ∧ St F' (fr) h' ∧ (NfL nf_api_Record F' h' a) ∧ (SliceF F' h' 19 e_api_Record va a) ∧ (NfL nf_api_Record F' h' b) ∧ (SliceF F' h' 19 e_api_Record vb b) ∧ Q r_1 := by
 unfold ref08_SameRecords_W at hM
 have hK := Kp.refl F h0
 refine HC.of_HW (n := 55) Tryz.func14 rfl rfl (Nat.le_of_ble_eq_true rfl) ?_
 refine HW.seq ?_
 refine HW.region ?_
 refine oA (.bool false) rfl rfl ?_
 refine HO.nil (thenQ_normal (?_))
 refine HW.seq ?_
 refine HW.seq ?_
 refine HW.region ?_
 refine oM (va) rfl rfl ?_
 refine oV (.int .i64 (a.length : Int)) (q_len ts_22 (shp hL_a.is) rfl rfl) rfl ?_
 refine oM (vb) rfl rfl ?_
 refine oV (.int .i64 (b.length : Int)) (q_len ts_22 (shp hL_b.is) rfl rfl) rfl ?_
 refine oV (.bool (!decide ((a.length : Int) = (b.length : Int)))) (q_neq rfl rfl) rfl ?_
 refine HO.nil (thenQ_normal (?_))
 refine HW.cond (!decide ((a.length : Int) = (b.length : Int))) rfl (fun c_1 => ?_) (fun c_1 => ?_)
 ·
  replace hM := hM.1 (nd_true c_1)
  refine HW.seq ?_
  refine HW.region ?_
  refine oA (.bool false) rfl rfl ?_
  refine HO.nil (thenQ_normal (?_))
  refine HW.ret (thenQ_ret (?_))
  refine ⟨.inr rfl, .bool false, res1 rfl (rt rfl), ?_⟩
  exact ⟨F, false, rfl, hK, hS, hN_a, hL_a, hN_b, hL_b, hM⟩
 ·
  replace hM := hM.2 (nd_false c_1)
  refine HW.skip (thenQ_normal (?_))
  refine HW.seq ?_
  refine HW.seq ?_
  refine HW.region ?_
  refine oA (.int .i64 0) rfl rfl ?_
  refine HO.nil (thenQ_normal (?_))
  refine HW.block ?_
  obtain ⟨I_1, m_1, hI_1, hR_1⟩ := hM
  refine HW.loop (S := Int) (fun i_1 f h => ∃ (F' : Fz), f 0 = va ∧ f 1 = vb ∧ f 4 = .bool false ∧ f 5 = .int .i64 i_1 ∧ Kp F h0 F' h ∧ St F' (fr) h ∧ (NfL nf_api_Record F' h a) ∧ (SliceF F' h 19 e_api_Record va a) ∧ (NfL nf_api_Record F' h b) ∧ (SliceF F' h 19 e_api_Record vb b) ∧ I_1 i_1) m_1 0 ⟨F, rfl, rfl, rfl, rfl, hK, hS, hN_a, hL_a, hN_b, hL_b, hI_1⟩ ?_
  rintro i_1 f_1 h_1 ⟨F_1, e0, e1, e4, e5, hK, hS, hN_a, hL_a, hN_b, hL_b, hI0⟩
  obtain ⟨K_1, hKe_1⟩ : ∃ K : Int → Prop, K = fun i_1' => I_1 i_1' ∧ m_1 i_1' < m_1 i_1 := ⟨_, rfl⟩
  have hM : ref08_SameRecords_l1 a b Q K_1 i_1 := by rw [hKe_1]; exact hR_1 i_1 hI0
  unfold ref08_SameRecords_l1 at hM
  refine HW.fr [(0, va), (1, vb), (4, .bool false), (5, .int .i64 i_1)] ⟨e0, e1, e4, e5, trivial⟩ ?_
  refine HW.seq ?_
  refine HW.seq ?_
  refine HW.region ?_
  refine oM (.int .i64 i_1) rfl rfl ?_
  refine oM (va) rfl rfl ?_
  refine oV (.int .i64 (a.length : Int)) (q_len ts_22 (shp hL_a.is) rfl rfl) rfl ?_
  refine oV (.bool (decide (i_1 < (a.length : Int)))) (q_lss rfl rfl) rfl ?_
  refine HO.nil (thenQ_normal (?_))
  refine HW.cond (decide (i_1 < (a.length : Int))) rfl (fun c_2 => ?_) (fun c_2 => ?_)
  ·
   replace hM := hM.1 (of_decide_eq_true c_2)
   refine HW.skip (thenQ_normal (?_))
   refine HW.seq ?_
   refine HW.block ?_
   refine HW.seq ?_
   refine HW.regionA 38 mixed (fun h => (SliceIs h 19 e_api_Record va a) ∧ (SliceIs h 19 e_api_Record vb b)) [] (by kernel_rfl) ?_
   refine HA.val (k := 0) (v := va) rfl rfl (by kernel_rfl) (by kernel_rfl) (want_none) rfl (fun _ ⟨hL_a, hL_b⟩ => q_move rfl) ?_
   refine HA.val (k := 1) (v := .int .i64 i_1) rfl rfl (by kernel_rfl) (by kernel_rfl) (want_none) rfl (fun _ ⟨hL_a, hL_b⟩ => q_move rfl) ?_
   obtain ⟨ho_1, hM⟩ := hM
   refine HA.val (k := 2) (v := elemPtr 19 va (i_1).toNat) rfl rfl (by kernel_rfl) (by kernel_rfl) (want_none) rfl (fun _ ⟨hL_a, hL_b⟩ => q_idx ts_22 hL_a rfl rfl ho_1) ?_
   refine HA.val (k := 3) (v := fieldPtr 19 va (i_1).toNat 0) rfl rfl (by kernel_rfl) (by kernel_rfl) (want_none) rfl (fun _ ⟨hL_a, hL_b⟩ => q_fldElem fa_89_0 hL_a rfl ho_1) ?_
   refine HA.val (k := 4) (v := .int .i64 ((gi a i_1).1)) rfl rfl (by kernel_rfl) (by kernel_rfl) (want_none) rfl (fun _ ⟨hL_a, hL_b⟩ => q_ldField to_3 hL_a rfl ho_1 (by decide) rfl) ?_
   refine HA.val (k := 5) (v := vb) rfl rfl (by kernel_rfl) (by kernel_rfl) (want_none) rfl (fun _ ⟨hL_a, hL_b⟩ => q_move rfl) ?_
   refine HA.val (k := 6) (v := .int .i64 i_1) rfl rfl (by kernel_rfl) (by kernel_rfl) (want_none) rfl (fun _ ⟨hL_a, hL_b⟩ => q_move rfl) ?_
   obtain ⟨ho_2, hM⟩ := hM
   refine HA.val (k := 7) (v := elemPtr 19 vb (i_1).toNat) rfl rfl (by kernel_rfl) (by kernel_rfl) (want_none) rfl (fun _ ⟨hL_a, hL_b⟩ => q_idx ts_22 hL_b rfl rfl ho_2) ?_
   refine HA.val (k := 8) (v := fieldPtr 19 vb (i_1).toNat 0) rfl rfl (by kernel_rfl) (by kernel_rfl) (want_none) rfl (fun _ ⟨hL_a, hL_b⟩ => q_fldElem fa_89_0 hL_b rfl ho_2) ?_
   refine HA.val (k := 9) (v := .int .i64 ((gi b i_1).1)) rfl rfl (by kernel_rfl) (by kernel_rfl) (want_none) rfl (fun _ ⟨hL_a, hL_b⟩ => q_ldField to_3 hL_b rfl ho_2 (by decide) rfl) ?_
   refine HA.val (k := 10) (v := .bool (!decide (((gi a i_1).1) = ((gi b i_1).1)))) rfl rfl (by kernel_rfl) (by kernel_rfl) (want_none) rfl (fun _ ⟨hL_a, hL_b⟩ => q_neq rfl rfl) ?_
   refine HA.val (k := 11) (v := .bool (!decide (((gi a i_1).1) = ((gi b i_1).1)))) rfl rfl (by kernel_rfl) (by kernel_rfl) (want_none) rfl (fun _ ⟨hL_a, hL_b⟩ => q_move rfl) ?_
   rcases Bool.eq_false_or_eq_true (!decide (((gi a i_1).1) = ((gi b i_1).1))) with c_3 | c_3
   ·
    replace hM := hM.1 (nd_true c_3)
    refine HA.past (k := 12) rfl rfl (by kernel_rfl) (by kernel_rfl) (past_by rfl rfl c_3) rfl ?_
    refine HA.past (k := 13) rfl rfl (by kernel_rfl) (by kernel_rfl) (past_by rfl rfl c_3) rfl ?_
    refine HA.past (k := 14) rfl rfl (by kernel_rfl) (by kernel_rfl) (past_by rfl rfl c_3) rfl ?_
    refine HA.past (k := 15) rfl rfl (by kernel_rfl) (by kernel_rfl) (past_by rfl rfl c_3) rfl ?_
    refine HA.past (k := 16) rfl rfl (by kernel_rfl) (by kernel_rfl) (past_by rfl rfl c_3) rfl ?_
    refine HA.past (k := 17) rfl rfl (by kernel_rfl) (by kernel_rfl) (past_by rfl rfl c_3) rfl ?_
    refine HA.past (k := 18) rfl rfl (by kernel_rfl) (by kernel_rfl) (past_by rfl rfl c_3) rfl ?_
    refine HA.past (k := 19) rfl rfl (by kernel_rfl) (by kernel_rfl) (past_by rfl rfl c_3) rfl ?_
    refine HA.past (k := 20) rfl rfl (by kernel_rfl) (by kernel_rfl) (past_by rfl rfl c_3) rfl ?_
    refine HA.past (k := 21) rfl rfl (by kernel_rfl) (by kernel_rfl) (past_by rfl rfl c_3) rfl ?_
    refine HA.past (k := 22) rfl rfl (by kernel_rfl) (by kernel_rfl) (past_by rfl rfl c_3) rfl ?_
    refine HA.val (k := 23) (v := .bool true) rfl rfl (by kernel_rfl) (by kernel_rfl) (want_none) rfl (fun _ ⟨hL_a, hL_b⟩ => q_pickK true rfl c_3 rfl) ?_
    refine HA.val (k := 24) (v := .bool true) rfl rfl (by kernel_rfl) (by kernel_rfl) (want_none) rfl (fun _ ⟨hL_a, hL_b⟩ => q_move rfl) ?_
    refine HA.past (k := 25) rfl rfl (by kernel_rfl) (by kernel_rfl) (past_some rfl rfl) rfl ?_
    refine HA.past (k := 26) rfl rfl (by kernel_rfl) (by kernel_rfl) (past_some rfl rfl) rfl ?_
    refine HA.past (k := 27) rfl rfl (by kernel_rfl) (by kernel_rfl) (past_some rfl rfl) rfl ?_
    refine HA.past (k := 28) rfl rfl (by kernel_rfl) (by kernel_rfl) (past_some rfl rfl) rfl ?_
    refine HA.past (k := 29) rfl rfl (by kernel_rfl) (by kernel_rfl) (past_some rfl rfl) rfl ?_
    refine HA.past (k := 30) rfl rfl (by kernel_rfl) (by kernel_rfl) (past_some rfl rfl) rfl ?_
    refine HA.past (k := 31) rfl rfl (by kernel_rfl) (by kernel_rfl) (past_some rfl rfl) rfl ?_
    refine HA.past (k := 32) rfl rfl (by kernel_rfl) (by kernel_rfl) (past_some rfl rfl) rfl ?_
    refine HA.past (k := 33) rfl rfl (by kernel_rfl) (by kernel_rfl) (past_some rfl rfl) rfl ?_
    refine HA.past (k := 34) rfl rfl (by kernel_rfl) (by kernel_rfl) (past_some rfl rfl) rfl ?_
    refine HA.one (k := 35) ⟨⟨hL_a.is, hL_b.is⟩, (Go.Wk.at_nil _ _)⟩ (by kernel_rfl) ?_
    refine HS.past rfl (past_some rfl rfl) rfl ?_
    refine HA.past (k := 36) rfl rfl (by kernel_rfl) (by kernel_rfl) (past_some rfl rfl) rfl ?_
    refine HA.val (k := 37) (v := .bool true) rfl rfl (by kernel_rfl) (by kernel_rfl) (want_none) rfl (fun _ ⟨hL_a, hL_b⟩ => q_pick rfl rfl) ?_
    refine HA.nil ⟨⟨hL_a.is, hL_b.is⟩, (Go.Wk.at_nil _ _)⟩ (by kernel_rfl) (thenQ_normal (?_))
    refine HW.condT rfl ?_
    refine HW.seq ?_
    refine HW.region ?_
    refine oA (.bool false) rfl rfl ?_
    refine HO.nil (thenQ_normal (?_))
    refine HW.ret (blockQ_ret (thenQ_ret (thenQ_ret (blockQ_ret (thenQ_ret (?_))))))
    refine ⟨.inr rfl, .bool false, res1 rfl (rt rfl), ?_⟩
    exact ⟨F_1, false, rfl, hK, hS, hN_a, hL_a, hN_b, hL_b, hM⟩
   ·
    replace hM := hM.2 (nd_false c_3)
    refine HA.val (k := 12) (v := va) rfl rfl (by kernel_rfl) (by kernel_rfl) (want_by rfl rfl c_3) rfl (fun _ ⟨hL_a, hL_b⟩ => q_move rfl) ?_
    refine HA.val (k := 13) (v := .int .i64 i_1) rfl rfl (by kernel_rfl) (by kernel_rfl) (want_by rfl rfl c_3) rfl (fun _ ⟨hL_a, hL_b⟩ => q_move rfl) ?_
    refine HA.val (k := 14) (v := elemPtr 19 va (i_1).toNat) rfl rfl (by kernel_rfl) (by kernel_rfl) (want_by rfl rfl c_3) rfl (fun _ ⟨hL_a, hL_b⟩ => q_idx ts_22 hL_a rfl rfl ho_1) ?_
    refine HA.val (k := 15) (v := fieldPtr 19 va (i_1).toNat 1) rfl rfl (by kernel_rfl) (by kernel_rfl) (want_by rfl rfl c_3) rfl (fun _ ⟨hL_a, hL_b⟩ => q_fldElem fa_89_1 hL_a rfl ho_1) ?_
    refine HA.val (k := 16) (v := .agg (e_api_Addr ((gi a i_1).2.1)).toArray) rfl rfl (by kernel_rfl) (by kernel_rfl) (want_by rfl rfl c_3) rfl (fun _ ⟨hL_a, hL_b⟩ => q_ldFieldAgg (n := 17) (cs := (e_api_Addr ((gi a i_1).2.1))) ta_28 hL_a rfl ho_1 (by decide) rfl) ?_
    refine HA.val (k := 17) (v := vb) rfl rfl (by kernel_rfl) (by kernel_rfl) (want_by rfl rfl c_3) rfl (fun _ ⟨hL_a, hL_b⟩ => q_move rfl) ?_
    refine HA.val (k := 18) (v := .int .i64 i_1) rfl rfl (by kernel_rfl) (by kernel_rfl) (want_by rfl rfl c_3) rfl (fun _ ⟨hL_a, hL_b⟩ => q_move rfl) ?_
    refine HA.val (k := 19) (v := elemPtr 19 vb (i_1).toNat) rfl rfl (by kernel_rfl) (by kernel_rfl) (want_by rfl rfl c_3) rfl (fun _ ⟨hL_a, hL_b⟩ => q_idx ts_22 hL_b rfl rfl ho_2) ?_
    refine HA.val (k := 20) (v := fieldPtr 19 vb (i_1).toNat 1) rfl rfl (by kernel_rfl) (by kernel_rfl) (want_by rfl rfl c_3) rfl (fun _ ⟨hL_a, hL_b⟩ => q_fldElem fa_89_1 hL_b rfl ho_2) ?_
    refine HA.val (k := 21) (v := .agg (e_api_Addr ((gi b i_1).2.1)).toArray) rfl rfl (by kernel_rfl) (by kernel_rfl) (want_by rfl rfl c_3) rfl (fun _ ⟨hL_a, hL_b⟩ => q_ldFieldAgg (n := 17) (cs := (e_api_Addr ((gi b i_1).2.1))) ta_28 hL_b rfl ho_2 (by decide) rfl) ?_
    refine HA.val (k := 22) (v := .bool (!decide ((((gi a i_1).2.1) : T_api_Addr) = ((gi b i_1).2.1)))) rfl rfl (by kernel_rfl) (by kernel_rfl) (want_by rfl rfl c_3) rfl (fun _ ⟨hL_a, hL_b⟩ => q_neqAgg (a := ((gi a i_1).2.1)) (b := ((gi b i_1).2.1)) (fun a b w => teq_28 9997 a b w) (by kernel_rfl) rfl rfl rfl rfl) ?_
    refine HA.val (k := 23) (v := .bool (!decide ((((gi a i_1).2.1) : T_api_Addr) = ((gi b i_1).2.1)))) rfl rfl (by kernel_rfl) (by kernel_rfl) (want_none) rfl (fun _ ⟨hL_a, hL_b⟩ => q_pickK false rfl c_3 rfl) ?_
    refine HA.val (k := 24) (v := .bool (!decide ((((gi a i_1).2.1) : T_api_Addr) = ((gi b i_1).2.1)))) rfl rfl (by kernel_rfl) (by kernel_rfl) (want_none) rfl (fun _ ⟨hL_a, hL_b⟩ => q_move rfl) ?_
    rcases Bool.eq_false_or_eq_true (!decide ((((gi a i_1).2.1) : T_api_Addr) = ((gi b i_1).2.1))) with c_4 | c_4
    ·
     replace hM := hM.1 (nd_true c_4)
     refine HA.past (k := 25) rfl rfl (by kernel_rfl) (by kernel_rfl) (past_by rfl rfl c_4) rfl ?_
     refine HA.past (k := 26) rfl rfl (by kernel_rfl) (by kernel_rfl) (past_by rfl rfl c_4) rfl ?_
     refine HA.past (k := 27) rfl rfl (by kernel_rfl) (by kernel_rfl) (past_by rfl rfl c_4) rfl ?_
     refine HA.past (k := 28) rfl rfl (by kernel_rfl) (by kernel_rfl) (past_by rfl rfl c_4) rfl ?_
     refine HA.past (k := 29) rfl rfl (by kernel_rfl) (by kernel_rfl) (past_by rfl rfl c_4) rfl ?_
     refine HA.past (k := 30) rfl rfl (by kernel_rfl) (by kernel_rfl) (past_by rfl rfl c_4) rfl ?_
     refine HA.past (k := 31) rfl rfl (by kernel_rfl) (by kernel_rfl) (past_by rfl rfl c_4) rfl ?_
     refine HA.past (k := 32) rfl rfl (by kernel_rfl) (by kernel_rfl) (past_by rfl rfl c_4) rfl ?_
     refine HA.past (k := 33) rfl rfl (by kernel_rfl) (by kernel_rfl) (past_by rfl rfl c_4) rfl ?_
     refine HA.past (k := 34) rfl rfl (by kernel_rfl) (by kernel_rfl) (past_by rfl rfl c_4) rfl ?_
     refine HA.one (k := 35) ⟨⟨hL_a.is, hL_b.is⟩, (Go.Wk.at_nil _ _)⟩ (by kernel_rfl) ?_
     refine HS.past rfl (past_by rfl rfl c_4) rfl ?_
     refine HA.past (k := 36) rfl rfl (by kernel_rfl) (by kernel_rfl) (past_by rfl rfl c_4) rfl ?_
     refine HA.val (k := 37) (v := .bool true) rfl rfl (by kernel_rfl) (by kernel_rfl) (want_none) rfl (fun _ ⟨hL_a, hL_b⟩ => q_pickK true rfl c_4 rfl) ?_
     refine HA.nil ⟨⟨hL_a.is, hL_b.is⟩, (Go.Wk.at_nil _ _)⟩ (by kernel_rfl) (thenQ_normal (?_))
     refine HW.condT rfl ?_
     refine HW.seq ?_
     refine HW.region ?_
     refine oA (.bool false) rfl rfl ?_
     refine HO.nil (thenQ_normal (?_))
     refine HW.ret (blockQ_ret (thenQ_ret (thenQ_ret (blockQ_ret (thenQ_ret (?_))))))
     refine ⟨.inr rfl, .bool false, res1 rfl (rt rfl), ?_⟩
     exact ⟨F_1, false, rfl, hK, hS, hN_a, hL_a, hN_b, hL_b, hM⟩
    ·
     replace hM := hM.2 (nd_false c_4)
     refine HA.val (k := 25) (v := va) rfl rfl (by kernel_rfl) (by kernel_rfl) (want_by rfl rfl c_4) rfl (fun _ ⟨hL_a, hL_b⟩ => q_move rfl) ?_
     refine HA.val (k := 26) (v := .int .i64 i_1) rfl rfl (by kernel_rfl) (by kernel_rfl) (want_by rfl rfl c_4) rfl (fun _ ⟨hL_a, hL_b⟩ => q_move rfl) ?_
     refine HA.val (k := 27) (v := elemPtr 19 va (i_1).toNat) rfl rfl (by kernel_rfl) (by kernel_rfl) (want_by rfl rfl c_4) rfl (fun _ ⟨hL_a, hL_b⟩ => q_idx ts_22 hL_a rfl rfl ho_1) ?_
     refine HA.val (k := 28) (v := fieldPtr 19 va (i_1).toNat 18) rfl rfl (by kernel_rfl) (by kernel_rfl) (want_by rfl rfl c_4) rfl (fun _ ⟨hL_a, hL_b⟩ => q_fldElem fa_89_2 hL_a rfl ho_1) ?_
     refine HA.val (k := 29) (v := ((gi a i_1).2.2).1) rfl rfl (by kernel_rfl) (by kernel_rfl) (want_by rfl rfl c_4) rfl (fun _ ⟨hL_a, hL_b⟩ => q_ldField to_29 hL_a rfl ho_1 (by decide) rfl) ?_
     refine HA.val (k := 30) (v := vb) rfl rfl (by kernel_rfl) (by kernel_rfl) (want_by rfl rfl c_4) rfl (fun _ ⟨hL_a, hL_b⟩ => q_move rfl) ?_
     refine HA.val (k := 31) (v := .int .i64 i_1) rfl rfl (by kernel_rfl) (by kernel_rfl) (want_by rfl rfl c_4) rfl (fun _ ⟨hL_a, hL_b⟩ => q_move rfl) ?_
     refine HA.val (k := 32) (v := elemPtr 19 vb (i_1).toNat) rfl rfl (by kernel_rfl) (by kernel_rfl) (want_by rfl rfl c_4) rfl (fun _ ⟨hL_a, hL_b⟩ => q_idx ts_22 hL_b rfl rfl ho_2) ?_
     refine HA.val (k := 33) (v := fieldPtr 19 vb (i_1).toNat 18) rfl rfl (by kernel_rfl) (by kernel_rfl) (want_by rfl rfl c_4) rfl (fun _ ⟨hL_a, hL_b⟩ => q_fldElem fa_89_2 hL_b rfl ho_2) ?_
     refine HA.val (k := 34) (v := ((gi b i_1).2.2).1) rfl rfl (by kernel_rfl) (by kernel_rfl) (want_by rfl rfl c_4) rfl (fun _ ⟨hL_a, hL_b⟩ => q_ldField to_29 hL_b rfl ho_2 (by decide) rfl) ?_
     refine HA.one (k := 35) ⟨⟨hL_a.is, hL_b.is⟩, (Go.Wk.at_nil _ _)⟩ (by kernel_rfl) ?_
     refine HS.call rfl (want_by rfl rfl c_4) rfl (ec en_45 rfl rfl) (ref08_SameAddrs_walk (fr := (fr)) (((gi a i_1).2.2).2) (((gi b i_1).2.2).2) (((gi a i_1).2.2).1) (((gi b i_1).2.2).1) hS (nff_api_Record_18 (NfL.at hN_a ho_1)) (nff_api_Record_18 (NfL.at hN_b ho_2)) hM) ?_
     rintro _ h_2 ⟨F_2, r_2, rfl, hk, hS, _, _, hM⟩
     replace hK := hK.trans hk
     replace hN_a := hN_a.kp hk
     replace hL_a := hL_a.kp hk
     replace hN_b := hN_b.kp hk
     replace hL_b := hL_b.kp hk
     refine HA.val (k := 36) (v := .bool (!r_2)) rfl rfl (by kernel_rfl) (by kernel_rfl) (want_by rfl rfl c_4) rfl (fun _ ⟨hL_a, hL_b⟩ => q_not rfl) ?_
     refine HA.val (k := 37) (v := .bool (!r_2)) rfl rfl (by kernel_rfl) (by kernel_rfl) (want_none) rfl (fun _ ⟨hL_a, hL_b⟩ => q_pickK false rfl c_4 rfl) ?_
     refine HA.nil ⟨⟨hL_a.is, hL_b.is⟩, (Go.Wk.at_nil _ _)⟩ (by kernel_rfl) (thenQ_normal (?_))
     refine HW.cond (!r_2) rfl (fun c_5 => ?_) (fun c_5 => ?_)
     ·
      replace hM := hM.1 c_5
      refine HW.seq ?_
      refine HW.region ?_
      refine oA (.bool false) rfl rfl ?_
      refine HO.nil (thenQ_normal (?_))
      refine HW.ret (blockQ_ret (thenQ_ret (thenQ_ret (blockQ_ret (thenQ_ret (?_))))))
      refine ⟨.inr rfl, .bool false, res1 rfl (rt rfl), ?_⟩
      exact ⟨F_2, false, rfl, hK, hS, hN_a, hL_a, hN_b, hL_b, hM⟩
     ·
      replace hM := hM.2 c_5
      refine HW.skip (blockQ_normal (thenQ_normal (?_)))
      refine HW.region ?_
      refine oM (.int .i64 i_1) rfl rfl ?_
      obtain ⟨ho_3, hM⟩ := hM
      refine oV (.int .i64 (i_1 + 1)) (q_addN _ rfl rfl rfl ho_3.1 ho_3.2) rfl ?_
      refine oA (.int .i64 (i_1 + 1)) rfl rfl ?_
      refine HO.nil (thenQ_normal (?_))
      rw [hKe_1] at hM
      exact ⟨i_1 + 1, ⟨F_2, rfl, rfl, rfl, rfl, hK, hS, hN_a, hL_a, hN_b, hL_b, hM.1⟩, hM.2⟩
  ·
   replace hM := hM.2 (of_decide_eq_false c_2)
   refine HW.exit (thenQ_exit (thenQ_exit (blockQ_exit (thenQ_normal (?_)))))
   refine HW.seq ?_
   refine HW.region ?_
   refine oA (.bool true) rfl rfl ?_
   refine HO.nil (thenQ_normal (?_))
   refine HW.ret (?_)
   refine ⟨.inr rfl, .bool true, res1 rfl (rt rfl), ?_⟩
   exact ⟨F_1, true, rfl, hK, hS, hN_a, hL_a, hN_b, hL_b, hM⟩
def ref08_Same_j1 (a_Sources : List T_api_Addr) (a_Records : List T_api_Record) (b_Sources : List T_api_Addr) (b_Records : List T_api_Record) (Q : Bool → Prop) (b_3 : Bool) : Prop :=
 (b_3 = true → Q false) ∧ (b_3 = false → ref08_SameAddrs_W a_Sources b_Sources (fun r_2 => (r_2 = true → ref08_SameRecords_W a_Records b_Records (fun r_3 => Q r_3)) ∧ (r_2 = false → Q false)))
def ref08_Same_W (a_V6 : Bool) (a_Version : Int) (a_Kind : Int) (a_Resp : Int) (a_Group : T_api_Addr) (a_Quiet : Bool) (a_Robust : Int) (a_Every : Int) (a_Sources : List T_api_Addr) (a_Records : List T_api_Record) (b_V6 : Bool) (b_Version : Int) (b_Kind : Int) (b_Resp : Int) (b_Group : T_api_Addr) (b_Quiet : Bool) (b_Robust : Int) (b_Every : Int) (b_Sources : List T_api_Addr) (b_Records : List T_api_Record) (Q : Bool → Prop) : Prop :=
 ((!(a_V6 == b_V6)) = true → ref08_Same_j1 a_Sources a_Records b_Sources b_Records Q true) ∧ ((!(a_V6 == b_V6)) = false → (¬ (a_Version = b_Version) → ref08_Same_j1 a_Sources a_Records b_Sources b_Records Q true) ∧ (a_Version = b_Version → (¬ (a_Kind = b_Kind) → ref08_Same_j1 a_Sources a_Records b_Sources b_Records Q true) ∧ (a_Kind = b_Kind → (¬ (a_Resp = b_Resp) → ref08_Same_j1 a_Sources a_Records b_Sources b_Records Q true) ∧ (a_Resp = b_Resp → (¬ ((a_Group : T_api_Addr) = b_Group) → ref08_Same_j1 a_Sources a_Records b_Sources b_Records Q true) ∧ ((a_Group : T_api_Addr) = b_Group → ((!(a_Quiet == b_Quiet)) = true → ref08_Same_j1 a_Sources a_Records b_Sources b_Records Q true) ∧ ((!(a_Quiet == b_Quiet)) = false → (¬ (a_Robust = b_Robust) → ref08_Same_j1 a_Sources a_Records b_Sources b_Records Q true) ∧ (a_Robust = b_Robust → ref08_Same_j1 a_Sources a_Records b_Sources b_Records Q (!decide (a_Every = b_Every)))))))))
theorem ref08_Same_walk {F : Fz} {fr : List Ow} {h0 : Heap} (a_V6 : Bool) (a_Version : Int) (a_Kind : Int) (a_Resp : Int) (a_Group : T_api_Addr) (a_Quiet : Bool) (a_Robust : Int) (a_Every : Int) (a_Sources : List T_api_Addr) (a_Records : List T_api_Record) (b_V6 : Bool) (b_Version : Int) (b_Kind : Int) (b_Resp : Int) (b_Group : T_api_Addr) (b_Quiet : Bool) (b_Robust : Int) (b_Every : Int) (b_Sources : List T_api_Addr) (b_Records : List T_api_Record) (va_Sources : Value) (va_Records : Value) (vb_Sources : Value) (vb_Records : Value) (hS : St F (fr) h0) (hL_a_Sources : SliceF F h0 17 e_api_Addr va_Sources a_Sources) (hN_a_Records : NfL nf_api_Record F h0 a_Records) (hL_a_Records : SliceF F h0 19 e_api_Record va_Records a_Records) (hL_b_Sources : SliceF F h0 17 e_api_Addr vb_Sources b_Sources) (hN_b_Records : NfL nf_api_Record F h0 b_Records) (hL_b_Records : SliceF F h0 19 e_api_Record vb_Records b_Records) {Q : Bool → Prop} (hM : ref08_Same_W a_V6 a_Version a_Kind a_Resp a_Group a_Quiet a_Robust a_Every a_Sources a_Records b_V6 b_Version b_Kind b_Resp b_Group b_Quiet b_Robust b_Every b_Sources b_Records Q) :
  HC Tryz.prog 43 #[.agg (c_api_Talk (.bool a_V6) (.int .i64 a_Version) (.int .i64 a_Kind) (.int .i64 a_Resp) a_Group (.bool a_Quiet) (.int .i64 a_Robust) (.int .i64 a_Every) va_Sources va_Records).toArray, .agg (c_api_Talk (.bool b_V6) (.int .i64 b_Version) (.int .i64 b_Kind) (.int .i64 b_Resp) b_Group (.bool b_Quiet) (.int .i64 b_Robust) (.int .i64 b_Every) vb_Sources vb_Records).toArray] h0 fun u h' => ∃ (F' : Fz) (r_1 : Bool), u = .bool r_1 ∧ Kp F h0 F' h' ∧ St F' (fr) h' ∧ (SliceF F' h' 17 e_api_Addr va_Sources a_Sources) ∧ (NfL nf_api_Record F' h' a_Records) ∧ (SliceF F' h' 19 e_api_Record va_Records a_Records) ∧ (SliceF F' h' 17 e_api_Addr vb_Sources b_Sources) ∧ (NfL nf_api_Record F' h' b_Records) ∧ (SliceF F' h' 19 e_api_Record vb_Records b_Records) ∧ Q r_1 := by
 unfold ref08_Same_W at hM
 have hK := Kp.refl F h0
 refine HC.of_HW (n := 71) Tryz.func43 rfl rfl (Nat.le_of_ble_eq_true rfl) ?_
 refine HW.seq ?_
 refine HW.region ?_
 refine HO.eff (want_none) rfl (st_box (c := (c_api_Talk (.bool a_V6) (.int .i64 a_Version) (.int .i64 a_Kind) (.int .i64 a_Resp) a_Group (.bool a_Quiet) (.int .i64 a_Robust) (.int .i64 a_Every) va_Sources va_Records).toArray) (k' := 26) hS rfl rfl) ?_
 rintro _ h_1 ⟨b_1, rfl, hS, hk⟩
 replace hK := hK.trans hk
 replace hL_a_Sources := hL_a_Sources.kp hk
 replace hN_a_Records := hN_a_Records.kp hk
 replace hL_a_Records := hL_a_Records.kp hk
 replace hL_b_Sources := hL_b_Sources.kp hk
 replace hN_b_Records := hN_b_Records.kp hk
 replace hL_b_Records := hL_b_Records.kp hk
 refine HO.eff (want_none) rfl (st_box (c := (c_api_Talk (.bool b_V6) (.int .i64 b_Version) (.int .i64 b_Kind) (.int .i64 b_Resp) b_Group (.bool b_Quiet) (.int .i64 b_Robust) (.int .i64 b_Every) vb_Sources vb_Records).toArray) (k' := 26) hS rfl rfl) ?_
 rintro _ h_2 ⟨b_2, rfl, hS, hk⟩
 replace hK := hK.trans hk
 replace hL_a_Sources := hL_a_Sources.kp hk
 replace hN_a_Records := hN_a_Records.kp hk
 replace hL_a_Records := hL_a_Records.kp hk
 replace hL_b_Sources := hL_b_Sources.kp hk
 replace hN_b_Records := hN_b_Records.kp hk
 replace hL_b_Records := hL_b_Records.kp hk
 refine oA (.bool false) rfl rfl ?_
 refine HO.nil (thenQ_normal (?_))
 refine HW.seq ?_
 refine HW.seq_mid (fun f h => ∃ (F' : Fz) (b_3 : Bool), f 2 = .pointer (some ⟨b_1, 0, none⟩) ∧ f 3 = .pointer (some ⟨b_2, 0, none⟩) ∧ f 4 = .bool false ∧ f 58 = .bool b_3 ∧ Kp F h0 F' h ∧ St F' (Ow.box b_1 31 (c_api_Talk (.bool a_V6) (.int .i64 a_Version) (.int .i64 a_Kind) (.int .i64 a_Resp) a_Group (.bool a_Quiet) (.int .i64 a_Robust) (.int .i64 a_Every) va_Sources va_Records).toArray :: Ow.box b_2 31 (c_api_Talk (.bool b_V6) (.int .i64 b_Version) (.int .i64 b_Kind) (.int .i64 b_Resp) b_Group (.bool b_Quiet) (.int .i64 b_Robust) (.int .i64 b_Every) vb_Sources vb_Records).toArray :: fr) h ∧ (SliceF F' h 17 e_api_Addr va_Sources a_Sources) ∧ (NfL nf_api_Record F' h a_Records) ∧ (SliceF F' h 19 e_api_Record va_Records a_Records) ∧ (SliceF F' h 17 e_api_Addr vb_Sources b_Sources) ∧ (NfL nf_api_Record F' h b_Records) ∧ (SliceF F' h 19 e_api_Record vb_Records b_Records) ∧ ref08_Same_j1 a_Sources a_Records b_Sources b_Records Q b_3) ?_ ?_
 ·
  refine HW.region ?_
  refine oV (.pointer (some ⟨b_1, 0, none⟩)) (q_fieldAddr fa_31_0 rfl rfl) rfl ?_
  refine oV (.bool a_V6) (q_load to_4 rfl (Blk.cell (hS.box 1 rfl) rfl)) rfl ?_
  refine oV (.pointer (some ⟨b_2, 0, none⟩)) (q_fieldAddr fa_31_0 rfl rfl) rfl ?_
  refine oV (.bool b_V6) (q_load to_4 rfl (Blk.cell (hS.box 0 rfl) rfl)) rfl ?_
  refine oV (.bool (!(a_V6 == b_V6))) (q_neqB Tryz.underlying4 rfl rfl) rfl ?_
  refine oM (.bool (!(a_V6 == b_V6))) rfl rfl ?_
  rcases Bool.eq_false_or_eq_true (!(a_V6 == b_V6)) with c_1 | c_1
  ·
   replace hM := hM.1 c_1
   refine HO.past (past_by rfl rfl c_1) rfl ?_
   refine HO.past (past_by rfl rfl c_1) rfl ?_
   refine HO.past (past_by rfl rfl c_1) rfl ?_
   refine HO.past (past_by rfl rfl c_1) rfl ?_
   refine HO.past (past_by rfl rfl c_1) rfl ?_
   refine oV (.bool true) (q_pickK true rfl c_1 rfl) rfl ?_
   refine oM (.bool true) rfl rfl ?_
   refine HO.past (past_some rfl rfl) rfl ?_
   refine HO.past (past_some rfl rfl) rfl ?_
   refine HO.past (past_some rfl rfl) rfl ?_
   refine HO.past (past_some rfl rfl) rfl ?_
   refine HO.past (past_some rfl rfl) rfl ?_
   refine oV (.bool true) (q_pick rfl rfl) rfl ?_
   refine oM (.bool true) rfl rfl ?_
   refine HO.past (past_some rfl rfl) rfl ?_
   refine HO.past (past_some rfl rfl) rfl ?_
   refine HO.past (past_some rfl rfl) rfl ?_
   refine HO.past (past_some rfl rfl) rfl ?_
   refine HO.past (past_some rfl rfl) rfl ?_
   refine oV (.bool true) (q_pick rfl rfl) rfl ?_
   refine oM (.bool true) rfl rfl ?_
   refine HO.past (past_some rfl rfl) rfl ?_
   refine HO.past (past_some rfl rfl) rfl ?_
   refine HO.past (past_some rfl rfl) rfl ?_
   refine HO.past (past_some rfl rfl) rfl ?_
   refine HO.past (past_some rfl rfl) rfl ?_
   refine oV (.bool true) (q_pick rfl rfl) rfl ?_
   refine oM (.bool true) rfl rfl ?_
   refine HO.past (past_some rfl rfl) rfl ?_
   refine HO.past (past_some rfl rfl) rfl ?_
   refine HO.past (past_some rfl rfl) rfl ?_
   refine HO.past (past_some rfl rfl) rfl ?_
   refine HO.past (past_some rfl rfl) rfl ?_
   refine oV (.bool true) (q_pick rfl rfl) rfl ?_
   refine oM (.bool true) rfl rfl ?_
   refine HO.past (past_some rfl rfl) rfl ?_
   refine HO.past (past_some rfl rfl) rfl ?_
   refine HO.past (past_some rfl rfl) rfl ?_
   refine HO.past (past_some rfl rfl) rfl ?_
   refine HO.past (past_some rfl rfl) rfl ?_
   refine oV (.bool true) (q_pick rfl rfl) rfl ?_
   refine oM (.bool true) rfl rfl ?_
   refine HO.past (past_some rfl rfl) rfl ?_
   refine HO.past (past_some rfl rfl) rfl ?_
   refine HO.past (past_some rfl rfl) rfl ?_
   refine HO.past (past_some rfl rfl) rfl ?_
   refine HO.past (past_some rfl rfl) rfl ?_
   refine oV (.bool true) (q_pick rfl rfl) rfl ?_
   refine HO.nil (thenQ_normal (?_))
   replace hS : St F (Ow.box b_1 31 (c_api_Talk (.bool a_V6) (.int .i64 a_Version) (.int .i64 a_Kind) (.int .i64 a_Resp) a_Group (.bool a_Quiet) (.int .i64 a_Robust) (.int .i64 a_Every) va_Sources va_Records).toArray :: Ow.box b_2 31 (c_api_Talk (.bool b_V6) (.int .i64 b_Version) (.int .i64 b_Kind) (.int .i64 b_Resp) b_Group (.bool b_Quiet) (.int .i64 b_Robust) (.int .i64 b_Every) vb_Sources vb_Records).toArray :: fr) h_2 := hS.perm2 [1, 0] 2 rfl rfl
   exact ⟨F, true, rfl, rfl, rfl, rfl, hK, hS, hL_a_Sources, hN_a_Records, hL_a_Records, hL_b_Sources, hN_b_Records, hL_b_Records, hM⟩
  ·
   replace hM := hM.2 c_1
   refine HO.val (v := .pointer (some ⟨b_1, 1, none⟩)) (want_by rfl rfl c_1) rfl (q_fieldAddr fa_31_1 rfl rfl) ?_
   refine HO.val (v := .int .i64 a_Version) (want_by rfl rfl c_1) rfl (q_load to_3 rfl (Blk.cell (hS.box 1 rfl) rfl)) ?_
   refine HO.val (v := .pointer (some ⟨b_2, 1, none⟩)) (want_by rfl rfl c_1) rfl (q_fieldAddr fa_31_1 rfl rfl) ?_
   refine HO.val (v := .int .i64 b_Version) (want_by rfl rfl c_1) rfl (q_load to_3 rfl (Blk.cell (hS.box 0 rfl) rfl)) ?_
   refine HO.val (v := .bool (!decide (a_Version = b_Version))) (want_by rfl rfl c_1) rfl (q_neq rfl rfl) ?_
   refine oV (.bool (!decide (a_Version = b_Version))) (q_pickK false rfl c_1 rfl) rfl ?_
   refine oM (.bool (!decide (a_Version = b_Version))) rfl rfl ?_
   rcases Bool.eq_false_or_eq_true (!decide (a_Version = b_Version)) with c_2 | c_2
   ·
    replace hM := hM.1 (nd_true c_2)
    refine HO.past (past_by rfl rfl c_2) rfl ?_
    refine HO.past (past_by rfl rfl c_2) rfl ?_
    refine HO.past (past_by rfl rfl c_2) rfl ?_
    refine HO.past (past_by rfl rfl c_2) rfl ?_
    refine HO.past (past_by rfl rfl c_2) rfl ?_
    refine oV (.bool true) (q_pickK true rfl c_2 rfl) rfl ?_
    refine oM (.bool true) rfl rfl ?_
    refine HO.past (past_some rfl rfl) rfl ?_
    refine HO.past (past_some rfl rfl) rfl ?_
    refine HO.past (past_some rfl rfl) rfl ?_
    refine HO.past (past_some rfl rfl) rfl ?_
    refine HO.past (past_some rfl rfl) rfl ?_
    refine oV (.bool true) (q_pick rfl rfl) rfl ?_
    refine oM (.bool true) rfl rfl ?_
    refine HO.past (past_some rfl rfl) rfl ?_
    refine HO.past (past_some rfl rfl) rfl ?_
    refine HO.past (past_some rfl rfl) rfl ?_
    refine HO.past (past_some rfl rfl) rfl ?_
    refine HO.past (past_some rfl rfl) rfl ?_
    refine oV (.bool true) (q_pick rfl rfl) rfl ?_
    refine oM (.bool true) rfl rfl ?_
    refine HO.past (past_some rfl rfl) rfl ?_
    refine HO.past (past_some rfl rfl) rfl ?_
    refine HO.past (past_some rfl rfl) rfl ?_
    refine HO.past (past_some rfl rfl) rfl ?_
    refine HO.past (past_some rfl rfl) rfl ?_
    refine oV (.bool true) (q_pick rfl rfl) rfl ?_
    refine oM (.bool true) rfl rfl ?_
    refine HO.past (past_some rfl rfl) rfl ?_
    refine HO.past (past_some rfl rfl) rfl ?_
    refine HO.past (past_some rfl rfl) rfl ?_
    refine HO.past (past_some rfl rfl) rfl ?_
    refine HO.past (past_some rfl rfl) rfl ?_
    refine oV (.bool true) (q_pick rfl rfl) rfl ?_
    refine oM (.bool true) rfl rfl ?_
    refine HO.past (past_some rfl rfl) rfl ?_
    refine HO.past (past_some rfl rfl) rfl ?_
    refine HO.past (past_some rfl rfl) rfl ?_
    refine HO.past (past_some rfl rfl) rfl ?_
    refine HO.past (past_some rfl rfl) rfl ?_
    refine oV (.bool true) (q_pick rfl rfl) rfl ?_
    refine HO.nil (thenQ_normal (?_))
    replace hS : St F (Ow.box b_1 31 (c_api_Talk (.bool a_V6) (.int .i64 a_Version) (.int .i64 a_Kind) (.int .i64 a_Resp) a_Group (.bool a_Quiet) (.int .i64 a_Robust) (.int .i64 a_Every) va_Sources va_Records).toArray :: Ow.box b_2 31 (c_api_Talk (.bool b_V6) (.int .i64 b_Version) (.int .i64 b_Kind) (.int .i64 b_Resp) b_Group (.bool b_Quiet) (.int .i64 b_Robust) (.int .i64 b_Every) vb_Sources vb_Records).toArray :: fr) h_2 := hS.perm2 [1, 0] 2 rfl rfl
    exact ⟨F, true, rfl, rfl, rfl, rfl, hK, hS, hL_a_Sources, hN_a_Records, hL_a_Records, hL_b_Sources, hN_b_Records, hL_b_Records, hM⟩
   ·
    replace hM := hM.2 (nd_false c_2)
    refine HO.val (v := .pointer (some ⟨b_1, 2, none⟩)) (want_by rfl rfl c_2) rfl (q_fieldAddr fa_31_2 rfl rfl) ?_
    refine HO.val (v := .int .i64 a_Kind) (want_by rfl rfl c_2) rfl (q_load to_3 rfl (Blk.cell (hS.box 1 rfl) rfl)) ?_
    refine HO.val (v := .pointer (some ⟨b_2, 2, none⟩)) (want_by rfl rfl c_2) rfl (q_fieldAddr fa_31_2 rfl rfl) ?_
    refine HO.val (v := .int .i64 b_Kind) (want_by rfl rfl c_2) rfl (q_load to_3 rfl (Blk.cell (hS.box 0 rfl) rfl)) ?_
    refine HO.val (v := .bool (!decide (a_Kind = b_Kind))) (want_by rfl rfl c_2) rfl (q_neq rfl rfl) ?_
    refine oV (.bool (!decide (a_Kind = b_Kind))) (q_pickK false rfl c_2 rfl) rfl ?_
    refine oM (.bool (!decide (a_Kind = b_Kind))) rfl rfl ?_
    rcases Bool.eq_false_or_eq_true (!decide (a_Kind = b_Kind)) with c_3 | c_3
    ·
     replace hM := hM.1 (nd_true c_3)
     refine HO.past (past_by rfl rfl c_3) rfl ?_
     refine HO.past (past_by rfl rfl c_3) rfl ?_
     refine HO.past (past_by rfl rfl c_3) rfl ?_
     refine HO.past (past_by rfl rfl c_3) rfl ?_
     refine HO.past (past_by rfl rfl c_3) rfl ?_
     refine oV (.bool true) (q_pickK true rfl c_3 rfl) rfl ?_
     refine oM (.bool true) rfl rfl ?_
     refine HO.past (past_some rfl rfl) rfl ?_
     refine HO.past (past_some rfl rfl) rfl ?_
     refine HO.past (past_some rfl rfl) rfl ?_
     refine HO.past (past_some rfl rfl) rfl ?_
     refine HO.past (past_some rfl rfl) rfl ?_
     refine oV (.bool true) (q_pick rfl rfl) rfl ?_
     refine oM (.bool true) rfl rfl ?_
     refine HO.past (past_some rfl rfl) rfl ?_
     refine HO.past (past_some rfl rfl) rfl ?_
     refine HO.past (past_some rfl rfl) rfl ?_
     refine HO.past (past_some rfl rfl) rfl ?_
     refine HO.past (past_some rfl rfl) rfl ?_
     refine oV (.bool true) (q_pick rfl rfl) rfl ?_
     refine oM (.bool true) rfl rfl ?_
     refine HO.past (past_some rfl rfl) rfl ?_
     refine HO.past (past_some rfl rfl) rfl ?_
     refine HO.past (past_some rfl rfl) rfl ?_
     refine HO.past (past_some rfl rfl) rfl ?_
     refine HO.past (past_some rfl rfl) rfl ?_
     refine oV (.bool true) (q_pick rfl rfl) rfl ?_
     refine oM (.bool true) rfl rfl ?_
     refine HO.past (past_some rfl rfl) rfl ?_
     refine HO.past (past_some rfl rfl) rfl ?_
     refine HO.past (past_some rfl rfl) rfl ?_
     refine HO.past (past_some rfl rfl) rfl ?_
     refine HO.past (past_some rfl rfl) rfl ?_
     refine oV (.bool true) (q_pick rfl rfl) rfl ?_
     refine HO.nil (thenQ_normal (?_))
     replace hS : St F (Ow.box b_1 31 (c_api_Talk (.bool a_V6) (.int .i64 a_Version) (.int .i64 a_Kind) (.int .i64 a_Resp) a_Group (.bool a_Quiet) (.int .i64 a_Robust) (.int .i64 a_Every) va_Sources va_Records).toArray :: Ow.box b_2 31 (c_api_Talk (.bool b_V6) (.int .i64 b_Version) (.int .i64 b_Kind) (.int .i64 b_Resp) b_Group (.bool b_Quiet) (.int .i64 b_Robust) (.int .i64 b_Every) vb_Sources vb_Records).toArray :: fr) h_2 := hS.perm2 [1, 0] 2 rfl rfl
     exact ⟨F, true, rfl, rfl, rfl, rfl, hK, hS, hL_a_Sources, hN_a_Records, hL_a_Records, hL_b_Sources, hN_b_Records, hL_b_Records, hM⟩
    ·
     replace hM := hM.2 (nd_false c_3)
     refine HO.val (v := .pointer (some ⟨b_1, 3, none⟩)) (want_by rfl rfl c_3) rfl (q_fieldAddr fa_31_3 rfl rfl) ?_
     refine HO.val (v := .int .i64 a_Resp) (want_by rfl rfl c_3) rfl (q_load to_3 rfl (Blk.cell (hS.box 1 rfl) rfl)) ?_
     refine HO.val (v := .pointer (some ⟨b_2, 3, none⟩)) (want_by rfl rfl c_3) rfl (q_fieldAddr fa_31_3 rfl rfl) ?_
     refine HO.val (v := .int .i64 b_Resp) (want_by rfl rfl c_3) rfl (q_load to_3 rfl (Blk.cell (hS.box 0 rfl) rfl)) ?_
     refine HO.val (v := .bool (!decide (a_Resp = b_Resp))) (want_by rfl rfl c_3) rfl (q_neq rfl rfl) ?_
     refine oV (.bool (!decide (a_Resp = b_Resp))) (q_pickK false rfl c_3 rfl) rfl ?_
     refine oM (.bool (!decide (a_Resp = b_Resp))) rfl rfl ?_
     rcases Bool.eq_false_or_eq_true (!decide (a_Resp = b_Resp)) with c_4 | c_4
     ·
      replace hM := hM.1 (nd_true c_4)
      refine HO.past (past_by rfl rfl c_4) rfl ?_
      refine HO.past (past_by rfl rfl c_4) rfl ?_
      refine HO.past (past_by rfl rfl c_4) rfl ?_
      refine HO.past (past_by rfl rfl c_4) rfl ?_
      refine HO.past (past_by rfl rfl c_4) rfl ?_
      refine oV (.bool true) (q_pickK true rfl c_4 rfl) rfl ?_
      refine oM (.bool true) rfl rfl ?_
      refine HO.past (past_some rfl rfl) rfl ?_
      refine HO.past (past_some rfl rfl) rfl ?_
      refine HO.past (past_some rfl rfl) rfl ?_
      refine HO.past (past_some rfl rfl) rfl ?_
      refine HO.past (past_some rfl rfl) rfl ?_
      refine oV (.bool true) (q_pick rfl rfl) rfl ?_
      refine oM (.bool true) rfl rfl ?_
      refine HO.past (past_some rfl rfl) rfl ?_
      refine HO.past (past_some rfl rfl) rfl ?_
      refine HO.past (past_some rfl rfl) rfl ?_
      refine HO.past (past_some rfl rfl) rfl ?_
      refine HO.past (past_some rfl rfl) rfl ?_
      refine oV (.bool true) (q_pick rfl rfl) rfl ?_
      refine oM (.bool true) rfl rfl ?_
      refine HO.past (past_some rfl rfl) rfl ?_
      refine HO.past (past_some rfl rfl) rfl ?_
      refine HO.past (past_some rfl rfl) rfl ?_
      refine HO.past (past_some rfl rfl) rfl ?_
      refine HO.past (past_some rfl rfl) rfl ?_
      refine oV (.bool true) (q_pick rfl rfl) rfl ?_
      refine HO.nil (thenQ_normal (?_))
      replace hS : St F (Ow.box b_1 31 (c_api_Talk (.bool a_V6) (.int .i64 a_Version) (.int .i64 a_Kind) (.int .i64 a_Resp) a_Group (.bool a_Quiet) (.int .i64 a_Robust) (.int .i64 a_Every) va_Sources va_Records).toArray :: Ow.box b_2 31 (c_api_Talk (.bool b_V6) (.int .i64 b_Version) (.int .i64 b_Kind) (.int .i64 b_Resp) b_Group (.bool b_Quiet) (.int .i64 b_Robust) (.int .i64 b_Every) vb_Sources vb_Records).toArray :: fr) h_2 := hS.perm2 [1, 0] 2 rfl rfl
      exact ⟨F, true, rfl, rfl, rfl, rfl, hK, hS, hL_a_Sources, hN_a_Records, hL_a_Records, hL_b_Sources, hN_b_Records, hL_b_Records, hM⟩
     ·
      replace hM := hM.2 (nd_false c_4)
      refine HO.val (v := .pointer (some ⟨b_1, 4, none⟩)) (want_by rfl rfl c_4) rfl (q_fieldAddr fa_31_4 rfl rfl) ?_
      refine HO.val (v := .agg (e_api_Addr a_Group).toArray) (want_by rfl rfl c_4) rfl (q_loadAgg (cs := (e_api_Addr a_Group)) ta_28 rfl rfl (Blk.cells (k := 17) (hS.box 1 rfl) rfl)) ?_
      refine HO.val (v := .pointer (some ⟨b_2, 4, none⟩)) (want_by rfl rfl c_4) rfl (q_fieldAddr fa_31_4 rfl rfl) ?_
      refine HO.val (v := .agg (e_api_Addr b_Group).toArray) (want_by rfl rfl c_4) rfl (q_loadAgg (cs := (e_api_Addr b_Group)) ta_28 rfl rfl (Blk.cells (k := 17) (hS.box 0 rfl) rfl)) ?_
      refine HO.val (v := .bool (!decide ((a_Group : T_api_Addr) = b_Group))) (want_by rfl rfl c_4) rfl (q_neqAgg (a := a_Group) (b := b_Group) (fun a b w => teq_28 9997 a b w) (by kernel_rfl) rfl rfl rfl rfl) ?_
      refine oV (.bool (!decide ((a_Group : T_api_Addr) = b_Group))) (q_pickK false rfl c_4 rfl) rfl ?_
      refine oM (.bool (!decide ((a_Group : T_api_Addr) = b_Group))) rfl rfl ?_
      rcases Bool.eq_false_or_eq_true (!decide ((a_Group : T_api_Addr) = b_Group)) with c_5 | c_5
      ·
       replace hM := hM.1 (nd_true c_5)
       refine HO.past (past_by rfl rfl c_5) rfl ?_
       refine HO.past (past_by rfl rfl c_5) rfl ?_
       refine HO.past (past_by rfl rfl c_5) rfl ?_
       refine HO.past (past_by rfl rfl c_5) rfl ?_
       refine HO.past (past_by rfl rfl c_5) rfl ?_
       refine oV (.bool true) (q_pickK true rfl c_5 rfl) rfl ?_
       refine oM (.bool true) rfl rfl ?_
       refine HO.past (past_some rfl rfl) rfl ?_
       refine HO.past (past_some rfl rfl) rfl ?_
       refine HO.past (past_some rfl rfl) rfl ?_
       refine HO.past (past_some rfl rfl) rfl ?_
       refine HO.past (past_some rfl rfl) rfl ?_
       refine oV (.bool true) (q_pick rfl rfl) rfl ?_
       refine oM (.bool true) rfl rfl ?_
       refine HO.past (past_some rfl rfl) rfl ?_
       refine HO.past (past_some rfl rfl) rfl ?_
       refine HO.past (past_some rfl rfl) rfl ?_
       refine HO.past (past_some rfl rfl) rfl ?_
       refine HO.past (past_some rfl rfl) rfl ?_
       refine oV (.bool true) (q_pick rfl rfl) rfl ?_
       refine HO.nil (thenQ_normal (?_))
       replace hS : St F (Ow.box b_1 31 (c_api_Talk (.bool a_V6) (.int .i64 a_Version) (.int .i64 a_Kind) (.int .i64 a_Resp) a_Group (.bool a_Quiet) (.int .i64 a_Robust) (.int .i64 a_Every) va_Sources va_Records).toArray :: Ow.box b_2 31 (c_api_Talk (.bool b_V6) (.int .i64 b_Version) (.int .i64 b_Kind) (.int .i64 b_Resp) b_Group (.bool b_Quiet) (.int .i64 b_Robust) (.int .i64 b_Every) vb_Sources vb_Records).toArray :: fr) h_2 := hS.perm2 [1, 0] 2 rfl rfl
       exact ⟨F, true, rfl, rfl, rfl, rfl, hK, hS, hL_a_Sources, hN_a_Records, hL_a_Records, hL_b_Sources, hN_b_Records, hL_b_Records, hM⟩
      ·
       replace hM := hM.2 (nd_false c_5)
       refine HO.val (v := .pointer (some ⟨b_1, 21, none⟩)) (want_by rfl rfl c_5) rfl (q_fieldAddr fa_31_5 rfl rfl) ?_
       refine HO.val (v := .bool a_Quiet) (want_by rfl rfl c_5) rfl (q_load to_4 rfl (Blk.cell (hS.box 1 rfl) rfl)) ?_
       refine HO.val (v := .pointer (some ⟨b_2, 21, none⟩)) (want_by rfl rfl c_5) rfl (q_fieldAddr fa_31_5 rfl rfl) ?_
       refine HO.val (v := .bool b_Quiet) (want_by rfl rfl c_5) rfl (q_load to_4 rfl (Blk.cell (hS.box 0 rfl) rfl)) ?_
       refine HO.val (v := .bool (!(a_Quiet == b_Quiet))) (want_by rfl rfl c_5) rfl (q_neqB Tryz.underlying4 rfl rfl) ?_
       refine oV (.bool (!(a_Quiet == b_Quiet))) (q_pickK false rfl c_5 rfl) rfl ?_
       refine oM (.bool (!(a_Quiet == b_Quiet))) rfl rfl ?_
       rcases Bool.eq_false_or_eq_true (!(a_Quiet == b_Quiet)) with c_6 | c_6
       ·
        replace hM := hM.1 c_6
        refine HO.past (past_by rfl rfl c_6) rfl ?_
        refine HO.past (past_by rfl rfl c_6) rfl ?_
        refine HO.past (past_by rfl rfl c_6) rfl ?_
        refine HO.past (past_by rfl rfl c_6) rfl ?_
        refine HO.past (past_by rfl rfl c_6) rfl ?_
        refine oV (.bool true) (q_pickK true rfl c_6 rfl) rfl ?_
        refine oM (.bool true) rfl rfl ?_
        refine HO.past (past_some rfl rfl) rfl ?_
        refine HO.past (past_some rfl rfl) rfl ?_
        refine HO.past (past_some rfl rfl) rfl ?_
        refine HO.past (past_some rfl rfl) rfl ?_
        refine HO.past (past_some rfl rfl) rfl ?_
        refine oV (.bool true) (q_pick rfl rfl) rfl ?_
        refine HO.nil (thenQ_normal (?_))
        replace hS : St F (Ow.box b_1 31 (c_api_Talk (.bool a_V6) (.int .i64 a_Version) (.int .i64 a_Kind) (.int .i64 a_Resp) a_Group (.bool a_Quiet) (.int .i64 a_Robust) (.int .i64 a_Every) va_Sources va_Records).toArray :: Ow.box b_2 31 (c_api_Talk (.bool b_V6) (.int .i64 b_Version) (.int .i64 b_Kind) (.int .i64 b_Resp) b_Group (.bool b_Quiet) (.int .i64 b_Robust) (.int .i64 b_Every) vb_Sources vb_Records).toArray :: fr) h_2 := hS.perm2 [1, 0] 2 rfl rfl
        exact ⟨F, true, rfl, rfl, rfl, rfl, hK, hS, hL_a_Sources, hN_a_Records, hL_a_Records, hL_b_Sources, hN_b_Records, hL_b_Records, hM⟩
       ·
        replace hM := hM.2 c_6
        refine HO.val (v := .pointer (some ⟨b_1, 22, none⟩)) (want_by rfl rfl c_6) rfl (q_fieldAddr fa_31_6 rfl rfl) ?_
        refine HO.val (v := .int .i64 a_Robust) (want_by rfl rfl c_6) rfl (q_load to_3 rfl (Blk.cell (hS.box 1 rfl) rfl)) ?_
        refine HO.val (v := .pointer (some ⟨b_2, 22, none⟩)) (want_by rfl rfl c_6) rfl (q_fieldAddr fa_31_6 rfl rfl) ?_
        refine HO.val (v := .int .i64 b_Robust) (want_by rfl rfl c_6) rfl (q_load to_3 rfl (Blk.cell (hS.box 0 rfl) rfl)) ?_
        refine HO.val (v := .bool (!decide (a_Robust = b_Robust))) (want_by rfl rfl c_6) rfl (q_neq rfl rfl) ?_
        refine oV (.bool (!decide (a_Robust = b_Robust))) (q_pickK false rfl c_6 rfl) rfl ?_
        refine oM (.bool (!decide (a_Robust = b_Robust))) rfl rfl ?_
        rcases Bool.eq_false_or_eq_true (!decide (a_Robust = b_Robust)) with c_7 | c_7
        ·
         replace hM := hM.1 (nd_true c_7)
         refine HO.past (past_by rfl rfl c_7) rfl ?_
         refine HO.past (past_by rfl rfl c_7) rfl ?_
         refine HO.past (past_by rfl rfl c_7) rfl ?_
         refine HO.past (past_by rfl rfl c_7) rfl ?_
         refine HO.past (past_by rfl rfl c_7) rfl ?_
         refine oV (.bool true) (q_pickK true rfl c_7 rfl) rfl ?_
         refine HO.nil (thenQ_normal (?_))
         replace hS : St F (Ow.box b_1 31 (c_api_Talk (.bool a_V6) (.int .i64 a_Version) (.int .i64 a_Kind) (.int .i64 a_Resp) a_Group (.bool a_Quiet) (.int .i64 a_Robust) (.int .i64 a_Every) va_Sources va_Records).toArray :: Ow.box b_2 31 (c_api_Talk (.bool b_V6) (.int .i64 b_Version) (.int .i64 b_Kind) (.int .i64 b_Resp) b_Group (.bool b_Quiet) (.int .i64 b_Robust) (.int .i64 b_Every) vb_Sources vb_Records).toArray :: fr) h_2 := hS.perm2 [1, 0] 2 rfl rfl
         exact ⟨F, true, rfl, rfl, rfl, rfl, hK, hS, hL_a_Sources, hN_a_Records, hL_a_Records, hL_b_Sources, hN_b_Records, hL_b_Records, hM⟩
        ·
         replace hM := hM.2 (nd_false c_7)
         refine HO.val (v := .pointer (some ⟨b_1, 23, none⟩)) (want_by rfl rfl c_7) rfl (q_fieldAddr fa_31_7 rfl rfl) ?_
         refine HO.val (v := .int .i64 a_Every) (want_by rfl rfl c_7) rfl (q_load to_3 rfl (Blk.cell (hS.box 1 rfl) rfl)) ?_
         refine HO.val (v := .pointer (some ⟨b_2, 23, none⟩)) (want_by rfl rfl c_7) rfl (q_fieldAddr fa_31_7 rfl rfl) ?_
         refine HO.val (v := .int .i64 b_Every) (want_by rfl rfl c_7) rfl (q_load to_3 rfl (Blk.cell (hS.box 0 rfl) rfl)) ?_
         refine HO.val (v := .bool (!decide (a_Every = b_Every))) (want_by rfl rfl c_7) rfl (q_neq rfl rfl) ?_
         refine oV (.bool (!decide (a_Every = b_Every))) (q_pickK false rfl c_7 rfl) rfl ?_
         refine HO.nil (thenQ_normal (?_))
         replace hS : St F (Ow.box b_1 31 (c_api_Talk (.bool a_V6) (.int .i64 a_Version) (.int .i64 a_Kind) (.int .i64 a_Resp) a_Group (.bool a_Quiet) (.int .i64 a_Robust) (.int .i64 a_Every) va_Sources va_Records).toArray :: Ow.box b_2 31 (c_api_Talk (.bool b_V6) (.int .i64 b_Version) (.int .i64 b_Kind) (.int .i64 b_Resp) b_Group (.bool b_Quiet) (.int .i64 b_Robust) (.int .i64 b_Every) vb_Sources vb_Records).toArray :: fr) h_2 := hS.perm2 [1, 0] 2 rfl rfl
         exact ⟨F, !decide (a_Every = b_Every), rfl, rfl, rfl, rfl, hK, hS, hL_a_Sources, hN_a_Records, hL_a_Records, hL_b_Sources, hN_b_Records, hL_b_Records, hM⟩
 ·
  rintro f_1 h_3 ⟨F_1, b_3, e2, e3, e4, e58, hK, hS, hL_a_Sources, hN_a_Records, hL_a_Records, hL_b_Sources, hN_b_Records, hL_b_Records, hM⟩
  unfold ref08_Same_j1 at hM
  refine HW.fr [(2, .pointer (some ⟨b_1, 0, none⟩)), (3, .pointer (some ⟨b_2, 0, none⟩)), (4, .bool false), (58, .bool b_3)] ⟨e2, e3, e4, e58, trivial⟩ ?_
  refine HW.cond b_3 rfl (fun c_8 => ?_) (fun c_8 => ?_)
  ·
   replace hM := hM.1 c_8
   refine HW.seq ?_
   refine HW.region ?_
   refine oA (.bool false) rfl rfl ?_
   refine HO.nil (thenQ_normal (?_))
   refine HW.ret (thenQ_ret (?_))
   refine ⟨.inr rfl, .bool false, res1 rfl (rt rfl), ?_⟩
   replace hS : St F_1 (fr) h_3 := hS.perm2 [] 2 rfl rfl
   exact ⟨F_1, false, rfl, hK, hS, hL_a_Sources, hN_a_Records, hL_a_Records, hL_b_Sources, hN_b_Records, hL_b_Records, hM⟩
  ·
   replace hM := hM.2 c_8
   refine HW.skip (thenQ_normal (?_))
   refine HW.seq ?_
   refine HW.region ?_
   refine oV (.pointer (some ⟨b_1, 24, none⟩)) (q_fieldAddr fa_31_8 rfl rfl) rfl ?_
   refine oV (va_Sources) (q_load to_29 rfl (Blk.cell (hS.box 0 rfl) rfl)) rfl ?_
   refine oV (.pointer (some ⟨b_2, 24, none⟩)) (q_fieldAddr fa_31_8 rfl rfl) rfl ?_
   refine oV (vb_Sources) (q_load to_29 rfl (Blk.cell (hS.box 1 rfl) rfl)) rfl ?_
   refine HO.call (want_none) rfl (ec en_45 rfl rfl) (ref08_SameAddrs_walk (fr := (Ow.box b_1 31 (c_api_Talk (.bool a_V6) (.int .i64 a_Version) (.int .i64 a_Kind) (.int .i64 a_Resp) a_Group (.bool a_Quiet) (.int .i64 a_Robust) (.int .i64 a_Every) va_Sources va_Records).toArray :: Ow.box b_2 31 (c_api_Talk (.bool b_V6) (.int .i64 b_Version) (.int .i64 b_Kind) (.int .i64 b_Resp) b_Group (.bool b_Quiet) (.int .i64 b_Robust) (.int .i64 b_Every) vb_Sources vb_Records).toArray :: fr)) a_Sources b_Sources va_Sources vb_Sources hS hL_a_Sources hL_b_Sources hM) ?_
   rintro _ h_4 ⟨F_2, r_2, rfl, hk, hS, _, _, hM⟩
   replace hK := hK.trans hk
   replace hL_a_Sources := hL_a_Sources.kp hk
   replace hN_a_Records := hN_a_Records.kp hk
   replace hL_a_Records := hL_a_Records.kp hk
   replace hL_b_Sources := hL_b_Sources.kp hk
   replace hN_b_Records := hN_b_Records.kp hk
   replace hL_b_Records := hL_b_Records.kp hk
   refine oM (.bool r_2) rfl rfl ?_
   rcases Bool.eq_false_or_eq_true r_2 with c_9 | c_9
   ·
    replace hM := hM.1 c_9
    refine HO.val (v := .pointer (some ⟨b_1, 25, none⟩)) (want_by rfl rfl c_9) rfl (q_fieldAddr fa_31_9 rfl rfl) ?_
    refine HO.val (v := va_Records) (want_by rfl rfl c_9) rfl (q_load to_22 rfl (Blk.cell (hS.box 0 rfl) rfl)) ?_
    refine HO.val (v := .pointer (some ⟨b_2, 25, none⟩)) (want_by rfl rfl c_9) rfl (q_fieldAddr fa_31_9 rfl rfl) ?_
    refine HO.val (v := vb_Records) (want_by rfl rfl c_9) rfl (q_load to_22 rfl (Blk.cell (hS.box 1 rfl) rfl)) ?_
    refine HO.call (want_by rfl rfl c_9) rfl (ec en_14 rfl rfl) (ref08_SameRecords_walk (fr := (Ow.box b_1 31 (c_api_Talk (.bool a_V6) (.int .i64 a_Version) (.int .i64 a_Kind) (.int .i64 a_Resp) a_Group (.bool a_Quiet) (.int .i64 a_Robust) (.int .i64 a_Every) va_Sources va_Records).toArray :: Ow.box b_2 31 (c_api_Talk (.bool b_V6) (.int .i64 b_Version) (.int .i64 b_Kind) (.int .i64 b_Resp) b_Group (.bool b_Quiet) (.int .i64 b_Robust) (.int .i64 b_Every) vb_Sources vb_Records).toArray :: fr)) a_Records b_Records va_Records vb_Records hS hN_a_Records hL_a_Records hN_b_Records hL_b_Records hM) ?_
    rintro _ h_5 ⟨F_3, r_3, rfl, hk, hS, _, _, _, _, hM⟩
    replace hK := hK.trans hk
    replace hL_a_Sources := hL_a_Sources.kp hk
    replace hN_a_Records := hN_a_Records.kp hk
    replace hL_a_Records := hL_a_Records.kp hk
    replace hL_b_Sources := hL_b_Sources.kp hk
    replace hN_b_Records := hN_b_Records.kp hk
    replace hL_b_Records := hL_b_Records.kp hk
    refine oV (.bool r_3) (q_pickK true rfl c_9 rfl) rfl ?_
    refine oA (.bool r_3) rfl rfl ?_
    refine HO.nil (thenQ_normal (?_))
    refine HW.ret (?_)
    refine ⟨.inr rfl, .bool r_3, res1 rfl (rt rfl), ?_⟩
    replace hS : St F_3 (fr) h_5 := hS.perm2 [] 2 rfl rfl
    exact ⟨F_3, r_3, rfl, hK, hS, hL_a_Sources, hN_a_Records, hL_a_Records, hL_b_Sources, hN_b_Records, hL_b_Records, hM⟩
   ·
    replace hM := hM.2 c_9
    refine HO.past (past_by rfl rfl c_9) rfl ?_
    refine HO.past (past_by rfl rfl c_9) rfl ?_
    refine HO.past (past_by rfl rfl c_9) rfl ?_
    refine HO.past (past_by rfl rfl c_9) rfl ?_
    refine HO.past (past_by rfl rfl c_9) rfl ?_
    refine oV (.bool false) (q_pickK false rfl c_9 rfl) rfl ?_
    refine oA (.bool false) rfl rfl ?_
    refine HO.nil (thenQ_normal (?_))
    refine HW.ret (?_)
    refine ⟨.inr rfl, .bool false, res1 rfl (rt rfl), ?_⟩
    replace hS : St F_2 (fr) h_4 := hS.perm2 [] 2 rfl rfl
    exact ⟨F_2, false, rfl, hK, hS, hL_a_Sources, hN_a_Records, hL_a_Records, hL_b_Sources, hN_b_Records, hL_b_Records, hM⟩
def law20_SameTalks_l1 (a : List T_api_Talk) (b : List T_api_Talk) (Q : Bool → Prop) (K_1 : Int → Prop) (i_1 : Int) : Prop :=
 (i_1 < (a.length : Int) → ((0 : Int) ≤ i_1 ∧ i_1 < (a.length : Int)) ∧ (((0 : Int) ≤ i_1 ∧ i_1 < (b.length : Int)) ∧ (ref08_Same_W ((gi a i_1).1) ((gi a i_1).2.1) ((gi a i_1).2.2.1) ((gi a i_1).2.2.2.1) ((gi a i_1).2.2.2.2.1) ((gi a i_1).2.2.2.2.2.1) ((gi a i_1).2.2.2.2.2.2.1) ((gi a i_1).2.2.2.2.2.2.2.1) (((gi a i_1).2.2.2.2.2.2.2.2.1).2) (((gi a i_1).2.2.2.2.2.2.2.2.2).2) ((gi b i_1).1) ((gi b i_1).2.1) ((gi b i_1).2.2.1) ((gi b i_1).2.2.2.1) ((gi b i_1).2.2.2.2.1) ((gi b i_1).2.2.2.2.2.1) ((gi b i_1).2.2.2.2.2.2.1) ((gi b i_1).2.2.2.2.2.2.2.1) (((gi b i_1).2.2.2.2.2.2.2.2.1).2) (((gi b i_1).2.2.2.2.2.2.2.2.2).2) (fun r_2 => ((!r_2) = true → Q false) ∧ ((!r_2) = false → (I64 (i_1 + 1)) ∧ (K_1 (i_1 + 1))))))) ∧ (¬ (i_1 < (a.length : Int)) → Q true)
def law20_SameTalks_W (a : List T_api_Talk) (b : List T_api_Talk) (Q : Bool → Prop) : Prop :=
 (¬ ((a.length : Int) = (b.length : Int)) → Q false) ∧ ((a.length : Int) = (b.length : Int) → loopW (fun (K_1 : Int → Prop) (s : Int) => law20_SameTalks_l1 a b Q K_1 s) 0)
theorem law20_SameTalks_walk {F : Fz} {fr : List Ow} {h0 : Heap} (a : List T_api_Talk) (b : List T_api_Talk) (va : Value) (vb : Value) (hS : St F (fr) h0) (hN_a : NfL nf_api_Talk F h0 a) (hL_a : SliceF F h0 26 e_api_Talk va a) (hN_b : NfL nf_api_Talk F h0 b) (hL_b : SliceF F h0 26 e_api_Talk vb b) {Q : Bool → Prop} (hM : law20_SameTalks_W a b Q) :
  HC Tryz.prog 12 #[va, vb] h0 fun u h' => ∃ (F' : Fz) (r_1 : Bool), u = .bool r_1 ∧ Kp F h0 F' h' ∧ St F' (fr) h' ∧ (NfL nf_api_Talk F' h' a) ∧ (SliceF F' h' 26 e_api_Talk va a) ∧ (NfL nf_api_Talk F' h' b) ∧ (SliceF F' h' 26 e_api_Talk vb b) ∧ Q r_1 := by
 unfold law20_SameTalks_W at hM
 have hK := Kp.refl F h0
 refine HC.of_HW (n := 27) Tryz.func12 rfl rfl (Nat.le_of_ble_eq_true rfl) ?_
 refine HW.seq ?_
 refine HW.region ?_
 refine oA (.bool false) rfl rfl ?_
 refine HO.nil (thenQ_normal (?_))
 refine HW.seq ?_
 refine HW.seq ?_
 refine HW.region ?_
 refine oM (va) rfl rfl ?_
 refine oV (.int .i64 (a.length : Int)) (q_len ts_33 (shp hL_a.is) rfl rfl) rfl ?_
 refine oM (vb) rfl rfl ?_
 refine oV (.int .i64 (b.length : Int)) (q_len ts_33 (shp hL_b.is) rfl rfl) rfl ?_
 refine oV (.bool (!decide ((a.length : Int) = (b.length : Int)))) (q_neq rfl rfl) rfl ?_
 refine HO.nil (thenQ_normal (?_))
 refine HW.cond (!decide ((a.length : Int) = (b.length : Int))) rfl (fun c_1 => ?_) (fun c_1 => ?_)
 ·
  replace hM := hM.1 (nd_true c_1)
  refine HW.seq ?_
  refine HW.region ?_
  refine oA (.bool false) rfl rfl ?_
  refine HO.nil (thenQ_normal (?_))
  refine HW.ret (thenQ_ret (?_))
  refine ⟨.inr rfl, .bool false, res1 rfl (rt rfl), ?_⟩
  exact ⟨F, false, rfl, hK, hS, hN_a, hL_a, hN_b, hL_b, hM⟩
 ·
  replace hM := hM.2 (nd_false c_1)
  refine HW.skip (thenQ_normal (?_))
  refine HW.seq ?_
  refine HW.seq ?_
  refine HW.region ?_
  refine oA (.int .i64 0) rfl rfl ?_
  refine HO.nil (thenQ_normal (?_))
  refine HW.block ?_
  obtain ⟨I_1, m_1, hI_1, hR_1⟩ := hM
  refine HW.loop (S := Int) (fun i_1 f h => ∃ (F' : Fz), f 0 = va ∧ f 1 = vb ∧ f 4 = .bool false ∧ f 5 = .int .i64 i_1 ∧ Kp F h0 F' h ∧ St F' (fr) h ∧ (NfL nf_api_Talk F' h a) ∧ (SliceF F' h 26 e_api_Talk va a) ∧ (NfL nf_api_Talk F' h b) ∧ (SliceF F' h 26 e_api_Talk vb b) ∧ I_1 i_1) m_1 0 ⟨F, rfl, rfl, rfl, rfl, hK, hS, hN_a, hL_a, hN_b, hL_b, hI_1⟩ ?_
  rintro i_1 f_1 h_1 ⟨F_1, e0, e1, e4, e5, hK, hS, hN_a, hL_a, hN_b, hL_b, hI0⟩
  obtain ⟨K_1, hKe_1⟩ : ∃ K : Int → Prop, K = fun i_1' => I_1 i_1' ∧ m_1 i_1' < m_1 i_1 := ⟨_, rfl⟩
  have hM : law20_SameTalks_l1 a b Q K_1 i_1 := by rw [hKe_1]; exact hR_1 i_1 hI0
  unfold law20_SameTalks_l1 at hM
  refine HW.fr [(0, va), (1, vb), (4, .bool false), (5, .int .i64 i_1)] ⟨e0, e1, e4, e5, trivial⟩ ?_
  refine HW.seq ?_
  refine HW.seq ?_
  refine HW.region ?_
  refine oM (.int .i64 i_1) rfl rfl ?_
  refine oM (va) rfl rfl ?_
  refine oV (.int .i64 (a.length : Int)) (q_len ts_33 (shp hL_a.is) rfl rfl) rfl ?_
  refine oV (.bool (decide (i_1 < (a.length : Int)))) (q_lss rfl rfl) rfl ?_
  refine HO.nil (thenQ_normal (?_))
  refine HW.cond (decide (i_1 < (a.length : Int))) rfl (fun c_2 => ?_) (fun c_2 => ?_)
  ·
   replace hM := hM.1 (of_decide_eq_true c_2)
   refine HW.skip (thenQ_normal (?_))
   refine HW.seq ?_
   refine HW.block ?_
   refine HW.seq ?_
   refine HW.regionA 10 mixed (fun h => (SliceIs h 26 e_api_Talk va a) ∧ (SliceIs h 26 e_api_Talk vb b)) [] (by kernel_rfl) ?_
   refine HA.val (k := 0) (v := va) rfl rfl (by kernel_rfl) (by kernel_rfl) (want_none) rfl (fun _ ⟨hL_a, hL_b⟩ => q_move rfl) ?_
   refine HA.val (k := 1) (v := .int .i64 i_1) rfl rfl (by kernel_rfl) (by kernel_rfl) (want_none) rfl (fun _ ⟨hL_a, hL_b⟩ => q_move rfl) ?_
   obtain ⟨ho_1, hM⟩ := hM
   refine HA.val (k := 2) (v := elemPtr 26 va (i_1).toNat) rfl rfl (by kernel_rfl) (by kernel_rfl) (want_none) rfl (fun _ ⟨hL_a, hL_b⟩ => q_idx ts_33 hL_a rfl rfl ho_1) ?_
   refine HA.val (k := 3) (v := .agg (c_api_Talk (.bool ((gi a i_1).1)) (.int .i64 ((gi a i_1).2.1)) (.int .i64 ((gi a i_1).2.2.1)) (.int .i64 ((gi a i_1).2.2.2.1)) ((gi a i_1).2.2.2.2.1) (.bool ((gi a i_1).2.2.2.2.2.1)) (.int .i64 ((gi a i_1).2.2.2.2.2.2.1)) (.int .i64 ((gi a i_1).2.2.2.2.2.2.2.1)) (((gi a i_1).2.2.2.2.2.2.2.2.1).1) (((gi a i_1).2.2.2.2.2.2.2.2.2).1)).toArray) rfl rfl (by kernel_rfl) (by kernel_rfl) (want_none) rfl (fun _ ⟨hL_a, hL_b⟩ => q_ldElemAgg (cs := (c_api_Talk (.bool ((gi a i_1).1)) (.int .i64 ((gi a i_1).2.1)) (.int .i64 ((gi a i_1).2.2.1)) (.int .i64 ((gi a i_1).2.2.2.1)) ((gi a i_1).2.2.2.2.1) (.bool ((gi a i_1).2.2.2.2.2.1)) (.int .i64 ((gi a i_1).2.2.2.2.2.2.1)) (.int .i64 ((gi a i_1).2.2.2.2.2.2.2.1)) (((gi a i_1).2.2.2.2.2.2.2.2.1).1) (((gi a i_1).2.2.2.2.2.2.2.2.2).1))) ta_31 hL_a rfl ho_1 rfl) ?_
   refine HA.val (k := 4) (v := vb) rfl rfl (by kernel_rfl) (by kernel_rfl) (want_none) rfl (fun _ ⟨hL_a, hL_b⟩ => q_move rfl) ?_
   refine HA.val (k := 5) (v := .int .i64 i_1) rfl rfl (by kernel_rfl) (by kernel_rfl) (want_none) rfl (fun _ ⟨hL_a, hL_b⟩ => q_move rfl) ?_
   obtain ⟨ho_2, hM⟩ := hM
   refine HA.val (k := 6) (v := elemPtr 26 vb (i_1).toNat) rfl rfl (by kernel_rfl) (by kernel_rfl) (want_none) rfl (fun _ ⟨hL_a, hL_b⟩ => q_idx ts_33 hL_b rfl rfl ho_2) ?_
   refine HA.val (k := 7) (v := .agg (c_api_Talk (.bool ((gi b i_1).1)) (.int .i64 ((gi b i_1).2.1)) (.int .i64 ((gi b i_1).2.2.1)) (.int .i64 ((gi b i_1).2.2.2.1)) ((gi b i_1).2.2.2.2.1) (.bool ((gi b i_1).2.2.2.2.2.1)) (.int .i64 ((gi b i_1).2.2.2.2.2.2.1)) (.int .i64 ((gi b i_1).2.2.2.2.2.2.2.1)) (((gi b i_1).2.2.2.2.2.2.2.2.1).1) (((gi b i_1).2.2.2.2.2.2.2.2.2).1)).toArray) rfl rfl (by kernel_rfl) (by kernel_rfl) (want_none) rfl (fun _ ⟨hL_a, hL_b⟩ => q_ldElemAgg (cs := (c_api_Talk (.bool ((gi b i_1).1)) (.int .i64 ((gi b i_1).2.1)) (.int .i64 ((gi b i_1).2.2.1)) (.int .i64 ((gi b i_1).2.2.2.1)) ((gi b i_1).2.2.2.2.1) (.bool ((gi b i_1).2.2.2.2.2.1)) (.int .i64 ((gi b i_1).2.2.2.2.2.2.1)) (.int .i64 ((gi b i_1).2.2.2.2.2.2.2.1)) (((gi b i_1).2.2.2.2.2.2.2.2.1).1) (((gi b i_1).2.2.2.2.2.2.2.2.2).1))) ta_31 hL_b rfl ho_2 rfl) ?_
   refine HA.one (k := 8) ⟨⟨hL_a.is, hL_b.is⟩, (Go.Wk.at_nil _ _)⟩ (by kernel_rfl) ?_
   refine HS.call rfl (want_none) rfl (ec en_43 rfl rfl) (ref08_Same_walk (fr := (fr)) ((gi a i_1).1) ((gi a i_1).2.1) ((gi a i_1).2.2.1) ((gi a i_1).2.2.2.1) ((gi a i_1).2.2.2.2.1) ((gi a i_1).2.2.2.2.2.1) ((gi a i_1).2.2.2.2.2.2.1) ((gi a i_1).2.2.2.2.2.2.2.1) (((gi a i_1).2.2.2.2.2.2.2.2.1).2) (((gi a i_1).2.2.2.2.2.2.2.2.2).2) ((gi b i_1).1) ((gi b i_1).2.1) ((gi b i_1).2.2.1) ((gi b i_1).2.2.2.1) ((gi b i_1).2.2.2.2.1) ((gi b i_1).2.2.2.2.2.1) ((gi b i_1).2.2.2.2.2.2.1) ((gi b i_1).2.2.2.2.2.2.2.1) (((gi b i_1).2.2.2.2.2.2.2.2.1).2) (((gi b i_1).2.2.2.2.2.2.2.2.2).2) (((gi a i_1).2.2.2.2.2.2.2.2.1).1) (((gi a i_1).2.2.2.2.2.2.2.2.2).1) (((gi b i_1).2.2.2.2.2.2.2.2.1).1) (((gi b i_1).2.2.2.2.2.2.2.2.2).1) hS (nff_api_Talk_24 (NfL.at hN_a ho_1)) (nfn_api_Talk_25 (NfL.at hN_a ho_1)) (nff_api_Talk_25 (NfL.at hN_a ho_1)) (nff_api_Talk_24 (NfL.at hN_b ho_2)) (nfn_api_Talk_25 (NfL.at hN_b ho_2)) (nff_api_Talk_25 (NfL.at hN_b ho_2)) hM) ?_
   rintro _ h_2 ⟨F_2, r_2, rfl, hk, hS, _, _, _, _, _, _, hM⟩
   replace hK := hK.trans hk
   replace hN_a := hN_a.kp hk
   replace hL_a := hL_a.kp hk
   replace hN_b := hN_b.kp hk
   replace hL_b := hL_b.kp hk
   refine HA.val (k := 9) (v := .bool (!r_2)) rfl rfl (by kernel_rfl) (by kernel_rfl) (want_none) rfl (fun _ ⟨hL_a, hL_b⟩ => q_not rfl) ?_
   refine HA.nil ⟨⟨hL_a.is, hL_b.is⟩, (Go.Wk.at_nil _ _)⟩ (by kernel_rfl) (thenQ_normal (?_))
   refine HW.cond (!r_2) rfl (fun c_3 => ?_) (fun c_3 => ?_)
   ·
    replace hM := hM.1 c_3
    refine HW.seq ?_
    refine HW.region ?_
    refine oA (.bool false) rfl rfl ?_
    refine HO.nil (thenQ_normal (?_))
    refine HW.ret (blockQ_ret (thenQ_ret (thenQ_ret (blockQ_ret (thenQ_ret (?_))))))
    refine ⟨.inr rfl, .bool false, res1 rfl (rt rfl), ?_⟩
    exact ⟨F_2, false, rfl, hK, hS, hN_a, hL_a, hN_b, hL_b, hM⟩
   ·
    replace hM := hM.2 c_3
    refine HW.skip (blockQ_normal (thenQ_normal (?_)))
    refine HW.region ?_
    refine oM (.int .i64 i_1) rfl rfl ?_
    obtain ⟨ho_3, hM⟩ := hM
    refine oV (.int .i64 (i_1 + 1)) (q_addN _ rfl rfl rfl ho_3.1 ho_3.2) rfl ?_
    refine oA (.int .i64 (i_1 + 1)) rfl rfl ?_
    refine HO.nil (thenQ_normal (?_))
    rw [hKe_1] at hM
    exact ⟨i_1 + 1, ⟨F_2, rfl, rfl, rfl, rfl, hK, hS, hN_a, hL_a, hN_b, hL_b, hM.1⟩, hM.2⟩
  ·
   replace hM := hM.2 (of_decide_eq_false c_2)
   refine HW.exit (thenQ_exit (thenQ_exit (blockQ_exit (thenQ_normal (?_)))))
   refine HW.seq ?_
   refine HW.region ?_
   refine oA (.bool true) rfl rfl ?_
   refine HO.nil (thenQ_normal (?_))
   refine HW.ret (?_)
   refine ⟨.inr rfl, .bool true, res1 rfl (rt rfl), ?_⟩
   exact ⟨F_1, true, rfl, hK, hS, hN_a, hL_a, hN_b, hL_b, hM⟩
def law20_HostPacks_j1 (Q : Bool → Prop) (r_7 : List T_api_Talk) (said_1 : List T_api_Record) (i_2 : Int) (K_3 : (List T_api_Record) → Int → Prop) (b_3 : Bool) : Prop :=
 (b_3 = true → Q false) ∧ (b_3 = false → ((0 : Int) ≤ i_2 ∧ i_2 < (r_7.length : Int)) ∧ (((said_1.length + (((gi r_7 i_2).2.2.2.2.2.2.2.2.2).2).length) * 56 ≤ 140737488355328) ∧ ((I64 (i_2 + 1)) ∧ (K_3 (said_1 ++ (((gi r_7 i_2).2.2.2.2.2.2.2.2.2).2)) (i_2 + 1)))))
def law20_HostPacks_l4 (v6 : Bool) (Q : Bool → Prop) (all_1 : List T_api_Record) (r_7 : List T_api_Talk) (K_3 : (List T_api_Record) → Int → Prop) (said_1 : List T_api_Record) (i_2 : Int) : Prop :=
 (i_2 < (r_7.length : Int) → ((0 : Int) ≤ i_2 ∧ i_2 < (r_7.length : Int)) ∧ (ref10_Talk_W ((gi r_7 i_2).1) ((gi r_7 i_2).2.1) ((gi r_7 i_2).2.2.1) ((gi r_7 i_2).2.2.2.1) ((gi r_7 i_2).2.2.2.2.1) ((gi r_7 i_2).2.2.2.2.2.1) ((gi r_7 i_2).2.2.2.2.2.2.1) ((gi r_7 i_2).2.2.2.2.2.2.2.1) (((gi r_7 i_2).2.2.2.2.2.2.2.2.1).2) (((gi r_7 i_2).2.2.2.2.2.2.2.2.2).2) (fun r_8 => ((!r_8) = true → law20_HostPacks_j1 Q r_7 said_1 i_2 K_3 true) ∧ ((!r_8) = false → law20_HostPacks_j1 Q r_7 said_1 i_2 K_3 (decide (((((gi r_7 i_2).2.2.2.2.2.2.2.2.2).2).length : Int) = 0)))))) ∧ (¬ (i_2 < (r_7.length : Int)) → ref20_Pack_W v6 all_1 (fun r_9 => law20_SameTalks_W r_7 r_9 (fun r_10 => (r_10 = true → ref08_SameRecords_W said_1 all_1 (fun r_11 => (r_11 = true → law20_lives_W  (fun r_12 => Q r_12)) ∧ (r_11 = false → Q false))) ∧ (r_10 = false → Q false))))
def law20_HostPacks_l3 (v6 : Bool) (times : Int) (Q : Bool → Prop) (K_2 : (List T_api_Record) → (List T_api_Record) → Int → Prop) (l_2 : List T_api_Record) (all_1 : List T_api_Record) (k_1 : Int) : Prop :=
 (I64 (times.tmod 30)) ∧ ((k_1 < (times.tmod 30) → law08_Records_W l_2 6 (fun r_6 => ((all_1.length + r_6.length) * 56 ≤ 140737488355328) ∧ ((I64 (k_1 + 1)) ∧ (K_2 l_2 (all_1 ++ r_6) (k_1 + 1))))) ∧ (¬ (k_1 < (times.tmod 30)) → host_Pack_W v6 all_1 (fun r_7 => loopW (fun (K_3 : (List T_api_Record × Int) → Prop) (s : List T_api_Record × Int) => law20_HostPacks_l4 v6 Q all_1 r_7 (fun said_1 i_2 => K_3 (said_1, i_2)) s.1 s.2) ([], 0))))
def law20_HostPacks_l1 (v6 : Bool) (times : Int) (Q : Bool → Prop) (r_2 : List T_api_Record) (K_1 : Int → Prop) (i_1 : Int) : Prop :=
 (i_1 < (r_2.length : Int) → (I64 (i_1 + 1)) ∧ (((0 : Int) ≤ i_1 ∧ i_1 ≤ i_1 + 1 ∧ i_1 + 1 ≤ (r_2.length : Int)) ∧ (ref16_Last_W v6 (fun r_3 => ref10_Talk_W v6 r_3 2 0 (false, (default : Ba 16)) false 0 0 [] (cut r_2 i_1 (i_1 + 1)) (fun r_4 => ((!r_4) = true → law20_lives_W  (fun r_5 => Q r_5)) ∧ ((!r_4) = false → K_1 (i_1 + 1))))))) ∧ (¬ (i_1 < (r_2.length : Int)) → loopW (fun (K_2 : (List T_api_Record × List T_api_Record × Int) → Prop) (s : List T_api_Record × List T_api_Record × Int) => law20_HostPacks_l3 v6 times Q (fun l_2 all_1 k_1 => K_2 (l_2, all_1, k_1)) s.1 s.2.1 s.2.2) (r_2, [], 0))
def law20_HostPacks_W (v6 : Bool) (l : List T_api_Record) (times : Int) (Q : Bool → Prop) : Prop :=
 law08_Records_W l 6 (fun r_2 => loopW (fun (K_1 : Int → Prop) (s : Int) => law20_HostPacks_l1 v6 times Q r_2 K_1 s) 0)
theorem law20_HostPacks_walk {F : Fz} {fr : List Ow} {h0 : Heap} (v6 : Bool) (l : List T_api_Record) (times : Int) (vl : Value) (hS : St F (fr) h0) (hN_l : NfL nf_api_Record F h0 l) (hL_l : SliceF F h0 19 e_api_Record vl l) {Q : Bool → Prop} (hM : law20_HostPacks_W v6 l times Q) :
  HC Tryz.prog 3 #[.bool v6, vl, .int .u8 times] h0 fun u h' => ∃ (F' : Fz) (r_1 : Bool), u = .bool r_1 ∧ Kp F h0 F' h' ∧ St F' (fr) h' ∧ (NfL nf_api_Record F' h' l) ∧ (SliceF F' h' 19 e_api_Record vl l) ∧ Q r_1 := by
 unfold law20_HostPacks_W at hM
 have hK := Kp.refl F h0
 refine HC.of_HW (n := 90) Tryz.func3 rfl rfl (Nat.le_of_ble_eq_true rfl) ?_
 refine HW.seq ?_
 refine HW.region ?_
 refine oA (.bool false) rfl rfl ?_
 refine HO.nil (thenQ_normal (?_))
 refine HW.seq ?_
 refine HW.region ?_
 refine oM (vl) rfl rfl ?_
 refine HO.call (want_none) rfl (ec en_7 rfl rfl) (law08_Records_walk (fr := (fr)) l 6 vl hS hN_l hL_l hM) ?_
 rintro vr_1 h_1 ⟨F_1, r_2, _, rfl, hk, hS, _, _, hL_1, hM⟩
 replace hK := hK.trans hk
 replace hN_l := hN_l.kp hk
 replace hL_l := hL_l.kp hk
 refine oA (vr_1) rfl rfl ?_
 refine HO.nil (thenQ_normal (?_))
 refine HW.seq ?_
 refine HW.region ?_
 refine HO.eff (want_none) rfl (st_litEmpty (α := T_api_Record) e_api_Record hS tl_22) ?_
 rintro _ h_2 ⟨b_1, rfl, hS, hk⟩
 replace hK := hK.trans hk
 replace hN_l := hN_l.kp hk
 replace hL_l := hL_l.kp hk
 replace hL_1 := hL_1.kp hk
 have hN_1 : NfL nf_api_Record F_1 h_2 ([] : List T_api_Record) := NfL.nil _ _ _
 refine oA (.slice (some ⟨b_1, 0, none⟩) 0 0) rfl rfl ?_
 refine HO.nil (thenQ_normal (?_))
 refine HW.seq ?_
 refine HW.seq ?_
 refine HW.region ?_
 refine oA (.int .i64 0) rfl rfl ?_
 refine HO.nil (thenQ_normal (?_))
 refine HW.block ?_
 obtain ⟨I_1, m_1, hI_1, hR_1⟩ := hM
 replace hS : St F_1 (Ow.own 89 19 e_api_Record vr_1 r_2 :: Ow.own 89 19 e_api_Record (.slice (some ⟨b_1, 0, none⟩) 0 0) ([] : List T_api_Record) :: fr) h_2 := hS.perm2 [1, 0] 2 rfl rfl
 refine HW.loop (S := Int) (fun i_1 f h => ∃ (F' : Fz), f 0 = .bool v6 ∧ f 1 = vr_1 ∧ f 2 = .int .u8 times ∧ f 6 = .bool false ∧ f 7 = .slice (some ⟨b_1, 0, none⟩) 0 0 ∧ f 8 = .int .i64 i_1 ∧ Kp F h0 F' h ∧ St F' (Ow.own 89 19 e_api_Record vr_1 r_2 :: Ow.own 89 19 e_api_Record (.slice (some ⟨b_1, 0, none⟩) 0 0) ([] : List T_api_Record) :: fr) h ∧ (NfL nf_api_Record F' h l) ∧ (SliceF F' h 19 e_api_Record vl l) ∧ (NfL nf_api_Record F' h r_2) ∧ (NfL nf_api_Record F' h ([] : List T_api_Record)) ∧ I_1 i_1) m_1 0 ⟨F_1, rfl, rfl, rfl, rfl, rfl, rfl, hK, hS, hN_l, hL_l, hL_1, hN_1, hI_1⟩ ?_
 rintro i_1 f_1 h_3 ⟨F_2, e0, e1, e2, e6, e7, e8, hK, hS, hN_l, hL_l, hL_1, hN_1, hI0⟩
 obtain ⟨K_1, hKe_1⟩ : ∃ K : Int → Prop, K = fun i_1' => I_1 i_1' ∧ m_1 i_1' < m_1 i_1 := ⟨_, rfl⟩
 have hM : law20_HostPacks_l1 v6 times Q r_2 K_1 i_1 := by rw [hKe_1]; exact hR_1 i_1 hI0
 unfold law20_HostPacks_l1 at hM
 refine HW.fr [(0, .bool v6), (1, vr_1), (2, .int .u8 times), (6, .bool false), (7, .slice (some ⟨b_1, 0, none⟩) 0 0), (8, .int .i64 i_1)] ⟨e0, e1, e2, e6, e7, e8, trivial⟩ ?_
 refine HW.seq ?_
 refine HW.seq ?_
 refine HW.region ?_
 refine oM (.int .i64 i_1) rfl rfl ?_
 refine oM (vr_1) rfl rfl ?_
 refine oV (.int .i64 (r_2.length : Int)) (q_len ts_22 (shp (hS.own 0 rfl).slice) rfl rfl) rfl ?_
 refine oV (.bool (decide (i_1 < (r_2.length : Int)))) (q_lss rfl rfl) rfl ?_
 refine HO.nil (thenQ_normal (?_))
 refine HW.cond (decide (i_1 < (r_2.length : Int))) rfl (fun c_1 => ?_) (fun c_1 => ?_)
 ·
  replace hM := hM.1 (of_decide_eq_true c_1)
  refine HW.skip (thenQ_normal (?_))
  refine HW.seq ?_
  refine HW.block ?_
  refine HW.seq ?_
  refine HW.regionA 11 mixed (fun h => (OwnIs h 0 89 19 e_api_Record vr_1 r_2)) [] (by kernel_rfl) ?_
  refine HA.val (k := 0) (v := .bool v6) rfl rfl (by kernel_rfl) (by kernel_rfl) (want_none) rfl (fun _ c303 => q_move rfl) ?_
  refine HA.val (k := 1) (v := .bool v6) rfl rfl (by kernel_rfl) (by kernel_rfl) (want_none) rfl (fun _ c303 => q_move rfl) ?_
  refine HA.val (k := 3) (v := vr_1) rfl rfl (by kernel_rfl) (by kernel_rfl) (want_none) rfl (fun _ c303 => q_move rfl) ?_
  refine HA.val (k := 4) (v := .int .i64 i_1) rfl rfl (by kernel_rfl) (by kernel_rfl) (want_none) rfl (fun _ c303 => q_move rfl) ?_
  refine HA.val (k := 5) (v := .int .i64 i_1) rfl rfl (by kernel_rfl) (by kernel_rfl) (want_none) rfl (fun _ c303 => q_move rfl) ?_
  obtain ⟨ho_1, hM⟩ := hM
  refine HA.val (k := 6) (v := .int .i64 (i_1 + 1)) rfl rfl (by kernel_rfl) (by kernel_rfl) (want_none) rfl (fun _ c303 => q_addN _ rfl rfl rfl ho_1.1 ho_1.2) ?_
  obtain ⟨ho_2, hM⟩ := hM
  refine HA.val (k := 7) (v := cutV 19 vr_1 (i_1).toNat (i_1 + 1).toNat) rfl rfl (by kernel_rfl) (by kernel_rfl) (want_none) rfl (fun _ c303 => q_slLH ts_22 c303.slice rfl rfl rfl ho_2) ?_
  refine HA.one (k := 2) ⟨(hS.own 0 rfl), (Go.Wk.at_nil _ _)⟩ (by kernel_rfl) ?_
  refine HS.call rfl (want_none) rfl (ec en_9 rfl rfl) (ref16_Last_walk (fr := (Ow.own 89 19 e_api_Record vr_1 r_2 :: Ow.own 89 19 e_api_Record (.slice (some ⟨b_1, 0, none⟩) 0 0) ([] : List T_api_Record) :: fr)) v6 hS hM) ?_
  rintro _ h_4 ⟨F_3, r_3, rfl, hk, hS, hM⟩
  replace hK := hK.trans hk
  replace hN_l := hN_l.kp hk
  replace hL_l := hL_l.kp hk
  replace hL_1 := hL_1.kp hk
  replace hN_1 := hN_1.kp hk
  refine HA.val (k := 8) (v := .agg (c_api_Talk (.bool v6) (.int .i64 r_3) (.int .i64 2) (.int .i64 0) (false, (default : Ba 16)) (.bool false) (.int .i64 0) (.int .i64 0) (.slice none 0 0) (cutV 19 vr_1 (i_1).toNat (i_1 + 1).toNat)).toArray) rfl rfl (by kernel_rfl) (by kernel_rfl) (want_none) rfl (fun _ c303 => q_build tp_31 (fill_cons (cs' := (c_api_Talk (.bool v6) (.int .i64 0) (.int .i64 0) (.int .i64 0) (false, (default : Ba 16)) (.bool false) (.int .i64 0) (.int .i64 0) (.slice none 0 0) (.slice none 0 0)).toArray) (vc := #[.bool v6]) rfl rfl rfl (Nat.le_of_ble_eq_true rfl) rfl (fill_cons (cs' := (c_api_Talk (.bool v6) (.int .i64 r_3) (.int .i64 0) (.int .i64 0) (false, (default : Ba 16)) (.bool false) (.int .i64 0) (.int .i64 0) (.slice none 0 0) (.slice none 0 0)).toArray) (vc := #[.int .i64 r_3]) rfl rfl rfl (Nat.le_of_ble_eq_true rfl) rfl (fill_cons (cs' := (c_api_Talk (.bool v6) (.int .i64 r_3) (.int .i64 2) (.int .i64 0) (false, (default : Ba 16)) (.bool false) (.int .i64 0) (.int .i64 0) (.slice none 0 0) (.slice none 0 0)).toArray) (vc := #[.int .i64 2]) rfl rfl rfl (Nat.le_of_ble_eq_true rfl) rfl (fill_cons (cs' := (c_api_Talk (.bool v6) (.int .i64 r_3) (.int .i64 2) (.int .i64 0) (false, (default : Ba 16)) (.bool false) (.int .i64 0) (.int .i64 0) (.slice none 0 0) (cutV 19 vr_1 (i_1).toNat (i_1 + 1).toNat)).toArray) (vc := #[cutV 19 vr_1 (i_1).toNat (i_1 + 1).toNat]) rfl (shp (cutIs c303.slice i_1 (i_1 + 1) ho_2.1 ho_2.2.1 ho_2.2.2)).cells rfl (Nat.le_of_ble_eq_true rfl) rfl rfl))))) ?_
  refine HA.one (k := 9) ⟨(hS.own 0 rfl), (Go.Wk.at_nil _ _)⟩ (by kernel_rfl) ?_
  replace hS : St F_3 (Ow.own 89 19 e_api_Record vr_1 r_2 :: Ow.own 89 19 e_api_Record (.slice (some ⟨b_1, 0, none⟩) 0 0) ([] : List T_api_Record) :: fr) h_4 := hS
  have hZ_1 := hS
  have hkz_1 := (hS.freeze).2
  replace hS := hS.freeze.1
  have hL_2 : SliceF (fun bz_ => F_3 bz_ ∨ (Ow.own 89 19 e_api_Record vr_1 r_2).foot bz_) h_4 19 e_api_Record vr_1 r_2 := ⟨(hZ_1.own 0 rfl).slice, fun _ b hb => .inr hb⟩
  refine HS.call rfl (want_none) rfl (ec en_8 rfl rfl) (ref10_Talk_walk (fr := (Ow.own 89 19 e_api_Record (.slice (some ⟨b_1, 0, none⟩) 0 0) ([] : List T_api_Record) :: fr)) v6 r_3 2 0 (false, (default : Ba 16)) false 0 0 [] (cut r_2 i_1 (i_1 + 1)) (.slice none 0 0) (cutV 19 vr_1 (i_1).toNat (i_1 + 1).toNat) hS (SliceF.nil _ _ _ _) (NfL.kp (NfL.cut hL_1 _ _) hkz_1) (cutF hL_2 i_1 (i_1 + 1) ho_2.1 ho_2.2.1 ho_2.2.2) hM) ?_
  rintro _ h_5 ⟨F_4, r_4, rfl, hk, hS, _, _, _, hM⟩
  obtain ⟨hS, hk⟩ := hZ_1.back hk hS
  generalize (fun bz_ => F_4 bz_ ∧ ¬ (Ow.own 89 19 e_api_Record vr_1 r_2).foot bz_) = F_5 at hS hk
  replace hK := hK.trans hk
  replace hN_l := hN_l.kp hk
  replace hL_l := hL_l.kp hk
  replace hL_1 := hL_1.kp hk
  replace hN_1 := hN_1.kp hk
  refine HA.val (k := 10) (v := .bool (!r_4)) rfl rfl (by kernel_rfl) (by kernel_rfl) (want_none) rfl (fun _ c303 => q_not rfl) ?_
  refine HA.nil ⟨(hS.own 0 rfl), (Go.Wk.at_nil _ _)⟩ (by kernel_rfl) (thenQ_normal (?_))
  refine HW.cond (!r_4) rfl (fun c_2 => ?_) (fun c_2 => ?_)
  ·
   replace hM := hM.1 c_2
   refine HW.seq ?_
   refine HW.region ?_
   refine HO.call (want_none) rfl (ec en_10 rfl rfl) (law20_lives_walk (fr := (Ow.own 89 19 e_api_Record vr_1 r_2 :: Ow.own 89 19 e_api_Record (.slice (some ⟨b_1, 0, none⟩) 0 0) ([] : List T_api_Record) :: fr))  hS hM) ?_
   rintro _ h_6 ⟨F_6, r_5, rfl, hk, hS, hM⟩
   replace hK := hK.trans hk
   replace hN_l := hN_l.kp hk
   replace hL_l := hL_l.kp hk
   refine oA (.bool r_5) rfl rfl ?_
   refine HO.nil (thenQ_normal (?_))
   refine HW.ret (blockQ_ret (thenQ_ret (thenQ_ret (blockQ_ret (thenQ_ret (?_))))))
   refine ⟨.inr rfl, .bool r_5, res1 rfl (rt rfl), ?_⟩
   replace hS : St F_6 (fr) h_6 := hS.perm2 [] 2 rfl rfl
   exact ⟨F_6, r_5, rfl, hK, hS, hN_l, hL_l, hM⟩
  ·
   replace hM := hM.2 c_2
   refine HW.skip (blockQ_normal (thenQ_normal (?_)))
   refine HW.region ?_
   refine oM (.int .i64 i_1) rfl rfl ?_
   refine oV (.int .i64 (i_1 + 1)) (q_addN _ rfl rfl rfl ho_1.1 ho_1.2) rfl ?_
   refine oA (.int .i64 (i_1 + 1)) rfl rfl ?_
   refine HO.nil (thenQ_normal (?_))
   rw [hKe_1] at hM
   exact ⟨i_1 + 1, ⟨F_5, rfl, rfl, rfl, rfl, rfl, rfl, hK, hS, hN_l, hL_l, hL_1, hN_1, hM.1⟩, hM.2⟩
 ·
  replace hM := hM.2 (of_decide_eq_false c_1)
  refine HW.exit (thenQ_exit (thenQ_exit (blockQ_exit (thenQ_normal (?_)))))
  refine HW.seq ?_
  refine HW.seq ?_
  refine HW.region ?_
  refine oA (.int .i64 0) rfl rfl ?_
  refine HO.nil (thenQ_normal (?_))
  refine HW.block ?_
  obtain ⟨I_2, m_2, hI_2, hR_2⟩ := hM
  obtain ⟨F_7, hS, hk, hL_4⟩ := hS.freezeOwn
  replace hK := hK.trans hk
  replace hN_l := hN_l.kp hk
  replace hL_l := hL_l.kp hk
  replace hL_1 := hL_1.kp hk
  replace hN_1 := hN_1.kp hk
  refine HW.loop (S := List T_api_Record × List T_api_Record × Int) (fun s f h => match s with | (l_2, all_1, k_1) => ∃ (F' : Fz) (vl_1 : Value) (vall_1 : Value), f 0 = .bool v6 ∧ f 1 = vl_1 ∧ f 2 = .int .u8 times ∧ f 6 = .bool false ∧ f 7 = vall_1 ∧ f 9 = .int .i64 k_1 ∧ Kp F h0 F' h ∧ St F' (Ow.own 89 19 e_api_Record vall_1 all_1 :: fr) h ∧ (NfL nf_api_Record F' h l) ∧ (SliceF F' h 19 e_api_Record vl l) ∧ (NfL nf_api_Record F' h r_2) ∧ (NfL nf_api_Record F' h ([] : List T_api_Record)) ∧ (SliceF F' h 19 e_api_Record vl_1 l_2) ∧ (NfL nf_api_Record F' h l_2) ∧ (NfL nf_api_Record F' h all_1) ∧ I_2 (l_2, all_1, k_1)) m_2 (r_2, [], 0) ⟨F_7, vr_1, .slice (some ⟨b_1, 0, none⟩) 0 0, rfl, rfl, rfl, rfl, rfl, rfl, hK, hS, hN_l, hL_l, hL_1, hN_1, hL_4, hL_1, hN_1, hI_2⟩ ?_
  rintro ⟨l_2, all_1, k_1⟩ f_2 h_7 ⟨F_8, vl_1, vall_1, e0, e1, e2, e6, e7, e9, hK, hS, hN_l, hL_l, hL_1, hN_1, hL_3, hN_2, hN_3, hI0⟩
  obtain ⟨K_2, hKe_2⟩ : ∃ K : (List T_api_Record) → (List T_api_Record) → Int → Prop, K = fun l_2' all_1' k_1' => I_2 (l_2', all_1', k_1') ∧ m_2 (l_2', all_1', k_1') < m_2 (l_2, all_1, k_1) := ⟨_, rfl⟩
  have hM : law20_HostPacks_l3 v6 times Q K_2 l_2 all_1 k_1 := by rw [hKe_2]; exact hR_2 (l_2, all_1, k_1) hI0
  unfold law20_HostPacks_l3 at hM
  refine HW.fr [(0, .bool v6), (1, vl_1), (2, .int .u8 times), (6, .bool false), (7, vall_1), (9, .int .i64 k_1)] ⟨e0, e1, e2, e6, e7, e9, trivial⟩ ?_
  refine HW.seq ?_
  refine HW.seq ?_
  refine HW.region ?_
  refine oM (.int .i64 k_1) rfl rfl ?_
  refine oM (.int .u8 times) rfl rfl ?_
  refine oV (.int .u8 (times.tmod 30)) (q_rem rfl rfl (by decide)) rfl ?_
  obtain ⟨ho_3, hM⟩ := hM
  refine oV (.int .i64 (times.tmod 30)) (q_convInt Tryz.underlying5 Tryz.underlying3 rfl (wrap_i64 ho_3.1 ho_3.2)) rfl ?_
  refine oV (.bool (decide (k_1 < (times.tmod 30)))) (q_lss rfl rfl) rfl ?_
  refine HO.nil (thenQ_normal (?_))
  refine HW.cond (decide (k_1 < (times.tmod 30))) rfl (fun c_3 => ?_) (fun c_3 => ?_)
  ·
   replace hM := hM.1 (of_decide_eq_true c_3)
   refine HW.skip (thenQ_normal (?_))
   refine HW.seq ?_
   refine HW.block ?_
   refine HW.region ?_
   refine oM (vall_1) rfl rfl ?_
   refine oM (vl_1) rfl rfl ?_
   refine HO.call (want_none) rfl (ec en_7 rfl rfl) (law08_Records_walk (fr := (Ow.own 89 19 e_api_Record vall_1 all_1 :: fr)) l_2 6 vl_1 hS hN_2 hL_3 hM) ?_
   rintro vr_2 h_8 ⟨F_9, r_6, _, rfl, hk, hS, _, _, hL_5, hM⟩
   replace hK := hK.trans hk
   replace hN_l := hN_l.kp hk
   replace hL_l := hL_l.kp hk
   replace hL_1 := hL_1.kp hk
   replace hN_1 := hN_1.kp hk
   replace hL_3 := hL_3.kp hk
   replace hN_2 := hN_2.kp hk
   replace hN_3 := hN_3.kp hk
   obtain ⟨ho_4, hM⟩ := hM
   refine HO.eff (want_none) rfl (st_append te_22 hS (i := 1) rfl (hS.own 0 rfl).slice rfl rfl rfl (fun a_ ha_ => nfo_api_Record (hL_5.is.all a_ ha_)) ho_4 (by omega)) ?_
   rintro v_1 h_9 ⟨hS, hk⟩
   replace hK := hK.trans hk
   replace hN_l := hN_l.kp hk
   replace hL_l := hL_l.kp hk
   replace hL_1 := hL_1.kp hk
   replace hN_1 := hN_1.kp hk
   replace hL_3 := hL_3.kp hk
   replace hN_2 := hN_2.kp hk
   replace hN_3 := hN_3.kp hk
   replace hL_5 := hL_5.kp hk
   have hN_4 : NfL nf_api_Record F_9 h_9 (all_1 ++ r_6) := NfL.app hN_3 hL_5
   refine oA (v_1) rfl rfl ?_
   refine HO.nil (blockQ_normal (thenQ_normal (?_)))
   refine HW.region ?_
   refine oM (.int .i64 k_1) rfl rfl ?_
   obtain ⟨ho_5, hM⟩ := hM
   refine oV (.int .i64 (k_1 + 1)) (q_addN _ rfl rfl rfl ho_5.1 ho_5.2) rfl ?_
   refine oA (.int .i64 (k_1 + 1)) rfl rfl ?_
   refine HO.nil (thenQ_normal (?_))
   replace hS : St F_9 (Ow.own 89 19 e_api_Record v_1 (all_1 ++ r_6) :: fr) h_9 := hS.perm2 [1] 2 rfl rfl
   rw [hKe_2] at hM
   exact ⟨(l_2, all_1 ++ r_6, k_1 + 1), ⟨F_9, vl_1, v_1, rfl, rfl, rfl, rfl, rfl, rfl, hK, hS, hN_l, hL_l, hL_1, hN_1, hL_3, hN_2, hN_4, hM.1⟩, hM.2⟩
  ·
   replace hM := hM.2 (of_decide_eq_false c_3)
   refine HW.exit (thenQ_exit (thenQ_exit (blockQ_exit (thenQ_normal (?_)))))
   refine HW.seq ?_
   refine HW.region ?_
   refine oM (.bool v6) rfl rfl ?_
   refine oM (vall_1) rfl rfl ?_
   obtain ⟨F_10, hS, hk, hL_6⟩ := hS.freezeOwn
   replace hK := hK.trans hk
   replace hN_l := hN_l.kp hk
   replace hL_l := hL_l.kp hk
   replace hL_1 := hL_1.kp hk
   replace hN_1 := hN_1.kp hk
   replace hL_3 := hL_3.kp hk
   replace hN_2 := hN_2.kp hk
   replace hN_3 := hN_3.kp hk
   refine HO.call (want_none) rfl (ec en_11 rfl rfl) (host_Pack_walk (fr := (fr)) v6 all_1 vall_1 hS hN_3 hL_6 hM) ?_
   rintro vr_3 h_10 ⟨F_11, r_7, _, rfl, hk, hS, _, _, hL_7, hM⟩
   replace hK := hK.trans hk
   replace hN_l := hN_l.kp hk
   replace hL_l := hL_l.kp hk
   replace hL_1 := hL_1.kp hk
   replace hN_1 := hN_1.kp hk
   replace hL_3 := hL_3.kp hk
   replace hN_2 := hN_2.kp hk
   replace hN_3 := hN_3.kp hk
   replace hL_6 := hL_6.kp hk
   refine HO.eff (want_none) rfl (st_litEmpty (α := T_api_Record) e_api_Record hS tl_22) ?_
   rintro _ h_11 ⟨b_2, rfl, hS, hk⟩
   replace hK := hK.trans hk
   replace hN_l := hN_l.kp hk
   replace hL_l := hL_l.kp hk
   replace hL_1 := hL_1.kp hk
   replace hN_1 := hN_1.kp hk
   replace hL_3 := hL_3.kp hk
   replace hN_2 := hN_2.kp hk
   replace hN_3 := hN_3.kp hk
   replace hL_6 := hL_6.kp hk
   replace hL_7 := hL_7.kp hk
   refine oA (vr_3) rfl rfl ?_
   refine oA (.slice (some ⟨b_2, 0, none⟩) 0 0) rfl rfl ?_
   refine HO.nil (thenQ_normal (?_))
   refine HW.seq ?_
   refine HW.seq ?_
   refine HW.region ?_
   refine oA (.int .i64 0) rfl rfl ?_
   refine HO.nil (thenQ_normal (?_))
   refine HW.block ?_
   obtain ⟨I_3, m_3, hI_3, hR_3⟩ := hM
   replace hS : St F_11 (Ow.own 31 26 e_api_Talk vr_3 r_7 :: Ow.own 89 19 e_api_Record (.slice (some ⟨b_2, 0, none⟩) 0 0) ([] : List T_api_Record) :: fr) h_11 := hS.perm2 [1, 0] 2 rfl rfl
   refine HW.loop (S := List T_api_Record × Int) (fun s f h => match s with | (said_1, i_2) => ∃ (F' : Fz) (vsaid_1 : Value), f 0 = .bool v6 ∧ f 6 = .bool false ∧ f 7 = vall_1 ∧ f 10 = vr_3 ∧ f 11 = vsaid_1 ∧ f 12 = .int .i64 i_2 ∧ Kp F h0 F' h ∧ St F' (Ow.own 31 26 e_api_Talk vr_3 r_7 :: Ow.own 89 19 e_api_Record vsaid_1 said_1 :: fr) h ∧ (NfL nf_api_Record F' h l) ∧ (SliceF F' h 19 e_api_Record vl l) ∧ (NfL nf_api_Record F' h r_2) ∧ (NfL nf_api_Record F' h ([] : List T_api_Record)) ∧ (SliceF F' h 19 e_api_Record vl_1 l_2) ∧ (NfL nf_api_Record F' h l_2) ∧ (NfL nf_api_Record F' h all_1) ∧ (SliceF F' h 19 e_api_Record vall_1 all_1) ∧ (NfL nf_api_Talk F' h r_7) ∧ (NfL nf_api_Record F' h said_1) ∧ I_3 (said_1, i_2)) m_3 ([], 0) ⟨F_11, .slice (some ⟨b_2, 0, none⟩) 0 0, rfl, rfl, rfl, rfl, rfl, rfl, hK, hS, hN_l, hL_l, hL_1, hN_1, hL_3, hN_2, hN_3, hL_6, hL_7, hN_1, hI_3⟩ ?_
   rintro ⟨said_1, i_2⟩ f_3 h_12 ⟨F_12, vsaid_1, e0, e6, e7, e10, e11, e12, hK, hS, hN_l, hL_l, hL_1, hN_1, hL_3, hN_2, hN_3, hL_6, hL_7, hN_5, hI0⟩
   obtain ⟨K_3, hKe_3⟩ : ∃ K : (List T_api_Record) → Int → Prop, K = fun said_1' i_2' => I_3 (said_1', i_2') ∧ m_3 (said_1', i_2') < m_3 (said_1, i_2) := ⟨_, rfl⟩
   have hM : law20_HostPacks_l4 v6 Q all_1 r_7 K_3 said_1 i_2 := by rw [hKe_3]; exact hR_3 (said_1, i_2) hI0
   unfold law20_HostPacks_l4 at hM
   refine HW.fr [(0, .bool v6), (6, .bool false), (7, vall_1), (10, vr_3), (11, vsaid_1), (12, .int .i64 i_2)] ⟨e0, e6, e7, e10, e11, e12, trivial⟩ ?_
   refine HW.seq ?_
   refine HW.seq ?_
   refine HW.region ?_
   refine oM (.int .i64 i_2) rfl rfl ?_
   refine oM (vr_3) rfl rfl ?_
   refine oV (.int .i64 (r_7.length : Int)) (q_len ts_33 (shp (hS.own 0 rfl).slice) rfl rfl) rfl ?_
   refine oV (.bool (decide (i_2 < (r_7.length : Int)))) (q_lss rfl rfl) rfl ?_
   refine HO.nil (thenQ_normal (?_))
   refine HW.cond (decide (i_2 < (r_7.length : Int))) rfl (fun c_4 => ?_) (fun c_4 => ?_)
   ·
    replace hM := hM.1 (of_decide_eq_true c_4)
    refine HW.skip (thenQ_normal (?_))
    refine HW.seq ?_
    refine HW.block ?_
    refine HW.seq ?_
    refine HW.seq_mid (fun f h => ∃ (F' : Fz) (b_3 : Bool), f 0 = .bool v6 ∧ f 6 = .bool false ∧ f 7 = vall_1 ∧ f 10 = vr_3 ∧ f 11 = vsaid_1 ∧ f 12 = .int .i64 i_2 ∧ f 69 = .bool b_3 ∧ Kp F h0 F' h ∧ St F' (Ow.own 31 26 e_api_Talk vr_3 r_7 :: Ow.own 89 19 e_api_Record vsaid_1 said_1 :: fr) h ∧ (NfL nf_api_Record F' h l) ∧ (SliceF F' h 19 e_api_Record vl l) ∧ (NfL nf_api_Record F' h r_2) ∧ (NfL nf_api_Record F' h ([] : List T_api_Record)) ∧ (SliceF F' h 19 e_api_Record vl_1 l_2) ∧ (NfL nf_api_Record F' h l_2) ∧ (NfL nf_api_Record F' h all_1) ∧ (SliceF F' h 19 e_api_Record vall_1 all_1) ∧ (NfL nf_api_Talk F' h r_7) ∧ (NfL nf_api_Record F' h said_1) ∧ law20_HostPacks_j1 Q r_7 said_1 i_2 K_3 b_3) ?_ ?_
    ·
     refine HW.region ?_
     refine oM (vr_3) rfl rfl ?_
     refine oM (.int .i64 i_2) rfl rfl ?_
     obtain ⟨ho_6, hM⟩ := hM
     refine oV (elemPtr 26 vr_3 (i_2).toNat) (q_idx ts_33 (hS.own 0 rfl).slice rfl rfl ho_6) rfl ?_
     refine oV (.agg (c_api_Talk (.bool ((gi r_7 i_2).1)) (.int .i64 ((gi r_7 i_2).2.1)) (.int .i64 ((gi r_7 i_2).2.2.1)) (.int .i64 ((gi r_7 i_2).2.2.2.1)) ((gi r_7 i_2).2.2.2.2.1) (.bool ((gi r_7 i_2).2.2.2.2.2.1)) (.int .i64 ((gi r_7 i_2).2.2.2.2.2.2.1)) (.int .i64 ((gi r_7 i_2).2.2.2.2.2.2.2.1)) (((gi r_7 i_2).2.2.2.2.2.2.2.2.1).1) (((gi r_7 i_2).2.2.2.2.2.2.2.2.2).1)).toArray) (q_ldElemAgg (cs := (c_api_Talk (.bool ((gi r_7 i_2).1)) (.int .i64 ((gi r_7 i_2).2.1)) (.int .i64 ((gi r_7 i_2).2.2.1)) (.int .i64 ((gi r_7 i_2).2.2.2.1)) ((gi r_7 i_2).2.2.2.2.1) (.bool ((gi r_7 i_2).2.2.2.2.2.1)) (.int .i64 ((gi r_7 i_2).2.2.2.2.2.2.1)) (.int .i64 ((gi r_7 i_2).2.2.2.2.2.2.2.1)) (((gi r_7 i_2).2.2.2.2.2.2.2.2.1).1) (((gi r_7 i_2).2.2.2.2.2.2.2.2.2).1))) ta_31 (hS.own 0 rfl).slice rfl ho_6 rfl) rfl ?_
     refine HO.call (want_none) rfl (ec en_8 rfl rfl) (ref10_Talk_walk (fr := (Ow.own 31 26 e_api_Talk vr_3 r_7 :: Ow.own 89 19 e_api_Record vsaid_1 said_1 :: fr)) ((gi r_7 i_2).1) ((gi r_7 i_2).2.1) ((gi r_7 i_2).2.2.1) ((gi r_7 i_2).2.2.2.1) ((gi r_7 i_2).2.2.2.2.1) ((gi r_7 i_2).2.2.2.2.2.1) ((gi r_7 i_2).2.2.2.2.2.2.1) ((gi r_7 i_2).2.2.2.2.2.2.2.1) (((gi r_7 i_2).2.2.2.2.2.2.2.2.1).2) (((gi r_7 i_2).2.2.2.2.2.2.2.2.2).2) (((gi r_7 i_2).2.2.2.2.2.2.2.2.1).1) (((gi r_7 i_2).2.2.2.2.2.2.2.2.2).1) hS (nff_api_Talk_24 (NfL.at hL_7 ho_6)) (nfn_api_Talk_25 (NfL.at hL_7 ho_6)) (nff_api_Talk_25 (NfL.at hL_7 ho_6)) hM) ?_
     rintro _ h_13 ⟨F_13, r_8, rfl, hk, hS, _, _, _, hM⟩
     replace hK := hK.trans hk
     replace hN_l := hN_l.kp hk
     replace hL_l := hL_l.kp hk
     replace hL_1 := hL_1.kp hk
     replace hN_1 := hN_1.kp hk
     replace hL_3 := hL_3.kp hk
     replace hN_2 := hN_2.kp hk
     replace hN_3 := hN_3.kp hk
     replace hL_6 := hL_6.kp hk
     replace hL_7 := hL_7.kp hk
     replace hN_5 := hN_5.kp hk
     refine oV (.bool (!r_8)) (q_not rfl) rfl ?_
     refine oM (.bool (!r_8)) rfl rfl ?_
     rcases Bool.eq_false_or_eq_true (!r_8) with c_5 | c_5
     ·
      replace hM := hM.1 c_5
      refine HO.past (past_by rfl rfl c_5) rfl ?_
      refine HO.past (past_by rfl rfl c_5) rfl ?_
      refine HO.past (past_by rfl rfl c_5) rfl ?_
      refine HO.past (past_by rfl rfl c_5) rfl ?_
      refine HO.past (past_by rfl rfl c_5) rfl ?_
      refine HO.past (past_by rfl rfl c_5) rfl ?_
      refine HO.past (past_by rfl rfl c_5) rfl ?_
      refine oV (.bool true) (q_pickK true rfl c_5 rfl) rfl ?_
      refine HO.nil (thenQ_normal (?_))
      exact ⟨F_13, true, rfl, rfl, rfl, rfl, rfl, rfl, rfl, hK, hS, hN_l, hL_l, hL_1, hN_1, hL_3, hN_2, hN_3, hL_6, hL_7, hN_5, hM⟩
     ·
      replace hM := hM.2 c_5
      refine HO.val (v := vr_3) (want_by rfl rfl c_5) rfl (q_move rfl) ?_
      refine HO.val (v := .int .i64 i_2) (want_by rfl rfl c_5) rfl (q_move rfl) ?_
      refine HO.val (v := elemPtr 26 vr_3 (i_2).toNat) (want_by rfl rfl c_5) rfl (q_idx ts_33 (hS.own 0 rfl).slice rfl rfl ho_6) ?_
      refine HO.val (v := fieldPtr 26 vr_3 (i_2).toNat 25) (want_by rfl rfl c_5) rfl (q_fldElem fa_31_9 (hS.own 0 rfl).slice rfl ho_6) ?_
      refine HO.val (v := ((gi r_7 i_2).2.2.2.2.2.2.2.2.2).1) (want_by rfl rfl c_5) rfl (q_ldField to_22 (hS.own 0 rfl).slice rfl ho_6 (by decide) rfl) ?_
      refine HO.val (v := .int .i64 ((((gi r_7 i_2).2.2.2.2.2.2.2.2.2).2).length : Int)) (want_by rfl rfl c_5) rfl (q_len ts_22 (shp (nfi_api_Talk_25 (NfI.at hL_7.is ho_6))) rfl rfl) ?_
      refine HO.val (v := .bool (decide (((((gi r_7 i_2).2.2.2.2.2.2.2.2.2).2).length : Int) = 0))) (want_by rfl rfl c_5) rfl (q_eql rfl rfl) ?_
      refine oV (.bool (decide (((((gi r_7 i_2).2.2.2.2.2.2.2.2.2).2).length : Int) = 0))) (q_pickK false rfl c_5 rfl) rfl ?_
      refine HO.nil (thenQ_normal (?_))
      exact ⟨F_13, decide (((((gi r_7 i_2).2.2.2.2.2.2.2.2.2).2).length : Int) = 0), rfl, rfl, rfl, rfl, rfl, rfl, rfl, hK, hS, hN_l, hL_l, hL_1, hN_1, hL_3, hN_2, hN_3, hL_6, hL_7, hN_5, hM⟩
    ·
     rintro f_4 h_14 ⟨F_14, b_3, e0, e6, e7, e10, e11, e12, e69, hK, hS, hN_l, hL_l, hL_1, hN_1, hL_3, hN_2, hN_3, hL_6, hL_7, hN_5, hM⟩
     unfold law20_HostPacks_j1 at hM
     refine HW.fr [(0, .bool v6), (6, .bool false), (7, vall_1), (10, vr_3), (11, vsaid_1), (12, .int .i64 i_2), (69, .bool b_3)] ⟨e0, e6, e7, e10, e11, e12, e69, trivial⟩ ?_
     refine HW.cond b_3 rfl (fun c_6 => ?_) (fun c_6 => ?_)
     ·
      replace hM := hM.1 c_6
      refine HW.seq ?_
      refine HW.region ?_
      refine oA (.bool false) rfl rfl ?_
      refine HO.nil (thenQ_normal (?_))
      refine HW.ret (thenQ_ret (blockQ_ret (thenQ_ret (thenQ_ret (blockQ_ret (thenQ_ret (?_)))))))
      refine ⟨.inr rfl, .bool false, res1 rfl (rt rfl), ?_⟩
      replace hS : St F_14 (fr) h_14 := hS.perm2 [] 2 rfl rfl
      exact ⟨F_14, false, rfl, hK, hS, hN_l, hL_l, hM⟩
     ·
      replace hM := hM.2 c_6
      refine HW.skip (thenQ_normal (?_))
      refine HW.region ?_
      refine oM (vsaid_1) rfl rfl ?_
      refine oM (vr_3) rfl rfl ?_
      refine oM (.int .i64 i_2) rfl rfl ?_
      obtain ⟨ho_7, hM⟩ := hM
      refine oV (elemPtr 26 vr_3 (i_2).toNat) (q_idx ts_33 (hS.own 0 rfl).slice rfl rfl ho_7) rfl ?_
      refine oV (fieldPtr 26 vr_3 (i_2).toNat 25) (q_fldElem fa_31_9 (hS.own 0 rfl).slice rfl ho_7) rfl ?_
      refine oV (((gi r_7 i_2).2.2.2.2.2.2.2.2.2).1) (q_ldField to_22 (hS.own 0 rfl).slice rfl ho_7 (by decide) rfl) rfl ?_
      obtain ⟨ho_8, hM⟩ := hM
      refine HO.eff (want_none) rfl (st_append te_22 hS (i := 1) rfl (nfi_api_Talk_25 (NfI.at hL_7.is ho_7)) rfl rfl rfl (fun a_ ha_ => nfo_api_Record ((nfj_api_Talk_25 (NfI.at hL_7.is ho_7)).all a_ ha_)) ho_8 (by omega)) ?_
      rintro v_2 h_15 ⟨hS, hk⟩
      replace hK := hK.trans hk
      replace hN_l := hN_l.kp hk
      replace hL_l := hL_l.kp hk
      replace hL_1 := hL_1.kp hk
      replace hN_1 := hN_1.kp hk
      replace hL_3 := hL_3.kp hk
      replace hN_2 := hN_2.kp hk
      replace hN_3 := hN_3.kp hk
      replace hL_6 := hL_6.kp hk
      replace hL_7 := hL_7.kp hk
      replace hN_5 := hN_5.kp hk
      have hN_6 : NfL nf_api_Record F_14 h_15 (said_1 ++ (((gi r_7 i_2).2.2.2.2.2.2.2.2.2).2)) := NfL.app hN_5 (nfn_api_Talk_25 (NfL.at hL_7 ho_7))
      refine oA (v_2) rfl rfl ?_
      refine HO.nil (blockQ_normal (thenQ_normal (?_)))
      refine HW.region ?_
      refine oM (.int .i64 i_2) rfl rfl ?_
      obtain ⟨ho_9, hM⟩ := hM
      refine oV (.int .i64 (i_2 + 1)) (q_addN _ rfl rfl rfl ho_9.1 ho_9.2) rfl ?_
      refine oA (.int .i64 (i_2 + 1)) rfl rfl ?_
      refine HO.nil (thenQ_normal (?_))
      rw [hKe_3] at hM
      exact ⟨(said_1 ++ (((gi r_7 i_2).2.2.2.2.2.2.2.2.2).2), i_2 + 1), ⟨F_14, v_2, rfl, rfl, rfl, rfl, rfl, rfl, hK, hS, hN_l, hL_l, hL_1, hN_1, hL_3, hN_2, hN_3, hL_6, hL_7, hN_6, hM.1⟩, hM.2⟩
   ·
    replace hM := hM.2 (of_decide_eq_false c_4)
    refine HW.exit (thenQ_exit (thenQ_exit (blockQ_exit (thenQ_normal (?_)))))
    refine HW.seq ?_
    refine HW.region ?_
    refine oM (vr_3) rfl rfl ?_
    refine oM (.bool v6) rfl rfl ?_
    refine oM (vall_1) rfl rfl ?_
    refine HO.call (want_none) rfl (ec en_13 rfl rfl) (ref20_Pack_walk (fr := (Ow.own 31 26 e_api_Talk vr_3 r_7 :: Ow.own 89 19 e_api_Record vsaid_1 said_1 :: fr)) v6 all_1 vall_1 hS hN_3 hL_6 hM) ?_
    rintro vr_4 h_16 ⟨F_15, r_9, _, rfl, hk, hS, _, _, hL_8, hM⟩
    replace hK := hK.trans hk
    replace hN_l := hN_l.kp hk
    replace hL_l := hL_l.kp hk
    replace hN_3 := hN_3.kp hk
    replace hL_6 := hL_6.kp hk
    replace hL_7 := hL_7.kp hk
    replace hN_5 := hN_5.kp hk
    replace hS : St F_15 (Ow.own 31 26 e_api_Talk vr_3 r_7 :: Ow.own 31 26 e_api_Talk vr_4 r_9 :: Ow.own 89 19 e_api_Record vsaid_1 said_1 :: fr) h_16 := hS.perm2 [1, 0, 2] 3 rfl rfl
    have hZ_2 := hS
    have hkz_2 := (hS.freeze).2
    replace hS := hS.freeze.1
    have hL_9 : SliceF (fun bz_ => F_15 bz_ ∨ (Ow.own 31 26 e_api_Talk vr_3 r_7).foot bz_) h_16 26 e_api_Talk vr_3 r_7 := ⟨(hZ_2.own 0 rfl).slice, fun _ b hb => .inr hb⟩
    replace hS : St (fun bz_ => F_15 bz_ ∨ (Ow.own 31 26 e_api_Talk vr_3 r_7).foot bz_) (Ow.own 31 26 e_api_Talk vr_4 r_9 :: Ow.own 89 19 e_api_Record vsaid_1 said_1 :: fr) h_16 := hS
    have hZ_3 := hS
    have hkz_3 := (hS.freeze).2
    replace hS := hS.freeze.1
    have hL_10 : SliceF (fun bz_ => (fun bz_ => F_15 bz_ ∨ (Ow.own 31 26 e_api_Talk vr_3 r_7).foot bz_) bz_ ∨ (Ow.own 31 26 e_api_Talk vr_4 r_9).foot bz_) h_16 26 e_api_Talk vr_4 r_9 := ⟨(hZ_3.own 0 rfl).slice, fun _ b hb => .inr hb⟩
    refine HO.call (want_none) rfl (ec en_12 rfl rfl) (law20_SameTalks_walk (fr := (Ow.own 89 19 e_api_Record vsaid_1 said_1 :: fr)) r_7 r_9 vr_3 vr_4 hS (NfL.kp (NfL.kp hL_7 hkz_2) hkz_3) (hL_9.kp hkz_3) (NfL.kp (NfL.kp hL_8 hkz_2) hkz_3) hL_10 hM) ?_
    rintro _ h_17 ⟨F_16, r_10, rfl, hk, hS, _, _, _, _, hM⟩
    obtain ⟨hS, hk⟩ := hZ_3.back hk hS
    obtain ⟨hS, hk⟩ := hZ_2.back hk hS
    generalize (fun bz_ => (fun bz_ => F_16 bz_ ∧ ¬ (Ow.own 31 26 e_api_Talk vr_4 r_9).foot bz_) bz_ ∧ ¬ (Ow.own 31 26 e_api_Talk vr_3 r_7).foot bz_) = F_17 at hS hk
    replace hK := hK.trans hk
    replace hN_l := hN_l.kp hk
    replace hL_l := hL_l.kp hk
    replace hN_3 := hN_3.kp hk
    replace hL_6 := hL_6.kp hk
    replace hN_5 := hN_5.kp hk
    refine oM (.bool r_10) rfl rfl ?_
    rcases Bool.eq_false_or_eq_true r_10 with c_7 | c_7
    ·
     replace hM := hM.1 c_7
     refine HO.val (v := vsaid_1) (want_by rfl rfl c_7) rfl (q_move rfl) ?_
     refine HO.val (v := vall_1) (want_by rfl rfl c_7) rfl (q_move rfl) ?_
     replace hS : St F_17 (Ow.own 89 19 e_api_Record vsaid_1 said_1 :: Ow.own 31 26 e_api_Talk vr_3 r_7 :: Ow.own 31 26 e_api_Talk vr_4 r_9 :: fr) h_17 := hS.perm2 [2, 0, 1] 3 rfl rfl
     have hZ_4 := hS
     have hkz_4 := (hS.freeze).2
     replace hS := hS.freeze.1
     have hL_11 : SliceF (fun bz_ => F_17 bz_ ∨ (Ow.own 89 19 e_api_Record vsaid_1 said_1).foot bz_) h_17 19 e_api_Record vsaid_1 said_1 := ⟨(hZ_4.own 0 rfl).slice, fun _ b hb => .inr hb⟩
     refine HO.call (want_by rfl rfl c_7) rfl (ec en_14 rfl rfl) (ref08_SameRecords_walk (fr := (Ow.own 31 26 e_api_Talk vr_3 r_7 :: Ow.own 31 26 e_api_Talk vr_4 r_9 :: fr)) said_1 all_1 vsaid_1 vall_1 hS (NfL.kp hN_5 hkz_4) hL_11 (NfL.kp hN_3 hkz_4) (hL_6.kp hkz_4) hM) ?_
     rintro _ h_18 ⟨F_18, r_11, rfl, hk, hS, _, _, _, _, hM⟩
     obtain ⟨hS, hk⟩ := hZ_4.back hk hS
     generalize (fun bz_ => F_18 bz_ ∧ ¬ (Ow.own 89 19 e_api_Record vsaid_1 said_1).foot bz_) = F_19 at hS hk
     replace hK := hK.trans hk
     replace hN_l := hN_l.kp hk
     replace hL_l := hL_l.kp hk
     refine oV (.bool r_11) (q_pickK true rfl c_7 rfl) rfl ?_
     refine oM (.bool r_11) rfl rfl ?_
     rcases Bool.eq_false_or_eq_true r_11 with c_8 | c_8
     ·
      replace hM := hM.1 c_8
      refine HO.call (want_by rfl rfl c_8) rfl (ec en_10 rfl rfl) (law20_lives_walk (fr := (Ow.own 89 19 e_api_Record vsaid_1 said_1 :: Ow.own 31 26 e_api_Talk vr_3 r_7 :: Ow.own 31 26 e_api_Talk vr_4 r_9 :: fr))  hS hM) ?_
      rintro _ h_19 ⟨F_20, r_12, rfl, hk, hS, hM⟩
      replace hK := hK.trans hk
      replace hN_l := hN_l.kp hk
      replace hL_l := hL_l.kp hk
      refine oV (.bool r_12) (q_pickK true rfl c_8 rfl) rfl ?_
      refine oA (.bool r_12) rfl rfl ?_
      refine HO.nil (thenQ_normal (?_))
      refine HW.ret (?_)
      refine ⟨.inr rfl, .bool r_12, res1 rfl (rt rfl), ?_⟩
      replace hS : St F_20 (fr) h_19 := hS.perm2 [] 3 rfl rfl
      exact ⟨F_20, r_12, rfl, hK, hS, hN_l, hL_l, hM⟩
     ·
      replace hM := hM.2 c_8
      refine HO.past (past_by rfl rfl c_8) rfl ?_
      refine oV (.bool false) (q_pickK false rfl c_8 rfl) rfl ?_
      refine oA (.bool false) rfl rfl ?_
      refine HO.nil (thenQ_normal (?_))
      refine HW.ret (?_)
      refine ⟨.inr rfl, .bool false, res1 rfl (rt rfl), ?_⟩
      replace hS : St F_19 (fr) h_18 := hS.perm2 [] 3 rfl rfl
      exact ⟨F_19, false, rfl, hK, hS, hN_l, hL_l, hM⟩
    ·
     replace hM := hM.2 c_7
     refine HO.past (past_by rfl rfl c_7) rfl ?_
     refine HO.past (past_by rfl rfl c_7) rfl ?_
     refine HO.past (past_by rfl rfl c_7) rfl ?_
     refine oV (.bool false) (q_pickK false rfl c_7 rfl) rfl ?_
     refine oM (.bool false) rfl rfl ?_
     refine HO.past (past_some rfl rfl) rfl ?_
     refine oV (.bool false) (q_pick rfl rfl) rfl ?_
     refine oA (.bool false) rfl rfl ?_
     refine HO.nil (thenQ_normal (?_))
     refine HW.ret (?_)
     refine ⟨.inr rfl, .bool false, res1 rfl (rt rfl), ?_⟩
     replace hS : St F_17 (fr) h_17 := hS.perm2 [] 3 rfl rfl
     exact ⟨F_17, false, rfl, hK, hS, hN_l, hL_l, hM⟩
end Go.Wk
