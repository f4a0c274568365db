/- Walks and mirrors of Merge laws. -/
import Derived.Test.YtokodpeigafenaaDoorMrcW1
set_option linter.unusedSimpArgs false
set_option linter.unusedVariables false
set_option linter.unusedSectionVars false
namespace Go.Wk
open Go.HL
open Go.Proofs hiding encI
variable [DM]

def ref08_SameAddrs_l1 (a : List T_api_Addr) (b : List T_api_Addr) (Q : Bool → Prop) (K_1 : Int → Prop) (i_1 : Int) : Prop :=
  (i_1 < (a.length : Int) → ((0 : Int) ≤ i_1 ∧ i_1 < (a.length : Int)) ∧ (((0 : Int) ≤ i_1 ∧ i_1 < (b.length : Int)) ∧ ((¬ (((gi a i_1) : T_api_Addr) = (gi b i_1)) → Q false) ∧ (((gi a i_1) : T_api_Addr) = (gi b i_1) → (I64 (i_1 + 1)) ∧ (K_1 (i_1 + 1)))))) ∧ (¬ (i_1 < (a.length : Int)) → Q true)
def ref08_SameAddrs_W (a : List T_api_Addr) (b : List T_api_Addr) (Q : Bool → Prop) : Prop :=
  (¬ ((a.length : Int) = (b.length : Int)) → Q false) ∧ ((a.length : Int) = (b.length : Int) → loopW (fun (K_1 : Int → Prop) (s : Int) => ref08_SameAddrs_l1 a b Q K_1 s) 0)
set_option maxHeartbeats 40000000 in
set_option maxRecDepth 100000 in
theorem ref08_SameAddrs_walk {F : Fz} {fr : List Ow} {h0 : Heap} (a : List T_api_Addr) (b : List T_api_Addr) (va : Value) (vb : Value) (hS : St F (fr) h0) (hL_a : SliceF F h0 17 e_api_Addr va a) (hL_b : SliceF F h0 17 e_api_Addr vb b) {Q : Bool → Prop} (hM : ref08_SameAddrs_W a b Q) :
    HC Tryd.prog 49 #[va, vb] h0 fun u h' => ∃ (F' : Fz) (r_1 : Bool), u = .bool r_1 ∧ Kp F h0 F' h' ∧ St F' (fr) h' ∧ (SliceF F' h' 17 e_api_Addr va a) ∧ (SliceF F' h' 17 e_api_Addr vb b) ∧ Q r_1 := by
  unfold ref08_SameAddrs_W at hM
  have hK := Kp.refl F h0
  refine HC.of_HW (n := 26) Tryd.func49 rfl rfl (Nat.le_of_ble_eq_true rfl) ?_
  refine HW.seq ?_
  refine HW.region ?_
  refine HO.val (v := .bool false) (want_none) rfl (q_assign rfl) ?_
  refine HO.nil (thenQ_normal (?_))
  refine HW.seq ?_
  refine HW.seq ?_
  refine HW.region ?_
  refine HO.val (v := va) (want_none) rfl (q_move rfl) ?_
  refine HO.val (v := .int .i64 (a.length : Int)) (want_none) rfl (q_len ts_22 (shp hL_a.is) rfl rfl) ?_
  refine HO.val (v := vb) (want_none) rfl (q_move rfl) ?_
  refine HO.val (v := .int .i64 (b.length : Int)) (want_none) rfl (q_len ts_22 (shp hL_b.is) rfl rfl) ?_
  refine HO.val (v := .bool (!decide ((a.length : Int) = (b.length : Int)))) (want_none) rfl (q_neq rfl rfl) ?_
  refine HO.nil (thenQ_normal (?_))
  refine HW.cond (!decide ((a.length : Int) = (b.length : Int))) rfl (fun c_1 => ?_) (fun c_1 => ?_)
  · replace hM := hM.1 (nd_true c_1)
    refine HW.seq ?_
    refine HW.region ?_
    refine HO.val (v := .bool false) (want_none) rfl (q_assign rfl) ?_
    refine HO.nil (thenQ_normal (?_))
    refine HW.ret (thenQ_ret (?_))
    refine ⟨.inr rfl, .bool false, res1 rfl (rt rfl), ?_⟩
    exact ⟨F, false, rfl, hK, hS, hL_a, hL_b, hM⟩
  · replace hM := hM.2 (nd_false c_1)
    refine HW.skip (thenQ_normal (?_))
    refine HW.seq ?_
    refine HW.seq ?_
    refine HW.region ?_
    refine HO.val (v := .int .i64 0) (want_none) rfl (q_assign rfl) ?_
    refine HO.nil (thenQ_normal (?_))
    refine HW.block ?_
    obtain ⟨I_1, m_1, hI_1, hR_1⟩ := hM
    refine HW.loop (S := Int) (fun i_1 f h => ∃ (F' : Fz), f 0 = va ∧ f 1 = vb ∧ f 4 = .bool false ∧ f 5 = .int .i64 i_1 ∧ Kp F h0 F' h ∧ St F' (fr) h ∧ (SliceF F' h 17 e_api_Addr va a) ∧ (SliceF F' h 17 e_api_Addr vb b) ∧ I_1 i_1) m_1 0 ⟨F, rfl, rfl, rfl, rfl, hK, hS, hL_a, hL_b, hI_1⟩ ?_
    rintro i_1 f_1 h_1 ⟨F_1, e0, e1, e4, e5, hK, hS, hL_a, hL_b, hI0⟩
    obtain ⟨K_1, hKe_1⟩ : ∃ K : Int → Prop, K = fun i_1' => I_1 i_1' ∧ m_1 i_1' < m_1 i_1 := ⟨_, rfl⟩
    have hM : ref08_SameAddrs_l1 a b Q K_1 i_1 := by rw [hKe_1]; exact hR_1 i_1 hI0
    unfold ref08_SameAddrs_l1 at hM
    refine HW.fr [(0, va), (1, vb), (4, .bool false), (5, .int .i64 i_1)] ⟨e0, e1, e4, e5, trivial⟩ ?_
    refine HW.seq ?_
    refine HW.seq ?_
    refine HW.region ?_
    refine HO.val (v := .int .i64 i_1) (want_none) rfl (q_move rfl) ?_
    refine HO.val (v := va) (want_none) rfl (q_move rfl) ?_
    refine HO.val (v := .int .i64 (a.length : Int)) (want_none) rfl (q_len ts_22 (shp hL_a.is) rfl rfl) ?_
    refine HO.val (v := .bool (decide (i_1 < (a.length : Int)))) (want_none) rfl (q_lss rfl rfl) ?_
    refine HO.nil (thenQ_normal (?_))
    refine HW.cond (decide (i_1 < (a.length : Int))) rfl (fun c_2 => ?_) (fun c_2 => ?_)
    · replace hM := hM.1 (of_decide_eq_true c_2)
      refine HW.skip (thenQ_normal (?_))
      refine HW.seq ?_
      refine HW.block ?_
      refine HW.seq ?_
      refine HW.regionA 9 mixed (fun h => (SliceIs h 17 e_api_Addr va a) ∧ (SliceIs h 17 e_api_Addr vb b)) [] (by kernel_rfl) ?_
      refine HA.val (k := 0) (v := va) rfl rfl (by kernel_rfl) (by kernel_rfl) (want_none) rfl (fun _ ⟨hL_a, hL_b⟩ => q_move rfl) ?_
      refine HA.val (k := 1) (v := .int .i64 i_1) rfl rfl (by kernel_rfl) (by kernel_rfl) (want_none) rfl (fun _ ⟨hL_a, hL_b⟩ => q_move rfl) ?_
      obtain ⟨ho_1, hM⟩ := hM
      refine HA.val (k := 2) (v := elemPtr 17 va (i_1).toNat) rfl rfl (by kernel_rfl) (by kernel_rfl) (want_none) rfl (fun _ ⟨hL_a, hL_b⟩ => q_idx ts_22 hL_a rfl rfl ho_1) ?_
      refine HA.val (k := 3) (v := .agg (e_api_Addr (gi a i_1)).toArray) rfl rfl (by kernel_rfl) (by kernel_rfl) (want_none) rfl (fun _ ⟨hL_a, hL_b⟩ => q_ldElemAgg (cs := (e_api_Addr (gi a i_1))) ta_27 hL_a rfl ho_1 rfl) ?_
      refine HA.val (k := 4) (v := vb) rfl rfl (by kernel_rfl) (by kernel_rfl) (want_none) rfl (fun _ ⟨hL_a, hL_b⟩ => q_move rfl) ?_
      refine HA.val (k := 5) (v := .int .i64 i_1) rfl rfl (by kernel_rfl) (by kernel_rfl) (want_none) rfl (fun _ ⟨hL_a, hL_b⟩ => q_move rfl) ?_
      obtain ⟨ho_2, hM⟩ := hM
      refine HA.val (k := 6) (v := elemPtr 17 vb (i_1).toNat) rfl rfl (by kernel_rfl) (by kernel_rfl) (want_none) rfl (fun _ ⟨hL_a, hL_b⟩ => q_idx ts_22 hL_b rfl rfl ho_2) ?_
      refine HA.val (k := 7) (v := .agg (e_api_Addr (gi b i_1)).toArray) rfl rfl (by kernel_rfl) (by kernel_rfl) (want_none) rfl (fun _ ⟨hL_a, hL_b⟩ => q_ldElemAgg (cs := (e_api_Addr (gi b i_1))) ta_27 hL_b rfl ho_2 rfl) ?_
      refine HA.val (k := 8) (v := .bool (!decide (((gi a i_1) : T_api_Addr) = (gi b i_1)))) rfl rfl (by kernel_rfl) (by kernel_rfl) (want_none) rfl (fun _ ⟨hL_a, hL_b⟩ => q_neqAgg (a := (gi a i_1)) (b := (gi b i_1)) (fun a b w => teq_27 9997 a b w) (by kernel_rfl) rfl rfl rfl rfl) ?_
      refine HA.nil ⟨⟨hL_a.is, hL_b.is⟩, (Go.Wk.at_nil _ _)⟩ (by kernel_rfl) (thenQ_normal (?_))
      refine HW.cond (!decide (((gi a i_1) : T_api_Addr) = (gi b i_1))) rfl (fun c_3 => ?_) (fun c_3 => ?_)
      · replace hM := hM.1 (nd_true c_3)
        refine HW.seq ?_
        refine HW.region ?_
        refine HO.val (v := .bool false) (want_none) rfl (q_assign rfl) ?_
        refine HO.nil (thenQ_normal (?_))
        refine HW.ret (blockQ_ret (thenQ_ret (thenQ_ret (blockQ_ret (thenQ_ret (?_))))))
        refine ⟨.inr rfl, .bool false, res1 rfl (rt rfl), ?_⟩
        exact ⟨F_1, false, rfl, hK, hS, hL_a, hL_b, hM⟩
      · replace hM := hM.2 (nd_false c_3)
        refine HW.skip (blockQ_normal (thenQ_normal (?_)))
        refine HW.region ?_
        refine HO.val (v := .int .i64 i_1) (want_none) rfl (q_move rfl) ?_
        obtain ⟨ho_3, hM⟩ := hM
        refine HO.val (v := .int .i64 (i_1 + 1)) (want_none) rfl (q_addN _ rfl rfl rfl ho_3.1 ho_3.2) ?_
        refine HO.val (v := .int .i64 (i_1 + 1)) (want_none) rfl (q_assign rfl) ?_
        refine HO.nil (thenQ_normal (?_))
        rw [hKe_1] at hM
        exact ⟨i_1 + 1, ⟨F_1, rfl, rfl, rfl, rfl, hK, hS, hL_a, hL_b, hM.1⟩, hM.2⟩
    · replace hM := hM.2 (of_decide_eq_false c_2)
      refine HW.exit (thenQ_exit (thenQ_exit (blockQ_exit (thenQ_normal (?_)))))
      refine HW.seq ?_
      refine HW.region ?_
      refine HO.val (v := .bool true) (want_none) rfl (q_assign rfl) ?_
      refine HO.nil (thenQ_normal (?_))
      refine HW.ret (?_)
      refine ⟨.inr rfl, .bool true, res1 rfl (rt rfl), ?_⟩
      exact ⟨F_1, true, rfl, hK, hS, hL_a, hL_b, hM⟩

def ref08_SameRecords_l1 (a : List T_api_Record) (b : List T_api_Record) (Q : Bool → Prop) (K_1 : Int → Prop) (i_1 : Int) : Prop :=
  (i_1 < (a.length : Int) → ((0 : Int) ≤ i_1 ∧ i_1 < (a.length : Int)) ∧ (((0 : Int) ≤ i_1 ∧ i_1 < (b.length : Int)) ∧ ((¬ (((gi a i_1).1) = ((gi b i_1).1)) → Q false) ∧ (((gi a i_1).1) = ((gi b i_1).1) → (¬ ((((gi a i_1).2.1) : T_api_Addr) = ((gi b i_1).2.1)) → Q false) ∧ ((((gi a i_1).2.1) : T_api_Addr) = ((gi b i_1).2.1) → ref08_SameAddrs_W (((gi a i_1).2.2).2) (((gi b i_1).2.2).2) (fun r_2 => ((!r_2) = true → Q false) ∧ ((!r_2) = false → (I64 (i_1 + 1)) ∧ (K_1 (i_1 + 1))))))))) ∧ (¬ (i_1 < (a.length : Int)) → Q true)
def ref08_SameRecords_W (a : List T_api_Record) (b : List T_api_Record) (Q : Bool → Prop) : Prop :=
  (¬ ((a.length : Int) = (b.length : Int)) → Q false) ∧ ((a.length : Int) = (b.length : Int) → loopW (fun (K_1 : Int → Prop) (s : Int) => ref08_SameRecords_l1 a b Q K_1 s) 0)
set_option maxHeartbeats 40000000 in
set_option maxRecDepth 100000 in
theorem ref08_SameRecords_walk {F : Fz} {fr : List Ow} {h0 : Heap} (a : List T_api_Record) (b : List T_api_Record) (va : Value) (vb : Value) (hS : St F (fr) h0) (hN_a : NfL nf_api_Record F h0 a) (hL_a : SliceF F h0 19 e_api_Record va a) (hN_b : NfL nf_api_Record F h0 b) (hL_b : SliceF F h0 19 e_api_Record vb b) {Q : Bool → Prop} (hM : ref08_SameRecords_W a b Q) :
    HC Tryd.prog 11 #[va, vb] h0 fun u h' => ∃ (F' : Fz) (r_1 : Bool), u = .bool r_1 ∧ Kp F h0 F' h' ∧ St F' (fr) h' ∧ (NfL nf_api_Record F' h' a) ∧ (SliceF F' h' 19 e_api_Record va a) ∧ (NfL nf_api_Record F' h' b) ∧ (SliceF F' h' 19 e_api_Record vb b) ∧ Q r_1 := by
  unfold ref08_SameRecords_W at hM
  have hK := Kp.refl F h0
  refine HC.of_HW (n := 55) Tryd.func11 rfl rfl (Nat.le_of_ble_eq_true rfl) ?_
  refine HW.seq ?_
  refine HW.region ?_
  refine HO.val (v := .bool false) (want_none) rfl (q_assign rfl) ?_
  refine HO.nil (thenQ_normal (?_))
  refine HW.seq ?_
  refine HW.seq ?_
  refine HW.region ?_
  refine HO.val (v := va) (want_none) rfl (q_move rfl) ?_
  refine HO.val (v := .int .i64 (a.length : Int)) (want_none) rfl (q_len ts_31 (shp hL_a.is) rfl rfl) ?_
  refine HO.val (v := vb) (want_none) rfl (q_move rfl) ?_
  refine HO.val (v := .int .i64 (b.length : Int)) (want_none) rfl (q_len ts_31 (shp hL_b.is) rfl rfl) ?_
  refine HO.val (v := .bool (!decide ((a.length : Int) = (b.length : Int)))) (want_none) rfl (q_neq rfl rfl) ?_
  refine HO.nil (thenQ_normal (?_))
  refine HW.cond (!decide ((a.length : Int) = (b.length : Int))) rfl (fun c_1 => ?_) (fun c_1 => ?_)
  · replace hM := hM.1 (nd_true c_1)
    refine HW.seq ?_
    refine HW.region ?_
    refine HO.val (v := .bool false) (want_none) rfl (q_assign rfl) ?_
    refine HO.nil (thenQ_normal (?_))
    refine HW.ret (thenQ_ret (?_))
    refine ⟨.inr rfl, .bool false, res1 rfl (rt rfl), ?_⟩
    exact ⟨F, false, rfl, hK, hS, hN_a, hL_a, hN_b, hL_b, hM⟩
  · replace hM := hM.2 (nd_false c_1)
    refine HW.skip (thenQ_normal (?_))
    refine HW.seq ?_
    refine HW.seq ?_
    refine HW.region ?_
    refine HO.val (v := .int .i64 0) (want_none) rfl (q_assign rfl) ?_
    refine HO.nil (thenQ_normal (?_))
    refine HW.block ?_
    obtain ⟨I_1, m_1, hI_1, hR_1⟩ := hM
    refine HW.loop (S := Int) (fun i_1 f h => ∃ (F' : Fz), f 0 = va ∧ f 1 = vb ∧ f 4 = .bool false ∧ f 5 = .int .i64 i_1 ∧ Kp F h0 F' h ∧ St F' (fr) h ∧ (NfL nf_api_Record F' h a) ∧ (SliceF F' h 19 e_api_Record va a) ∧ (NfL nf_api_Record F' h b) ∧ (SliceF F' h 19 e_api_Record vb b) ∧ I_1 i_1) m_1 0 ⟨F, rfl, rfl, rfl, rfl, hK, hS, hN_a, hL_a, hN_b, hL_b, hI_1⟩ ?_
    rintro i_1 f_1 h_1 ⟨F_1, e0, e1, e4, e5, hK, hS, hN_a, hL_a, hN_b, hL_b, hI0⟩
    obtain ⟨K_1, hKe_1⟩ : ∃ K : Int → Prop, K = fun i_1' => I_1 i_1' ∧ m_1 i_1' < m_1 i_1 := ⟨_, rfl⟩
    have hM : ref08_SameRecords_l1 a b Q K_1 i_1 := by rw [hKe_1]; exact hR_1 i_1 hI0
    unfold ref08_SameRecords_l1 at hM
    refine HW.fr [(0, va), (1, vb), (4, .bool false), (5, .int .i64 i_1)] ⟨e0, e1, e4, e5, trivial⟩ ?_
    refine HW.seq ?_
    refine HW.seq ?_
    refine HW.region ?_
    refine HO.val (v := .int .i64 i_1) (want_none) rfl (q_move rfl) ?_
    refine HO.val (v := va) (want_none) rfl (q_move rfl) ?_
    refine HO.val (v := .int .i64 (a.length : Int)) (want_none) rfl (q_len ts_31 (shp hL_a.is) rfl rfl) ?_
    refine HO.val (v := .bool (decide (i_1 < (a.length : Int)))) (want_none) rfl (q_lss rfl rfl) ?_
    refine HO.nil (thenQ_normal (?_))
    refine HW.cond (decide (i_1 < (a.length : Int))) rfl (fun c_2 => ?_) (fun c_2 => ?_)
    · replace hM := hM.1 (of_decide_eq_true c_2)
      refine HW.skip (thenQ_normal (?_))
      refine HW.seq ?_
      refine HW.block ?_
      refine HW.seq ?_
      refine HW.regionA 38 mixed (fun h => (SliceIs h 19 e_api_Record va a) ∧ (SliceIs h 19 e_api_Record vb b)) [] (by kernel_rfl) ?_
      refine HA.val (k := 0) (v := va) rfl rfl (by kernel_rfl) (by kernel_rfl) (want_none) rfl (fun _ ⟨hL_a, hL_b⟩ => q_move rfl) ?_
      refine HA.val (k := 1) (v := .int .i64 i_1) rfl rfl (by kernel_rfl) (by kernel_rfl) (want_none) rfl (fun _ ⟨hL_a, hL_b⟩ => q_move rfl) ?_
      obtain ⟨ho_1, hM⟩ := hM
      refine HA.val (k := 2) (v := elemPtr 19 va (i_1).toNat) rfl rfl (by kernel_rfl) (by kernel_rfl) (want_none) rfl (fun _ ⟨hL_a, hL_b⟩ => q_idx ts_31 hL_a rfl rfl ho_1) ?_
      refine HA.val (k := 3) (v := fieldPtr 19 va (i_1).toNat 0) rfl rfl (by kernel_rfl) (by kernel_rfl) (want_none) rfl (fun _ ⟨hL_a, hL_b⟩ => q_fldElem fa_40_0 hL_a rfl ho_1) ?_
      refine HA.val (k := 4) (v := .int .i64 ((gi a i_1).1)) rfl rfl (by kernel_rfl) (by kernel_rfl) (want_none) rfl (fun _ ⟨hL_a, hL_b⟩ => q_ldField to_3 hL_a rfl ho_1 (by decide) rfl) ?_
      refine HA.val (k := 5) (v := vb) rfl rfl (by kernel_rfl) (by kernel_rfl) (want_none) rfl (fun _ ⟨hL_a, hL_b⟩ => q_move rfl) ?_
      refine HA.val (k := 6) (v := .int .i64 i_1) rfl rfl (by kernel_rfl) (by kernel_rfl) (want_none) rfl (fun _ ⟨hL_a, hL_b⟩ => q_move rfl) ?_
      obtain ⟨ho_2, hM⟩ := hM
      refine HA.val (k := 7) (v := elemPtr 19 vb (i_1).toNat) rfl rfl (by kernel_rfl) (by kernel_rfl) (want_none) rfl (fun _ ⟨hL_a, hL_b⟩ => q_idx ts_31 hL_b rfl rfl ho_2) ?_
      refine HA.val (k := 8) (v := fieldPtr 19 vb (i_1).toNat 0) rfl rfl (by kernel_rfl) (by kernel_rfl) (want_none) rfl (fun _ ⟨hL_a, hL_b⟩ => q_fldElem fa_40_0 hL_b rfl ho_2) ?_
      refine HA.val (k := 9) (v := .int .i64 ((gi b i_1).1)) rfl rfl (by kernel_rfl) (by kernel_rfl) (want_none) rfl (fun _ ⟨hL_a, hL_b⟩ => q_ldField to_3 hL_b rfl ho_2 (by decide) rfl) ?_
      refine HA.val (k := 10) (v := .bool (!decide (((gi a i_1).1) = ((gi b i_1).1)))) rfl rfl (by kernel_rfl) (by kernel_rfl) (want_none) rfl (fun _ ⟨hL_a, hL_b⟩ => q_neq rfl rfl) ?_
      refine HA.val (k := 11) (v := .bool (!decide (((gi a i_1).1) = ((gi b i_1).1)))) rfl rfl (by kernel_rfl) (by kernel_rfl) (want_none) rfl (fun _ ⟨hL_a, hL_b⟩ => q_move rfl) ?_
      rcases Bool.eq_false_or_eq_true (!decide (((gi a i_1).1) = ((gi b i_1).1))) with c_3 | c_3
      · replace hM := hM.1 (nd_true c_3)
        refine HA.past (k := 12) rfl rfl (by kernel_rfl) (by kernel_rfl) (past_by rfl rfl c_3) rfl ?_
        refine HA.past (k := 13) rfl rfl (by kernel_rfl) (by kernel_rfl) (past_by rfl rfl c_3) rfl ?_
        refine HA.past (k := 14) rfl rfl (by kernel_rfl) (by kernel_rfl) (past_by rfl rfl c_3) rfl ?_
        refine HA.past (k := 15) rfl rfl (by kernel_rfl) (by kernel_rfl) (past_by rfl rfl c_3) rfl ?_
        refine HA.past (k := 16) rfl rfl (by kernel_rfl) (by kernel_rfl) (past_by rfl rfl c_3) rfl ?_
        refine HA.past (k := 17) rfl rfl (by kernel_rfl) (by kernel_rfl) (past_by rfl rfl c_3) rfl ?_
        refine HA.past (k := 18) rfl rfl (by kernel_rfl) (by kernel_rfl) (past_by rfl rfl c_3) rfl ?_
        refine HA.past (k := 19) rfl rfl (by kernel_rfl) (by kernel_rfl) (past_by rfl rfl c_3) rfl ?_
        refine HA.past (k := 20) rfl rfl (by kernel_rfl) (by kernel_rfl) (past_by rfl rfl c_3) rfl ?_
        refine HA.past (k := 21) rfl rfl (by kernel_rfl) (by kernel_rfl) (past_by rfl rfl c_3) rfl ?_
        refine HA.past (k := 22) rfl rfl (by kernel_rfl) (by kernel_rfl) (past_by rfl rfl c_3) rfl ?_
        refine HA.val (k := 23) (v := .bool true) rfl rfl (by kernel_rfl) (by kernel_rfl) (want_none) rfl (fun _ ⟨hL_a, hL_b⟩ => q_pickK true rfl c_3 rfl) ?_
        refine HA.val (k := 24) (v := .bool true) rfl rfl (by kernel_rfl) (by kernel_rfl) (want_none) rfl (fun _ ⟨hL_a, hL_b⟩ => q_move rfl) ?_
        refine HA.past (k := 25) rfl rfl (by kernel_rfl) (by kernel_rfl) (past_some rfl rfl) rfl ?_
        refine HA.past (k := 26) rfl rfl (by kernel_rfl) (by kernel_rfl) (past_some rfl rfl) rfl ?_
        refine HA.past (k := 27) rfl rfl (by kernel_rfl) (by kernel_rfl) (past_some rfl rfl) rfl ?_
        refine HA.past (k := 28) rfl rfl (by kernel_rfl) (by kernel_rfl) (past_some rfl rfl) rfl ?_
        refine HA.past (k := 29) rfl rfl (by kernel_rfl) (by kernel_rfl) (past_some rfl rfl) rfl ?_
        refine HA.past (k := 30) rfl rfl (by kernel_rfl) (by kernel_rfl) (past_some rfl rfl) rfl ?_
        refine HA.past (k := 31) rfl rfl (by kernel_rfl) (by kernel_rfl) (past_some rfl rfl) rfl ?_
        refine HA.past (k := 32) rfl rfl (by kernel_rfl) (by kernel_rfl) (past_some rfl rfl) rfl ?_
        refine HA.past (k := 33) rfl rfl (by kernel_rfl) (by kernel_rfl) (past_some rfl rfl) rfl ?_
        refine HA.past (k := 34) rfl rfl (by kernel_rfl) (by kernel_rfl) (past_some rfl rfl) rfl ?_
        refine HA.one (k := 35) ⟨⟨hL_a.is, hL_b.is⟩, (Go.Wk.at_nil _ _)⟩ (by kernel_rfl) ?_
        refine HS.past rfl (past_some rfl rfl) rfl ?_
        refine HA.past (k := 36) rfl rfl (by kernel_rfl) (by kernel_rfl) (past_some rfl rfl) rfl ?_
        refine HA.val (k := 37) (v := .bool true) rfl rfl (by kernel_rfl) (by kernel_rfl) (want_none) rfl (fun _ ⟨hL_a, hL_b⟩ => q_pick rfl rfl) ?_
        refine HA.nil ⟨⟨hL_a.is, hL_b.is⟩, (Go.Wk.at_nil _ _)⟩ (by kernel_rfl) (thenQ_normal (?_))
        refine HW.condT rfl ?_
        refine HW.seq ?_
        refine HW.region ?_
        refine HO.val (v := .bool false) (want_none) rfl (q_assign rfl) ?_
        refine HO.nil (thenQ_normal (?_))
        refine HW.ret (blockQ_ret (thenQ_ret (thenQ_ret (blockQ_ret (thenQ_ret (?_))))))
        refine ⟨.inr rfl, .bool false, res1 rfl (rt rfl), ?_⟩
        exact ⟨F_1, false, rfl, hK, hS, hN_a, hL_a, hN_b, hL_b, hM⟩
      · replace hM := hM.2 (nd_false c_3)
        refine HA.val (k := 12) (v := va) rfl rfl (by kernel_rfl) (by kernel_rfl) (want_by rfl rfl c_3) rfl (fun _ ⟨hL_a, hL_b⟩ => q_move rfl) ?_
        refine HA.val (k := 13) (v := .int .i64 i_1) rfl rfl (by kernel_rfl) (by kernel_rfl) (want_by rfl rfl c_3) rfl (fun _ ⟨hL_a, hL_b⟩ => q_move rfl) ?_
        refine HA.val (k := 14) (v := elemPtr 19 va (i_1).toNat) rfl rfl (by kernel_rfl) (by kernel_rfl) (want_by rfl rfl c_3) rfl (fun _ ⟨hL_a, hL_b⟩ => q_idx ts_31 hL_a rfl rfl ho_1) ?_
        refine HA.val (k := 15) (v := fieldPtr 19 va (i_1).toNat 1) rfl rfl (by kernel_rfl) (by kernel_rfl) (want_by rfl rfl c_3) rfl (fun _ ⟨hL_a, hL_b⟩ => q_fldElem fa_40_1 hL_a rfl ho_1) ?_
        refine HA.val (k := 16) (v := .agg (e_api_Addr ((gi a i_1).2.1)).toArray) rfl rfl (by kernel_rfl) (by kernel_rfl) (want_by rfl rfl c_3) rfl (fun _ ⟨hL_a, hL_b⟩ => q_ldFieldAgg (n := 17) (cs := (e_api_Addr ((gi a i_1).2.1))) ta_27 hL_a rfl ho_1 (by decide) rfl) ?_
        refine HA.val (k := 17) (v := vb) rfl rfl (by kernel_rfl) (by kernel_rfl) (want_by rfl rfl c_3) rfl (fun _ ⟨hL_a, hL_b⟩ => q_move rfl) ?_
        refine HA.val (k := 18) (v := .int .i64 i_1) rfl rfl (by kernel_rfl) (by kernel_rfl) (want_by rfl rfl c_3) rfl (fun _ ⟨hL_a, hL_b⟩ => q_move rfl) ?_
        refine HA.val (k := 19) (v := elemPtr 19 vb (i_1).toNat) rfl rfl (by kernel_rfl) (by kernel_rfl) (want_by rfl rfl c_3) rfl (fun _ ⟨hL_a, hL_b⟩ => q_idx ts_31 hL_b rfl rfl ho_2) ?_
        refine HA.val (k := 20) (v := fieldPtr 19 vb (i_1).toNat 1) rfl rfl (by kernel_rfl) (by kernel_rfl) (want_by rfl rfl c_3) rfl (fun _ ⟨hL_a, hL_b⟩ => q_fldElem fa_40_1 hL_b rfl ho_2) ?_
        refine HA.val (k := 21) (v := .agg (e_api_Addr ((gi b i_1).2.1)).toArray) rfl rfl (by kernel_rfl) (by kernel_rfl) (want_by rfl rfl c_3) rfl (fun _ ⟨hL_a, hL_b⟩ => q_ldFieldAgg (n := 17) (cs := (e_api_Addr ((gi b i_1).2.1))) ta_27 hL_b rfl ho_2 (by decide) rfl) ?_
        refine HA.val (k := 22) (v := .bool (!decide ((((gi a i_1).2.1) : T_api_Addr) = ((gi b i_1).2.1)))) rfl rfl (by kernel_rfl) (by kernel_rfl) (want_by rfl rfl c_3) rfl (fun _ ⟨hL_a, hL_b⟩ => q_neqAgg (a := ((gi a i_1).2.1)) (b := ((gi b i_1).2.1)) (fun a b w => teq_27 9997 a b w) (by kernel_rfl) rfl rfl rfl rfl) ?_
        refine HA.val (k := 23) (v := .bool (!decide ((((gi a i_1).2.1) : T_api_Addr) = ((gi b i_1).2.1)))) rfl rfl (by kernel_rfl) (by kernel_rfl) (want_none) rfl (fun _ ⟨hL_a, hL_b⟩ => q_pickK false rfl c_3 rfl) ?_
        refine HA.val (k := 24) (v := .bool (!decide ((((gi a i_1).2.1) : T_api_Addr) = ((gi b i_1).2.1)))) rfl rfl (by kernel_rfl) (by kernel_rfl) (want_none) rfl (fun _ ⟨hL_a, hL_b⟩ => q_move rfl) ?_
        rcases Bool.eq_false_or_eq_true (!decide ((((gi a i_1).2.1) : T_api_Addr) = ((gi b i_1).2.1))) with c_4 | c_4
        · replace hM := hM.1 (nd_true c_4)
          refine HA.past (k := 25) rfl rfl (by kernel_rfl) (by kernel_rfl) (past_by rfl rfl c_4) rfl ?_
          refine HA.past (k := 26) rfl rfl (by kernel_rfl) (by kernel_rfl) (past_by rfl rfl c_4) rfl ?_
          refine HA.past (k := 27) rfl rfl (by kernel_rfl) (by kernel_rfl) (past_by rfl rfl c_4) rfl ?_
          refine HA.past (k := 28) rfl rfl (by kernel_rfl) (by kernel_rfl) (past_by rfl rfl c_4) rfl ?_
          refine HA.past (k := 29) rfl rfl (by kernel_rfl) (by kernel_rfl) (past_by rfl rfl c_4) rfl ?_
          refine HA.past (k := 30) rfl rfl (by kernel_rfl) (by kernel_rfl) (past_by rfl rfl c_4) rfl ?_
          refine HA.past (k := 31) rfl rfl (by kernel_rfl) (by kernel_rfl) (past_by rfl rfl c_4) rfl ?_
          refine HA.past (k := 32) rfl rfl (by kernel_rfl) (by kernel_rfl) (past_by rfl rfl c_4) rfl ?_
          refine HA.past (k := 33) rfl rfl (by kernel_rfl) (by kernel_rfl) (past_by rfl rfl c_4) rfl ?_
          refine HA.past (k := 34) rfl rfl (by kernel_rfl) (by kernel_rfl) (past_by rfl rfl c_4) rfl ?_
          refine HA.one (k := 35) ⟨⟨hL_a.is, hL_b.is⟩, (Go.Wk.at_nil _ _)⟩ (by kernel_rfl) ?_
          refine HS.past rfl (past_by rfl rfl c_4) rfl ?_
          refine HA.past (k := 36) rfl rfl (by kernel_rfl) (by kernel_rfl) (past_by rfl rfl c_4) rfl ?_
          refine HA.val (k := 37) (v := .bool true) rfl rfl (by kernel_rfl) (by kernel_rfl) (want_none) rfl (fun _ ⟨hL_a, hL_b⟩ => q_pickK true rfl c_4 rfl) ?_
          refine HA.nil ⟨⟨hL_a.is, hL_b.is⟩, (Go.Wk.at_nil _ _)⟩ (by kernel_rfl) (thenQ_normal (?_))
          refine HW.condT rfl ?_
          refine HW.seq ?_
          refine HW.region ?_
          refine HO.val (v := .bool false) (want_none) rfl (q_assign rfl) ?_
          refine HO.nil (thenQ_normal (?_))
          refine HW.ret (blockQ_ret (thenQ_ret (thenQ_ret (blockQ_ret (thenQ_ret (?_))))))
          refine ⟨.inr rfl, .bool false, res1 rfl (rt rfl), ?_⟩
          exact ⟨F_1, false, rfl, hK, hS, hN_a, hL_a, hN_b, hL_b, hM⟩
        · replace hM := hM.2 (nd_false c_4)
          refine HA.val (k := 25) (v := va) rfl rfl (by kernel_rfl) (by kernel_rfl) (want_by rfl rfl c_4) rfl (fun _ ⟨hL_a, hL_b⟩ => q_move rfl) ?_
          refine HA.val (k := 26) (v := .int .i64 i_1) rfl rfl (by kernel_rfl) (by kernel_rfl) (want_by rfl rfl c_4) rfl (fun _ ⟨hL_a, hL_b⟩ => q_move rfl) ?_
          refine HA.val (k := 27) (v := elemPtr 19 va (i_1).toNat) rfl rfl (by kernel_rfl) (by kernel_rfl) (want_by rfl rfl c_4) rfl (fun _ ⟨hL_a, hL_b⟩ => q_idx ts_31 hL_a rfl rfl ho_1) ?_
          refine HA.val (k := 28) (v := fieldPtr 19 va (i_1).toNat 18) rfl rfl (by kernel_rfl) (by kernel_rfl) (want_by rfl rfl c_4) rfl (fun _ ⟨hL_a, hL_b⟩ => q_fldElem fa_40_2 hL_a rfl ho_1) ?_
          refine HA.val (k := 29) (v := ((gi a i_1).2.2).1) rfl rfl (by kernel_rfl) (by kernel_rfl) (want_by rfl rfl c_4) rfl (fun _ ⟨hL_a, hL_b⟩ => q_ldField to_22 hL_a rfl ho_1 (by decide) rfl) ?_
          refine HA.val (k := 30) (v := vb) rfl rfl (by kernel_rfl) (by kernel_rfl) (want_by rfl rfl c_4) rfl (fun _ ⟨hL_a, hL_b⟩ => q_move rfl) ?_
          refine HA.val (k := 31) (v := .int .i64 i_1) rfl rfl (by kernel_rfl) (by kernel_rfl) (want_by rfl rfl c_4) rfl (fun _ ⟨hL_a, hL_b⟩ => q_move rfl) ?_
          refine HA.val (k := 32) (v := elemPtr 19 vb (i_1).toNat) rfl rfl (by kernel_rfl) (by kernel_rfl) (want_by rfl rfl c_4) rfl (fun _ ⟨hL_a, hL_b⟩ => q_idx ts_31 hL_b rfl rfl ho_2) ?_
          refine HA.val (k := 33) (v := fieldPtr 19 vb (i_1).toNat 18) rfl rfl (by kernel_rfl) (by kernel_rfl) (want_by rfl rfl c_4) rfl (fun _ ⟨hL_a, hL_b⟩ => q_fldElem fa_40_2 hL_b rfl ho_2) ?_
          refine HA.val (k := 34) (v := ((gi b i_1).2.2).1) rfl rfl (by kernel_rfl) (by kernel_rfl) (want_by rfl rfl c_4) rfl (fun _ ⟨hL_a, hL_b⟩ => q_ldField to_22 hL_b rfl ho_2 (by decide) rfl) ?_
          refine HA.one (k := 35) ⟨⟨hL_a.is, hL_b.is⟩, (Go.Wk.at_nil _ _)⟩ (by kernel_rfl) ?_
          refine HS.call rfl (want_by rfl rfl c_4) rfl (ec en_49 rfl rfl) (ref08_SameAddrs_walk (fr := (fr)) (((gi a i_1).2.2).2) (((gi b i_1).2.2).2) (((gi a i_1).2.2).1) (((gi b i_1).2.2).1) hS (nff_api_Record_18 (NfL.at hN_a ho_1)) (nff_api_Record_18 (NfL.at hN_b ho_2)) hM) ?_
          rintro _ h_2 ⟨F_2, r_2, rfl, hk, hS, _, _, hM⟩
          replace hK := hK.trans hk
          replace hN_a := hN_a.kp hk
          replace hL_a := hL_a.kp hk
          replace hN_b := hN_b.kp hk
          replace hL_b := hL_b.kp hk
          refine HA.val (k := 36) (v := .bool (!r_2)) rfl rfl (by kernel_rfl) (by kernel_rfl) (want_by rfl rfl c_4) rfl (fun _ ⟨hL_a, hL_b⟩ => q_not rfl) ?_
          refine HA.val (k := 37) (v := .bool (!r_2)) rfl rfl (by kernel_rfl) (by kernel_rfl) (want_none) rfl (fun _ ⟨hL_a, hL_b⟩ => q_pickK false rfl c_4 rfl) ?_
          refine HA.nil ⟨⟨hL_a.is, hL_b.is⟩, (Go.Wk.at_nil _ _)⟩ (by kernel_rfl) (thenQ_normal (?_))
          refine HW.cond (!r_2) rfl (fun c_5 => ?_) (fun c_5 => ?_)
          · replace hM := hM.1 c_5
            refine HW.seq ?_
            refine HW.region ?_
            refine HO.val (v := .bool false) (want_none) rfl (q_assign rfl) ?_
            refine HO.nil (thenQ_normal (?_))
            refine HW.ret (blockQ_ret (thenQ_ret (thenQ_ret (blockQ_ret (thenQ_ret (?_))))))
            refine ⟨.inr rfl, .bool false, res1 rfl (rt rfl), ?_⟩
            exact ⟨F_2, false, rfl, hK, hS, hN_a, hL_a, hN_b, hL_b, hM⟩
          · replace hM := hM.2 c_5
            refine HW.skip (blockQ_normal (thenQ_normal (?_)))
            refine HW.region ?_
            refine HO.val (v := .int .i64 i_1) (want_none) rfl (q_move rfl) ?_
            obtain ⟨ho_3, hM⟩ := hM
            refine HO.val (v := .int .i64 (i_1 + 1)) (want_none) rfl (q_addN _ rfl rfl rfl ho_3.1 ho_3.2) ?_
            refine HO.val (v := .int .i64 (i_1 + 1)) (want_none) rfl (q_assign rfl) ?_
            refine HO.nil (thenQ_normal (?_))
            rw [hKe_1] at hM
            exact ⟨i_1 + 1, ⟨F_2, rfl, rfl, rfl, rfl, hK, hS, hN_a, hL_a, hN_b, hL_b, hM.1⟩, hM.2⟩
    · replace hM := hM.2 (of_decide_eq_false c_2)
      refine HW.exit (thenQ_exit (thenQ_exit (blockQ_exit (thenQ_normal (?_)))))
      refine HW.seq ?_
      refine HW.region ?_
      refine HO.val (v := .bool true) (want_none) rfl (q_assign rfl) ?_
      refine HO.nil (thenQ_normal (?_))
      refine HW.ret (?_)
      refine ⟨.inr rfl, .bool true, res1 rfl (rt rfl), ?_⟩
      exact ⟨F_1, true, rfl, hK, hS, hN_a, hL_a, hN_b, hL_b, hM⟩

def ref15_Apply_j14 (r_3 : List T_api_Addr) (out_2_1 : List T_api_Addr) (i_1 : Int) (K_1 : (List T_api_Addr) → (List T_api_Addr) → (List T_api_Addr) → (List T_api_Addr) → (List T_api_Addr) → Int → Prop) (nowOff_3 : Bool) (out_3_3 : List T_api_Addr) (out_4_2 : List T_api_Addr) (out_6_2 : List T_api_Addr) (out_1_2 : List T_api_Addr) : Prop :=
  (nowOff_3 = true → ((out_2_1.length + ([(gi r_3 i_1)] : List T_api_Addr).length) * 17 ≤ 140737488355328) ∧ ((I64 (i_1 + 1)) ∧ (K_1 out_1_2 (out_2_1 ++ ([(gi r_3 i_1)] : List T_api_Addr)) out_3_3 out_4_2 out_6_2 (i_1 + 1)))) ∧ (nowOff_3 = false → (I64 (i_1 + 1)) ∧ (K_1 out_1_2 out_2_1 out_3_3 out_4_2 out_6_2 (i_1 + 1)))
def ref15_Apply_j13 (r_3 : List T_api_Addr) (out_1_1 : List T_api_Addr) (out_2_1 : List T_api_Addr) (i_1 : Int) (K_1 : (List T_api_Addr) → (List T_api_Addr) → (List T_api_Addr) → (List T_api_Addr) → (List T_api_Addr) → Int → Prop) (nowOff_3 : Bool) (out_3_3 : List T_api_Addr) (out_4_2 : List T_api_Addr) (nowOn_3 : Bool) (out_6_2 : List T_api_Addr) : Prop :=
  (nowOn_3 = true → ((out_1_1.length + ([(gi r_3 i_1)] : List T_api_Addr).length) * 17 ≤ 140737488355328) ∧ (ref15_Apply_j14 r_3 out_2_1 i_1 K_1 nowOff_3 out_3_3 out_4_2 out_6_2 (out_1_1 ++ ([(gi r_3 i_1)] : List T_api_Addr)))) ∧ (nowOn_3 = false → ref15_Apply_j14 r_3 out_2_1 i_1 K_1 nowOff_3 out_3_3 out_4_2 out_6_2 out_1_1)
def ref15_Apply_j11 (r_3 : List T_api_Addr) (out_1_1 : List T_api_Addr) (out_2_1 : List T_api_Addr) (out_6_1 : List T_api_Addr) (i_1 : Int) (K_1 : (List T_api_Addr) → (List T_api_Addr) → (List T_api_Addr) → (List T_api_Addr) → (List T_api_Addr) → Int → Prop) (nowOff_3 : Bool) (out_3_3 : List T_api_Addr) (out_4_2 : List T_api_Addr) (nowOn_3 : Bool) (ask_2 : Bool) : Prop :=
  (ask_2 = true → ((out_6_1.length + ([(gi r_3 i_1)] : List T_api_Addr).length) * 17 ≤ 140737488355328) ∧ (ref15_Apply_j13 r_3 out_1_1 out_2_1 i_1 K_1 nowOff_3 out_3_3 out_4_2 nowOn_3 (out_6_1 ++ ([(gi r_3 i_1)] : List T_api_Addr)))) ∧ (ask_2 = false → ref15_Apply_j13 r_3 out_1_1 out_2_1 i_1 K_1 nowOff_3 out_3_3 out_4_2 nowOn_3 out_6_1)
def ref15_Apply_j12 (s_Exclude : Bool) (r_3 : List T_api_Addr) (out_1_1 : List T_api_Addr) (out_2_1 : List T_api_Addr) (out_6_1 : List T_api_Addr) (i_1 : Int) (K_1 : (List T_api_Addr) → (List T_api_Addr) → (List T_api_Addr) → (List T_api_Addr) → (List T_api_Addr) → Int → Prop) (r_4 : Bool) (r_5 : Bool) (r_6 : Bool) (nowOff_3 : Bool) (out_3_3 : List T_api_Addr) (out_4_2 : List T_api_Addr) (nowOn_3 : Bool) (ask_1 : Bool) (b_11 : Bool) : Prop :=
  (b_11 = true → (r_6 = true → (r_4 = true → ref15_Apply_j11 r_3 out_1_1 out_2_1 out_6_1 i_1 K_1 nowOff_3 out_3_3 out_4_2 nowOn_3 true) ∧ (r_4 = false → (s_Exclude = true → ref15_Apply_j11 r_3 out_1_1 out_2_1 out_6_1 i_1 K_1 nowOff_3 out_3_3 out_4_2 nowOn_3 (!r_5)) ∧ (s_Exclude = false → ref15_Apply_j11 r_3 out_1_1 out_2_1 out_6_1 i_1 K_1 nowOff_3 out_3_3 out_4_2 nowOn_3 false))) ∧ (r_6 = false → ref15_Apply_j11 r_3 out_1_1 out_2_1 out_6_1 i_1 K_1 nowOff_3 out_3_3 out_4_2 nowOn_3 false)) ∧ (b_11 = false → ref15_Apply_j11 r_3 out_1_1 out_2_1 out_6_1 i_1 K_1 nowOff_3 out_3_3 out_4_2 nowOn_3 ask_1)
def ref15_Apply_j10 (s_Exclude : Bool) (kind : Int) (r_3 : List T_api_Addr) (out_1_1 : List T_api_Addr) (out_2_1 : List T_api_Addr) (out_6_1 : List T_api_Addr) (i_1 : Int) (K_1 : (List T_api_Addr) → (List T_api_Addr) → (List T_api_Addr) → (List T_api_Addr) → (List T_api_Addr) → Int → Prop) (r_4 : Bool) (r_5 : Bool) (r_6 : Bool) (nowOff_3 : Bool) (out_3_3 : List T_api_Addr) (out_4_2 : List T_api_Addr) (nowOn_3 : Bool) (ask_1 : Bool) : Prop :=
  (kind = 6 → ref15_Apply_j12 s_Exclude r_3 out_1_1 out_2_1 out_6_1 i_1 K_1 r_4 r_5 r_6 nowOff_3 out_3_3 out_4_2 nowOn_3 ask_1 true) ∧ (¬ (kind = 6) → ref15_Apply_j12 s_Exclude r_3 out_1_1 out_2_1 out_6_1 i_1 K_1 r_4 r_5 r_6 nowOff_3 out_3_3 out_4_2 nowOn_3 ask_1 (decide (kind = 4)))
def ref15_Apply_j8 (s_Exclude : Bool) (kind : Int) (r_3 : List T_api_Addr) (out_1_1 : List T_api_Addr) (out_2_1 : List T_api_Addr) (out_6_1 : List T_api_Addr) (i_1 : Int) (K_1 : (List T_api_Addr) → (List T_api_Addr) → (List T_api_Addr) → (List T_api_Addr) → (List T_api_Addr) → Int → Prop) (r_4 : Bool) (r_5 : Bool) (r_6 : Bool) (nowOff_3 : Bool) (out_3_3 : List T_api_Addr) (out_4_2 : List T_api_Addr) (nowOn_3 : Bool) : Prop :=
  (kind = 3 → (r_4 = true → ref15_Apply_j10 s_Exclude kind r_3 out_1_1 out_2_1 out_6_1 i_1 K_1 r_4 r_5 r_6 nowOff_3 out_3_3 out_4_2 nowOn_3 (!r_6)) ∧ (r_4 = false → ref15_Apply_j10 s_Exclude kind r_3 out_1_1 out_2_1 out_6_1 i_1 K_1 r_4 r_5 r_6 nowOff_3 out_3_3 out_4_2 nowOn_3 false)) ∧ (¬ (kind = 3) → ref15_Apply_j10 s_Exclude kind r_3 out_1_1 out_2_1 out_6_1 i_1 K_1 r_4 r_5 r_6 nowOff_3 out_3_3 out_4_2 nowOn_3 false)
def ref15_Apply_j9 (s_Exclude : Bool) (kind : Int) (r_3 : List T_api_Addr) (out_1_1 : List T_api_Addr) (out_2_1 : List T_api_Addr) (out_4_1 : List T_api_Addr) (out_6_1 : List T_api_Addr) (i_1 : Int) (K_1 : (List T_api_Addr) → (List T_api_Addr) → (List T_api_Addr) → (List T_api_Addr) → (List T_api_Addr) → Int → Prop) (r_4 : Bool) (r_5 : Bool) (r_6 : Bool) (out_3_2 : List T_api_Addr) (nowOn_2 : Bool) (nowOff_3 : Bool) (b_8 : Bool) : Prop :=
  (b_8 = true → (kind = 2 → ((out_3_2.length + ([(gi r_3 i_1)] : List T_api_Addr).length) * 17 ≤ 140737488355328) ∧ (ref15_Apply_j8 s_Exclude kind r_3 out_1_1 out_2_1 out_6_1 i_1 K_1 r_4 r_5 r_6 nowOff_3 (out_3_2 ++ ([(gi r_3 i_1)] : List T_api_Addr)) out_4_1 true)) ∧ (¬ (kind = 2) → ((out_4_1.length + ([(gi r_3 i_1)] : List T_api_Addr).length) * 17 ≤ 140737488355328) ∧ (ref15_Apply_j8 s_Exclude kind r_3 out_1_1 out_2_1 out_6_1 i_1 K_1 r_4 r_5 r_6 nowOff_3 out_3_2 (out_4_1 ++ ([(gi r_3 i_1)] : List T_api_Addr)) true))) ∧ (b_8 = false → ref15_Apply_j8 s_Exclude kind r_3 out_1_1 out_2_1 out_6_1 i_1 K_1 r_4 r_5 r_6 nowOff_3 out_3_2 out_4_1 nowOn_2)
def ref15_Apply_j7 (s_Exclude : Bool) (kind : Int) (ex_1 : Bool) (r_3 : List T_api_Addr) (out_1_1 : List T_api_Addr) (out_2_1 : List T_api_Addr) (out_4_1 : List T_api_Addr) (out_6_1 : List T_api_Addr) (i_1 : Int) (K_1 : (List T_api_Addr) → (List T_api_Addr) → (List T_api_Addr) → (List T_api_Addr) → (List T_api_Addr) → Int → Prop) (r_4 : Bool) (r_5 : Bool) (r_6 : Bool) (out_3_2 : List T_api_Addr) (nowOn_2 : Bool) (nowOff_3 : Bool) : Prop :=
  (r_6 = true → ((!r_4) = true → ((!r_5) = true → (s_Exclude = true → (ex_1 = true → ref15_Apply_j9 s_Exclude kind r_3 out_1_1 out_2_1 out_4_1 out_6_1 i_1 K_1 r_4 r_5 r_6 out_3_2 nowOn_2 nowOff_3 true) ∧ (ex_1 = false → ref15_Apply_j9 s_Exclude kind r_3 out_1_1 out_2_1 out_4_1 out_6_1 i_1 K_1 r_4 r_5 r_6 out_3_2 nowOn_2 nowOff_3 (decide (kind = 6)))) ∧ (s_Exclude = false → ref15_Apply_j9 s_Exclude kind r_3 out_1_1 out_2_1 out_4_1 out_6_1 i_1 K_1 r_4 r_5 r_6 out_3_2 nowOn_2 nowOff_3 false)) ∧ ((!r_5) = false → ref15_Apply_j9 s_Exclude kind r_3 out_1_1 out_2_1 out_4_1 out_6_1 i_1 K_1 r_4 r_5 r_6 out_3_2 nowOn_2 nowOff_3 false)) ∧ ((!r_4) = false → ref15_Apply_j9 s_Exclude kind r_3 out_1_1 out_2_1 out_4_1 out_6_1 i_1 K_1 r_4 r_5 r_6 out_3_2 nowOn_2 nowOff_3 false)) ∧ (r_6 = false → ref15_Apply_j9 s_Exclude kind r_3 out_1_1 out_2_1 out_4_1 out_6_1 i_1 K_1 r_4 r_5 r_6 out_3_2 nowOn_2 nowOff_3 false)
def ref15_Apply_j6 (s_Exclude : Bool) (kind : Int) (ex_1 : Bool) (r_3 : List T_api_Addr) (out_1_1 : List T_api_Addr) (out_2_1 : List T_api_Addr) (out_4_1 : List T_api_Addr) (out_6_1 : List T_api_Addr) (i_1 : Int) (K_1 : (List T_api_Addr) → (List T_api_Addr) → (List T_api_Addr) → (List T_api_Addr) → (List T_api_Addr) → Int → Prop) (r_4 : Bool) (r_5 : Bool) (r_6 : Bool) (out_3_2 : List T_api_Addr) (nowOn_2 : Bool) (nowOff_2 : Bool) : Prop :=
  (r_6 = true → ((!r_4) = true → ((!r_5) = true → ((!s_Exclude) = true → (ex_1 = true → ref15_Apply_j7 s_Exclude kind ex_1 r_3 out_1_1 out_2_1 out_4_1 out_6_1 i_1 K_1 r_4 r_5 r_6 out_3_2 nowOn_2 true) ∧ (ex_1 = false → ref15_Apply_j7 s_Exclude kind ex_1 r_3 out_1_1 out_2_1 out_4_1 out_6_1 i_1 K_1 r_4 r_5 r_6 out_3_2 nowOn_2 nowOff_2)) ∧ ((!s_Exclude) = false → ref15_Apply_j7 s_Exclude kind ex_1 r_3 out_1_1 out_2_1 out_4_1 out_6_1 i_1 K_1 r_4 r_5 r_6 out_3_2 nowOn_2 nowOff_2)) ∧ ((!r_5) = false → ref15_Apply_j7 s_Exclude kind ex_1 r_3 out_1_1 out_2_1 out_4_1 out_6_1 i_1 K_1 r_4 r_5 r_6 out_3_2 nowOn_2 nowOff_2)) ∧ ((!r_4) = false → ref15_Apply_j7 s_Exclude kind ex_1 r_3 out_1_1 out_2_1 out_4_1 out_6_1 i_1 K_1 r_4 r_5 r_6 out_3_2 nowOn_2 nowOff_2)) ∧ (r_6 = false → ref15_Apply_j7 s_Exclude kind ex_1 r_3 out_1_1 out_2_1 out_4_1 out_6_1 i_1 K_1 r_4 r_5 r_6 out_3_2 nowOn_2 nowOff_2)
def ref15_Apply_j4 (s_Exclude : Bool) (kind : Int) (ex_1 : Bool) (r_3 : List T_api_Addr) (out_1_1 : List T_api_Addr) (out_2_1 : List T_api_Addr) (out_4_1 : List T_api_Addr) (out_6_1 : List T_api_Addr) (i_1 : Int) (K_1 : (List T_api_Addr) → (List T_api_Addr) → (List T_api_Addr) → (List T_api_Addr) → (List T_api_Addr) → Int → Prop) (r_4 : Bool) (r_5 : Bool) (r_6 : Bool) (out_3_2 : List T_api_Addr) (nowOn_1 : Bool) (nowOff_1 : Bool) : Prop :=
  (ex_1 = true → ((!r_6) = true → ref15_Apply_j6 s_Exclude kind ex_1 r_3 out_1_1 out_2_1 out_4_1 out_6_1 i_1 K_1 r_4 r_5 r_6 out_3_2 false false) ∧ ((!r_6) = false → ref15_Apply_j6 s_Exclude kind ex_1 r_3 out_1_1 out_2_1 out_4_1 out_6_1 i_1 K_1 r_4 r_5 r_6 out_3_2 nowOn_1 nowOff_1)) ∧ (ex_1 = false → ref15_Apply_j6 s_Exclude kind ex_1 r_3 out_1_1 out_2_1 out_4_1 out_6_1 i_1 K_1 r_4 r_5 r_6 out_3_2 nowOn_1 nowOff_1)
def ref15_Apply_j5 (s_Exclude : Bool) (kind : Int) (ex_1 : Bool) (r_3 : List T_api_Addr) (out_1_1 : List T_api_Addr) (out_2_1 : List T_api_Addr) (out_3_1 : List T_api_Addr) (out_4_1 : List T_api_Addr) (out_6_1 : List T_api_Addr) (i_1 : Int) (K_1 : (List T_api_Addr) → (List T_api_Addr) → (List T_api_Addr) → (List T_api_Addr) → (List T_api_Addr) → Int → Prop) (r_4 : Bool) (r_5 : Bool) (r_6 : Bool) (b_6 : Bool) : Prop :=
  (b_6 = true → ((out_3_1.length + ([(gi r_3 i_1)] : List T_api_Addr).length) * 17 ≤ 140737488355328) ∧ (ref15_Apply_j4 s_Exclude kind ex_1 r_3 out_1_1 out_2_1 out_4_1 out_6_1 i_1 K_1 r_4 r_5 r_6 (out_3_1 ++ ([(gi r_3 i_1)] : List T_api_Addr)) true false)) ∧ (b_6 = false → ref15_Apply_j4 s_Exclude kind ex_1 r_3 out_1_1 out_2_1 out_4_1 out_6_1 i_1 K_1 r_4 r_5 r_6 out_3_1 r_4 r_5)
def ref15_Apply_l1 (s_Exclude : Bool) (s_On : List T_api_Addr) (s_Off : List T_api_Addr) (kind : Int) (b : List T_api_Addr) (Q : Bool → (List T_api_Addr) → (List T_api_Addr) → (List T_api_Addr) → (List T_api_Addr) → Bool → (List T_api_Addr) → Bool → Prop) (b_4 : Bool) (ex_1 : Bool) (out_0_1 : Bool) (out_5_1 : Bool) (out_7_1 : Bool) (r_3 : List T_api_Addr) (K_1 : (List T_api_Addr) → (List T_api_Addr) → (List T_api_Addr) → (List T_api_Addr) → (List T_api_Addr) → Int → Prop) (out_1_1 : List T_api_Addr) (out_2_1 : List T_api_Addr) (out_3_1 : List T_api_Addr) (out_4_1 : List T_api_Addr) (out_6_1 : List T_api_Addr) (i_1 : Int) : Prop :=
  (i_1 < (r_3.length : Int) → ((0 : Int) ≤ i_1 ∧ i_1 < (r_3.length : Int)) ∧ (ref11_Has_W s_On (gi r_3 i_1) (fun r_4 => ref11_Has_W s_Off (gi r_3 i_1) (fun r_5 => ref11_Has_W b (gi r_3 i_1) (fun r_6 => (b_4 = true → ref15_Apply_j5 s_Exclude kind ex_1 r_3 out_1_1 out_2_1 out_3_1 out_4_1 out_6_1 i_1 K_1 r_4 r_5 r_6 r_6) ∧ (b_4 = false → ref15_Apply_j5 s_Exclude kind ex_1 r_3 out_1_1 out_2_1 out_3_1 out_4_1 out_6_1 i_1 K_1 r_4 r_5 r_6 false)))))) ∧ (¬ (i_1 < (r_3.length : Int)) → Q out_0_1 out_1_1 out_2_1 out_3_1 out_4_1 out_5_1 out_6_1 out_7_1)
def ref15_Apply_j3 (s_Exclude : Bool) (s_On : List T_api_Addr) (s_Off : List T_api_Addr) (kind : Int) (b : List T_api_Addr) (Q : Bool → (List T_api_Addr) → (List T_api_Addr) → (List T_api_Addr) → (List T_api_Addr) → Bool → (List T_api_Addr) → Bool → Prop) (b_4 : Bool) (ex_1 : Bool) (out_0_1 : Bool) (out_5_1 : Bool) (out_7_1 : Bool) : Prop :=
  ref11_Or_W s_On s_Off (fun r_1 => ref11_Of_W b (fun r_2 => ref11_Or_W r_1 r_2 (fun r_3 => loopW (fun (K_1 : (List T_api_Addr × List T_api_Addr × List T_api_Addr × List T_api_Addr × List T_api_Addr × Int) → Prop) (s : List T_api_Addr × List T_api_Addr × List T_api_Addr × List T_api_Addr × List T_api_Addr × Int) => ref15_Apply_l1 s_Exclude s_On s_Off kind b Q b_4 ex_1 out_0_1 out_5_1 out_7_1 r_3 (fun out_1_1 out_2_1 out_3_1 out_4_1 out_6_1 i_1 => K_1 (out_1_1, out_2_1, out_3_1, out_4_1, out_6_1, i_1)) s.1 s.2.1 s.2.2.1 s.2.2.2.1 s.2.2.2.2.1 s.2.2.2.2.2) ([], [], [], [], [], 0))))
def ref15_Apply_j2 (s_Exclude : Bool) (s_On : List T_api_Addr) (s_Off : List T_api_Addr) (kind : Int) (b : List T_api_Addr) (Q : Bool → (List T_api_Addr) → (List T_api_Addr) → (List T_api_Addr) → (List T_api_Addr) → Bool → (List T_api_Addr) → Bool → Prop) (b_4 : Bool) (ex_1 : Bool) (out_0_1 : Bool) (out_5_1 : Bool) : Prop :=
  (s_Exclude = true → ref15_Apply_j3 s_Exclude s_On s_Off kind b Q b_4 ex_1 out_0_1 out_5_1 (decide (kind = 3))) ∧ (s_Exclude = false → ref15_Apply_j3 s_Exclude s_On s_Off kind b Q b_4 ex_1 out_0_1 out_5_1 false)
def ref15_Apply_j1 (s_Exclude : Bool) (s_On : List T_api_Addr) (s_Off : List T_api_Addr) (kind : Int) (b : List T_api_Addr) (Q : Bool → (List T_api_Addr) → (List T_api_Addr) → (List T_api_Addr) → (List T_api_Addr) → Bool → (List T_api_Addr) → Bool → Prop) (b_4 : Bool) (ex_1 : Bool) : Prop :=
  (ex_1 = true → ref15_Apply_j2 s_Exclude s_On s_Off kind b Q b_4 ex_1 true true) ∧ (ex_1 = false → ref15_Apply_j2 s_Exclude s_On s_Off kind b Q b_4 ex_1 s_Exclude false)
def ref15_Apply_W (s_Exclude : Bool) (s_On : List T_api_Addr) (s_Off : List T_api_Addr) (kind : Int) (b : List T_api_Addr) (Q : Bool → (List T_api_Addr) → (List T_api_Addr) → (List T_api_Addr) → (List T_api_Addr) → Bool → (List T_api_Addr) → Bool → Prop) : Prop :=
  (kind = 1 → (kind = 2 → ref15_Apply_j1 s_Exclude s_On s_Off kind b Q true true) ∧ (¬ (kind = 2) → ref15_Apply_j1 s_Exclude s_On s_Off kind b Q true (decide (kind = 4)))) ∧ (¬ (kind = 1) → (kind = 3 → (kind = 2 → ref15_Apply_j1 s_Exclude s_On s_Off kind b Q true true) ∧ (¬ (kind = 2) → ref15_Apply_j1 s_Exclude s_On s_Off kind b Q true (decide (kind = 4)))) ∧ (¬ (kind = 3) → (kind = 2 → ref15_Apply_j1 s_Exclude s_On s_Off kind b Q (decide (kind = 5)) true) ∧ (¬ (kind = 2) → ref15_Apply_j1 s_Exclude s_On s_Off kind b Q (decide (kind = 5)) (decide (kind = 4)))))
set_option maxHeartbeats 40000000 in
set_option maxRecDepth 100000 in
theorem ref15_Apply_walk {F : Fz} {fr : List Ow} {h0 : Heap} (s_Exclude : Bool) (s_On : List T_api_Addr) (s_Off : List T_api_Addr) (kind : Int) (b : List T_api_Addr) (vs_On : Value) (vs_Off : Value) (vb : Value) (hS : St F (fr) h0) (hL_s_On : SliceF F h0 17 e_api_Addr vs_On s_On) (hL_s_Off : SliceF F h0 17 e_api_Addr vs_Off s_Off) (hL_b : SliceF F h0 17 e_api_Addr vb b) {Q : Bool → (List T_api_Addr) → (List T_api_Addr) → (List T_api_Addr) → (List T_api_Addr) → Bool → (List T_api_Addr) → Bool → Prop} (hM : ref15_Apply_W s_Exclude s_On s_Off kind b Q) :
    HC Tryd.prog 13 #[.agg #[.bool s_Exclude, vs_On, vs_Off], .int .i64 kind, vb] h0 fun u h' => ∃ (F' : Fz) (r_0_1 : Bool) (r_1_1 : List T_api_Addr) (r_2_1 : List T_api_Addr) (r_3_1 : List T_api_Addr) (r_4_1 : List T_api_Addr) (r_5_1 : Bool) (r_6_1 : List T_api_Addr) (r_7_1 : Bool) (vr_1_1 : Value) (vr_2_1 : Value) (vr_3_1 : Value) (vr_4_1 : Value) (vr_6_1 : Value), u = .agg #[.bool r_0_1, vr_1_1, vr_2_1, vr_3_1, vr_4_1, .bool r_5_1, vr_6_1, .bool r_7_1] ∧ Kp F h0 F' h' ∧ St F' (Ow.own 27 17 e_api_Addr vr_1_1 r_1_1 :: Ow.own 27 17 e_api_Addr vr_2_1 r_2_1 :: Ow.own 27 17 e_api_Addr vr_3_1 r_3_1 :: Ow.own 27 17 e_api_Addr vr_4_1 r_4_1 :: Ow.own 27 17 e_api_Addr vr_6_1 r_6_1 :: fr) h' ∧ (SliceF F' h' 17 e_api_Addr vs_On s_On) ∧ (SliceF F' h' 17 e_api_Addr vs_Off s_Off) ∧ (SliceF F' h' 17 e_api_Addr vb b) ∧ Q r_0_1 r_1_1 r_2_1 r_3_1 r_4_1 r_5_1 r_6_1 r_7_1 := by
  unfold ref15_Apply_W at hM
  have hK := Kp.refl F h0
  refine HC.of_HW (n := 200) Tryd.func13 rfl rfl (Nat.le_of_ble_eq_true rfl) ?_
  refine HW.seq ?_
  refine HW.region ?_
  refine HO.eff (want_none) rfl (st_box (c := #[.bool s_Exclude, vs_On, vs_Off]) (k' := 3) hS rfl rfl) ?_
  rintro _ h_1 ⟨b_1, rfl, hS, hk⟩
  replace hK := hK.trans hk
  replace hL_s_On := hL_s_On.kp hk
  replace hL_s_Off := hL_s_Off.kp hk
  replace hL_b := hL_b.kp hk
  refine HO.eff (want_none) rfl (st_alloc (c := #[.bool false, .slice none 0 0, .slice none 0 0, .slice none 0 0, .slice none 0 0, .bool false, .slice none 0 0, .bool false]) hS tz_37 rfl) ?_
  rintro _ h_2 ⟨b_2, rfl, hS, hk⟩
  replace hK := hK.trans hk
  replace hL_s_On := hL_s_On.kp hk
  replace hL_s_Off := hL_s_Off.kp hk
  replace hL_b := hL_b.kp hk
  refine HO.nil (thenQ_normal (?_))
  refine HW.seq ?_
  refine HW.region ?_
  refine HO.val (v := .pointer (some ⟨b_1, 0, none⟩)) (want_none) rfl (q_fieldAddr fa_35_0 rfl rfl) ?_
  refine HO.val (v := .bool s_Exclude) (want_none) rfl (q_load to_4 rfl (Blk.cell (hS.box 1 rfl) rfl)) ?_
  refine HO.val (v := .agg #[.bool s_Exclude, .slice none 0 0, .slice none 0 0]) (want_none) rfl (q_build tp_35 rfl) ?_
  refine HO.val (v := .agg #[.bool s_Exclude, .slice none 0 0, .slice none 0 0, .slice none 0 0, .slice none 0 0, .bool false, .slice none 0 0, .bool false]) (want_none) rfl (q_build tp_37 (fill_cons (cs' := #[.bool s_Exclude, .slice none 0 0, .slice none 0 0, .slice none 0 0, .slice none 0 0, .bool false, .slice none 0 0, .bool false]) (vc := #[.bool s_Exclude, .slice none 0 0, .slice none 0 0]) rfl rfl rfl (Nat.le_of_ble_eq_true rfl) rfl rfl)) ?_
  refine HO.eff (want_none) rfl (st_alloc (c := #[.bool false, .slice none 0 0, .slice none 0 0, .slice none 0 0, .slice none 0 0, .bool false, .slice none 0 0, .bool false]) hS tz_37 rfl) ?_
  rintro _ h_3 ⟨b_3, rfl, hS, hk⟩
  replace hK := hK.trans hk
  replace hL_s_On := hL_s_On.kp hk
  replace hL_s_Off := hL_s_Off.kp hk
  replace hL_b := hL_b.kp hk
  refine HO.sto (want_none) rfl (st_storeAgg (c' := #[.bool s_Exclude, .slice none 0 0, .slice none 0 0, .slice none 0 0, .slice none 0 0, .bool false, .slice none 0 0, .bool false]) hS (i := 0) rfl ta_37 rfl rfl rfl (by simp [Value.oneCell']) (Nat.le_of_ble_eq_true rfl) rfl) ?_
  rintro h_4 ⟨hS, hk⟩
  replace hS : St F (Ow.box b_3 37 #[.bool s_Exclude, .slice none 0 0, .slice none 0 0, .slice none 0 0, .slice none 0 0, .bool false, .slice none 0 0, .bool false] :: Ow.box b_2 37 #[.bool false, .slice none 0 0, .slice none 0 0, .slice none 0 0, .slice none 0 0, .bool false, .slice none 0 0, .bool false] :: Ow.box b_1 35 #[.bool s_Exclude, vs_On, vs_Off] :: fr) h_4 := hS
  replace hK := hK.trans hk
  replace hL_s_On := hL_s_On.kp hk
  replace hL_s_Off := hL_s_Off.kp hk
  replace hL_b := hL_b.kp hk
  refine HO.nil (thenQ_normal (?_))
  refine HW.seq_mid (fun f h => ∃ (F' : Fz) (b_4 : Bool) (ex_1 : Bool), f 1 = .int .i64 kind ∧ f 2 = vb ∧ f 3 = .pointer (some ⟨b_1, 0, none⟩) ∧ f 6 = .pointer (some ⟨b_2, 0, none⟩) ∧ f 7 = .pointer (some ⟨b_3, 0, none⟩) ∧ f 8 = .bool b_4 ∧ f 9 = .bool ex_1 ∧ Kp F h0 F' h ∧ St F' (Ow.box b_1 35 #[.bool s_Exclude, vs_On, vs_Off] :: Ow.box b_2 37 #[.bool false, .slice none 0 0, .slice none 0 0, .slice none 0 0, .slice none 0 0, .bool false, .slice none 0 0, .bool false] :: Ow.box b_3 37 #[.bool s_Exclude, .slice none 0 0, .slice none 0 0, .slice none 0 0, .slice none 0 0, .bool false, .slice none 0 0, .bool false] :: fr) h ∧ (SliceF F' h 17 e_api_Addr vs_On s_On) ∧ (SliceF F' h 17 e_api_Addr vs_Off s_Off) ∧ (SliceF F' h 17 e_api_Addr vb b) ∧ ref15_Apply_j1 s_Exclude s_On s_Off kind b Q b_4 ex_1) ?_ ?_
  · refine HW.region ?_
    refine HO.val (v := .int .i64 kind) (want_none) rfl (q_move rfl) ?_
    refine HO.val (v := .bool (decide (kind = 1))) (want_none) rfl (q_eql rfl rfl) ?_
    refine HO.val (v := .bool (decide (kind = 1))) (want_none) rfl (q_move rfl) ?_
    rcases Bool.eq_false_or_eq_true (decide (kind = 1)) with c_1 | c_1
    · replace hM := hM.1 (of_decide_eq_true c_1)
      refine HO.past (past_by rfl rfl c_1) rfl ?_
      refine HO.past (past_by rfl rfl c_1) rfl ?_
      refine HO.val (v := .bool true) (want_none) rfl (q_pickK true rfl c_1 rfl) ?_
      refine HO.val (v := .bool true) (want_none) rfl (q_move rfl) ?_
      refine HO.past (past_some rfl rfl) rfl ?_
      refine HO.past (past_some rfl rfl) rfl ?_
      refine HO.val (v := .bool true) (want_none) rfl (q_pick rfl rfl) ?_
      refine HO.val (v := .int .i64 kind) (want_none) rfl (q_move rfl) ?_
      refine HO.val (v := .bool (decide (kind = 2))) (want_none) rfl (q_eql rfl rfl) ?_
      refine HO.val (v := .bool (decide (kind = 2))) (want_none) rfl (q_move rfl) ?_
      rcases Bool.eq_false_or_eq_true (decide (kind = 2)) with c_2 | c_2
      · replace hM := hM.1 (of_decide_eq_true c_2)
        refine HO.past (past_by rfl rfl c_2) rfl ?_
        refine HO.past (past_by rfl rfl c_2) rfl ?_
        refine HO.val (v := .bool true) (want_none) rfl (q_pickK true rfl c_2 rfl) ?_
        refine HO.val (v := .bool true) (want_none) rfl (q_assign rfl) ?_
        refine HO.val (v := .bool true) (want_none) rfl (q_assign rfl) ?_
        refine HO.nil (thenQ_normal (?_))
        replace hS : St F (Ow.box b_1 35 #[.bool s_Exclude, vs_On, vs_Off] :: Ow.box b_2 37 #[.bool false, .slice none 0 0, .slice none 0 0, .slice none 0 0, .slice none 0 0, .bool false, .slice none 0 0, .bool false] :: Ow.box b_3 37 #[.bool s_Exclude, .slice none 0 0, .slice none 0 0, .slice none 0 0, .slice none 0 0, .bool false, .slice none 0 0, .bool false] :: fr) h_4 := hS.perm2 [2, 1, 0] 3 rfl rfl
        exact ⟨F, true, true, rfl, rfl, rfl, rfl, rfl, rfl, rfl, hK, hS, hL_s_On, hL_s_Off, hL_b, hM⟩
      · replace hM := hM.2 (of_decide_eq_false c_2)
        refine HO.val (v := .int .i64 kind) (want_by rfl rfl c_2) rfl (q_move rfl) ?_
        refine HO.val (v := .bool (decide (kind = 4))) (want_by rfl rfl c_2) rfl (q_eql rfl rfl) ?_
        refine HO.val (v := .bool (decide (kind = 4))) (want_none) rfl (q_pickK false rfl c_2 rfl) ?_
        refine HO.val (v := .bool true) (want_none) rfl (q_assign rfl) ?_
        refine HO.val (v := .bool (decide (kind = 4))) (want_none) rfl (q_assign rfl) ?_
        refine HO.nil (thenQ_normal (?_))
        replace hS : St F (Ow.box b_1 35 #[.bool s_Exclude, vs_On, vs_Off] :: Ow.box b_2 37 #[.bool false, .slice none 0 0, .slice none 0 0, .slice none 0 0, .slice none 0 0, .bool false, .slice none 0 0, .bool false] :: Ow.box b_3 37 #[.bool s_Exclude, .slice none 0 0, .slice none 0 0, .slice none 0 0, .slice none 0 0, .bool false, .slice none 0 0, .bool false] :: fr) h_4 := hS.perm2 [2, 1, 0] 3 rfl rfl
        exact ⟨F, true, decide (kind = 4), rfl, rfl, rfl, rfl, rfl, rfl, rfl, hK, hS, hL_s_On, hL_s_Off, hL_b, hM⟩
    · replace hM := hM.2 (of_decide_eq_false c_1)
      refine HO.val (v := .int .i64 kind) (want_by rfl rfl c_1) rfl (q_move rfl) ?_
      refine HO.val (v := .bool (decide (kind = 3))) (want_by rfl rfl c_1) rfl (q_eql rfl rfl) ?_
      refine HO.val (v := .bool (decide (kind = 3))) (want_none) rfl (q_pickK false rfl c_1 rfl) ?_
      refine HO.val (v := .bool (decide (kind = 3))) (want_none) rfl (q_move rfl) ?_
      rcases Bool.eq_false_or_eq_true (decide (kind = 3)) with c_3 | c_3
      · replace hM := hM.1 (of_decide_eq_true c_3)
        refine HO.past (past_by rfl rfl c_3) rfl ?_
        refine HO.past (past_by rfl rfl c_3) rfl ?_
        refine HO.val (v := .bool true) (want_none) rfl (q_pickK true rfl c_3 rfl) ?_
        refine HO.val (v := .int .i64 kind) (want_none) rfl (q_move rfl) ?_
        refine HO.val (v := .bool (decide (kind = 2))) (want_none) rfl (q_eql rfl rfl) ?_
        refine HO.val (v := .bool (decide (kind = 2))) (want_none) rfl (q_move rfl) ?_
        rcases Bool.eq_false_or_eq_true (decide (kind = 2)) with c_4 | c_4
        · replace hM := hM.1 (of_decide_eq_true c_4)
          refine HO.past (past_by rfl rfl c_4) rfl ?_
          refine HO.past (past_by rfl rfl c_4) rfl ?_
          refine HO.val (v := .bool true) (want_none) rfl (q_pickK true rfl c_4 rfl) ?_
          refine HO.val (v := .bool true) (want_none) rfl (q_assign rfl) ?_
          refine HO.val (v := .bool true) (want_none) rfl (q_assign rfl) ?_
          refine HO.nil (thenQ_normal (?_))
          replace hS : St F (Ow.box b_1 35 #[.bool s_Exclude, vs_On, vs_Off] :: Ow.box b_2 37 #[.bool false, .slice none 0 0, .slice none 0 0, .slice none 0 0, .slice none 0 0, .bool false, .slice none 0 0, .bool false] :: Ow.box b_3 37 #[.bool s_Exclude, .slice none 0 0, .slice none 0 0, .slice none 0 0, .slice none 0 0, .bool false, .slice none 0 0, .bool false] :: fr) h_4 := hS.perm2 [2, 1, 0] 3 rfl rfl
          exact ⟨F, true, true, rfl, rfl, rfl, rfl, rfl, rfl, rfl, hK, hS, hL_s_On, hL_s_Off, hL_b, hM⟩
        · replace hM := hM.2 (of_decide_eq_false c_4)
          refine HO.val (v := .int .i64 kind) (want_by rfl rfl c_4) rfl (q_move rfl) ?_
          refine HO.val (v := .bool (decide (kind = 4))) (want_by rfl rfl c_4) rfl (q_eql rfl rfl) ?_
          refine HO.val (v := .bool (decide (kind = 4))) (want_none) rfl (q_pickK false rfl c_4 rfl) ?_
          refine HO.val (v := .bool true) (want_none) rfl (q_assign rfl) ?_
          refine HO.val (v := .bool (decide (kind = 4))) (want_none) rfl (q_assign rfl) ?_
          refine HO.nil (thenQ_normal (?_))
          replace hS : St F (Ow.box b_1 35 #[.bool s_Exclude, vs_On, vs_Off] :: Ow.box b_2 37 #[.bool false, .slice none 0 0, .slice none 0 0, .slice none 0 0, .slice none 0 0, .bool false, .slice none 0 0, .bool false] :: Ow.box b_3 37 #[.bool s_Exclude, .slice none 0 0, .slice none 0 0, .slice none 0 0, .slice none 0 0, .bool false, .slice none 0 0, .bool false] :: fr) h_4 := hS.perm2 [2, 1, 0] 3 rfl rfl
          exact ⟨F, true, decide (kind = 4), rfl, rfl, rfl, rfl, rfl, rfl, rfl, hK, hS, hL_s_On, hL_s_Off, hL_b, hM⟩
      · replace hM := hM.2 (of_decide_eq_false c_3)
        refine HO.val (v := .int .i64 kind) (want_by rfl rfl c_3) rfl (q_move rfl) ?_
        refine HO.val (v := .bool (decide (kind = 5))) (want_by rfl rfl c_3) rfl (q_eql rfl rfl) ?_
        refine HO.val (v := .bool (decide (kind = 5))) (want_none) rfl (q_pickK false rfl c_3 rfl) ?_
        refine HO.val (v := .int .i64 kind) (want_none) rfl (q_move rfl) ?_
        refine HO.val (v := .bool (decide (kind = 2))) (want_none) rfl (q_eql rfl rfl) ?_
        refine HO.val (v := .bool (decide (kind = 2))) (want_none) rfl (q_move rfl) ?_
        rcases Bool.eq_false_or_eq_true (decide (kind = 2)) with c_5 | c_5
        · replace hM := hM.1 (of_decide_eq_true c_5)
          refine HO.past (past_by rfl rfl c_5) rfl ?_
          refine HO.past (past_by rfl rfl c_5) rfl ?_
          refine HO.val (v := .bool true) (want_none) rfl (q_pickK true rfl c_5 rfl) ?_
          refine HO.val (v := .bool (decide (kind = 5))) (want_none) rfl (q_assign rfl) ?_
          refine HO.val (v := .bool true) (want_none) rfl (q_assign rfl) ?_
          refine HO.nil (thenQ_normal (?_))
          replace hS : St F (Ow.box b_1 35 #[.bool s_Exclude, vs_On, vs_Off] :: Ow.box b_2 37 #[.bool false, .slice none 0 0, .slice none 0 0, .slice none 0 0, .slice none 0 0, .bool false, .slice none 0 0, .bool false] :: Ow.box b_3 37 #[.bool s_Exclude, .slice none 0 0, .slice none 0 0, .slice none 0 0, .slice none 0 0, .bool false, .slice none 0 0, .bool false] :: fr) h_4 := hS.perm2 [2, 1, 0] 3 rfl rfl
          exact ⟨F, decide (kind = 5), true, rfl, rfl, rfl, rfl, rfl, rfl, rfl, hK, hS, hL_s_On, hL_s_Off, hL_b, hM⟩
        · replace hM := hM.2 (of_decide_eq_false c_5)
          refine HO.val (v := .int .i64 kind) (want_by rfl rfl c_5) rfl (q_move rfl) ?_
          refine HO.val (v := .bool (decide (kind = 4))) (want_by rfl rfl c_5) rfl (q_eql rfl rfl) ?_
          refine HO.val (v := .bool (decide (kind = 4))) (want_none) rfl (q_pickK false rfl c_5 rfl) ?_
          refine HO.val (v := .bool (decide (kind = 5))) (want_none) rfl (q_assign rfl) ?_
          refine HO.val (v := .bool (decide (kind = 4))) (want_none) rfl (q_assign rfl) ?_
          refine HO.nil (thenQ_normal (?_))
          replace hS : St F (Ow.box b_1 35 #[.bool s_Exclude, vs_On, vs_Off] :: Ow.box b_2 37 #[.bool false, .slice none 0 0, .slice none 0 0, .slice none 0 0, .slice none 0 0, .bool false, .slice none 0 0, .bool false] :: Ow.box b_3 37 #[.bool s_Exclude, .slice none 0 0, .slice none 0 0, .slice none 0 0, .slice none 0 0, .bool false, .slice none 0 0, .bool false] :: fr) h_4 := hS.perm2 [2, 1, 0] 3 rfl rfl
          exact ⟨F, decide (kind = 5), decide (kind = 4), rfl, rfl, rfl, rfl, rfl, rfl, rfl, hK, hS, hL_s_On, hL_s_Off, hL_b, hM⟩
  · rintro f_1 h_5 ⟨F_1, b_4, ex_1, e1, e2, e3, e6, e7, e8, e9, hK, hS, hL_s_On, hL_s_Off, hL_b, hM⟩
    unfold ref15_Apply_j1 at hM
    refine HW.fr [(1, .int .i64 kind), (2, vb), (3, .pointer (some ⟨b_1, 0, none⟩)), (6, .pointer (some ⟨b_2, 0, none⟩)), (7, .pointer (some ⟨b_3, 0, none⟩)), (8, .bool b_4), (9, .bool ex_1)] ⟨e1, e2, e3, e6, e7, e8, e9, trivial⟩ ?_
    refine HW.seq_mid (fun f h => ∃ (F' : Fz) (out_0_1 : Bool) (out_5_1 : Bool), f 1 = .int .i64 kind ∧ f 2 = vb ∧ f 3 = .pointer (some ⟨b_1, 0, none⟩) ∧ f 6 = .pointer (some ⟨b_2, 0, none⟩) ∧ f 7 = .pointer (some ⟨b_3, 0, none⟩) ∧ f 8 = .bool b_4 ∧ f 9 = .bool ex_1 ∧ Kp F h0 F' h ∧ St F' (Ow.box b_1 35 #[.bool s_Exclude, vs_On, vs_Off] :: Ow.box b_2 37 #[.bool false, .slice none 0 0, .slice none 0 0, .slice none 0 0, .slice none 0 0, .bool false, .slice none 0 0, .bool false] :: Ow.box b_3 37 #[.bool out_0_1, .slice none 0 0, .slice none 0 0, .slice none 0 0, .slice none 0 0, .bool out_5_1, .slice none 0 0, .bool false] :: fr) h ∧ (SliceF F' h 17 e_api_Addr vs_On s_On) ∧ (SliceF F' h 17 e_api_Addr vs_Off s_Off) ∧ (SliceF F' h 17 e_api_Addr vb b) ∧ ref15_Apply_j2 s_Exclude s_On s_Off kind b Q b_4 ex_1 out_0_1 out_5_1) ?_ ?_
    · refine HW.seq ?_
      refine HW.region ?_
      refine HO.val (v := .bool ex_1) (want_none) rfl (q_move rfl) ?_
      refine HO.nil (thenQ_normal (?_))
      refine HW.cond ex_1 rfl (fun c_6 => ?_) (fun c_6 => ?_)
      · replace hM := hM.1 c_6
        refine HW.region ?_
        refine HO.val (v := .pointer (some ⟨b_3, 0, none⟩)) (want_none) rfl (q_fieldAddr fa_37_0 rfl rfl) ?_
        refine HO.val (v := .pointer (some ⟨b_3, 0, none⟩)) (want_none) rfl (q_fieldAddr fa_35_0 rfl rfl) ?_
        refine HO.sto (want_none) rfl (st_store (c' := #[.bool true, .slice none 0 0, .slice none 0 0, .slice none 0 0, .slice none 0 0, .bool false, .slice none 0 0, .bool false]) hS (i := 2) rfl to_4 rfl rfl rfl rfl (Nat.le_of_ble_eq_true rfl) rfl) ?_
        rintro h_6 ⟨hS, hk⟩
        replace hS : St F_1 (Ow.box b_1 35 #[.bool s_Exclude, vs_On, vs_Off] :: Ow.box b_2 37 #[.bool false, .slice none 0 0, .slice none 0 0, .slice none 0 0, .slice none 0 0, .bool false, .slice none 0 0, .bool false] :: Ow.box b_3 37 #[.bool true, .slice none 0 0, .slice none 0 0, .slice none 0 0, .slice none 0 0, .bool false, .slice none 0 0, .bool false] :: fr) h_6 := hS
        replace hK := hK.trans hk
        replace hL_s_On := hL_s_On.kp hk
        replace hL_s_Off := hL_s_Off.kp hk
        replace hL_b := hL_b.kp hk
        refine HO.val (v := .pointer (some ⟨b_3, 5, none⟩)) (want_none) rfl (q_fieldAddr fa_37_3 rfl rfl) ?_
        refine HO.sto (want_none) rfl (st_store (c' := #[.bool true, .slice none 0 0, .slice none 0 0, .slice none 0 0, .slice none 0 0, .bool true, .slice none 0 0, .bool false]) hS (i := 2) rfl to_4 rfl rfl rfl rfl (Nat.le_of_ble_eq_true rfl) rfl) ?_
        rintro h_7 ⟨hS, hk⟩
        replace hS : St F_1 (Ow.box b_1 35 #[.bool s_Exclude, vs_On, vs_Off] :: Ow.box b_2 37 #[.bool false, .slice none 0 0, .slice none 0 0, .slice none 0 0, .slice none 0 0, .bool false, .slice none 0 0, .bool false] :: Ow.box b_3 37 #[.bool true, .slice none 0 0, .slice none 0 0, .slice none 0 0, .slice none 0 0, .bool true, .slice none 0 0, .bool false] :: fr) h_7 := hS
        replace hK := hK.trans hk
        replace hL_s_On := hL_s_On.kp hk
        replace hL_s_Off := hL_s_Off.kp hk
        replace hL_b := hL_b.kp hk
        refine HO.nil (thenQ_normal (?_))
        exact ⟨F_1, true, true, rfl, rfl, rfl, rfl, rfl, rfl, rfl, hK, hS, hL_s_On, hL_s_Off, hL_b, hM⟩
      · replace hM := hM.2 c_6
        refine HW.skip (thenQ_normal (?_))
        exact ⟨F_1, s_Exclude, false, rfl, rfl, rfl, rfl, rfl, rfl, rfl, hK, hS, hL_s_On, hL_s_Off, hL_b, hM⟩
    · rintro f_2 h_8 ⟨F_2, out_0_1, out_5_1, e1, e2, e3, e6, e7, e8, e9, hK, hS, hL_s_On, hL_s_Off, hL_b, hM⟩
      unfold ref15_Apply_j2 at hM
      refine HW.fr [(1, .int .i64 kind), (2, vb), (3, .pointer (some ⟨b_1, 0, none⟩)), (6, .pointer (some ⟨b_2, 0, none⟩)), (7, .pointer (some ⟨b_3, 0, none⟩)), (8, .bool b_4), (9, .bool ex_1)] ⟨e1, e2, e3, e6, e7, e8, e9, trivial⟩ ?_
      refine HW.seq_mid (fun f h => ∃ (F' : Fz) (out_7_1 : Bool), f 1 = .int .i64 kind ∧ f 2 = vb ∧ f 3 = .pointer (some ⟨b_1, 0, none⟩) ∧ f 6 = .pointer (some ⟨b_2, 0, none⟩) ∧ f 7 = .pointer (some ⟨b_3, 0, none⟩) ∧ f 8 = .bool b_4 ∧ f 9 = .bool ex_1 ∧ Kp F h0 F' h ∧ St F' (Ow.box b_1 35 #[.bool s_Exclude, vs_On, vs_Off] :: Ow.box b_2 37 #[.bool false, .slice none 0 0, .slice none 0 0, .slice none 0 0, .slice none 0 0, .bool false, .slice none 0 0, .bool false] :: Ow.box b_3 37 #[.bool out_0_1, .slice none 0 0, .slice none 0 0, .slice none 0 0, .slice none 0 0, .bool out_5_1, .slice none 0 0, .bool out_7_1] :: fr) h ∧ (SliceF F' h 17 e_api_Addr vs_On s_On) ∧ (SliceF F' h 17 e_api_Addr vs_Off s_Off) ∧ (SliceF F' h 17 e_api_Addr vb b) ∧ ref15_Apply_j3 s_Exclude s_On s_Off kind b Q b_4 ex_1 out_0_1 out_5_1 out_7_1) ?_ ?_
      · refine HW.region ?_
        refine HO.val (v := .pointer (some ⟨b_1, 0, none⟩)) (want_none) rfl (q_fieldAddr fa_35_0 rfl rfl) ?_
        refine HO.val (v := .bool s_Exclude) (want_none) rfl (q_load to_4 rfl (Blk.cell (hS.box 0 rfl) rfl)) ?_
        refine HO.val (v := .bool s_Exclude) (want_none) rfl (q_move rfl) ?_
        rcases Bool.eq_false_or_eq_true s_Exclude with c_7 | c_7
        · replace hM := hM.1 c_7
          refine HO.val (v := .int .i64 kind) (want_by rfl rfl c_7) rfl (q_move rfl) ?_
          refine HO.val (v := .bool (decide (kind = 3))) (want_by rfl rfl c_7) rfl (q_eql rfl rfl) ?_
          refine HO.val (v := .bool (decide (kind = 3))) (want_none) rfl (q_pickK true rfl c_7 rfl) ?_
          refine HO.val (v := .pointer (some ⟨b_3, 7, none⟩)) (want_none) rfl (q_fieldAddr fa_37_5 rfl rfl) ?_
          refine HO.sto (want_none) rfl (st_store (c' := #[.bool out_0_1, .slice none 0 0, .slice none 0 0, .slice none 0 0, .slice none 0 0, .bool out_5_1, .slice none 0 0, .bool (decide (kind = 3))]) hS (i := 2) rfl to_4 rfl rfl rfl rfl (Nat.le_of_ble_eq_true rfl) rfl) ?_
          rintro h_9 ⟨hS, hk⟩
          replace hS : St F_2 (Ow.box b_1 35 #[.bool s_Exclude, vs_On, vs_Off] :: Ow.box b_2 37 #[.bool false, .slice none 0 0, .slice none 0 0, .slice none 0 0, .slice none 0 0, .bool false, .slice none 0 0, .bool false] :: Ow.box b_3 37 #[.bool out_0_1, .slice none 0 0, .slice none 0 0, .slice none 0 0, .slice none 0 0, .bool out_5_1, .slice none 0 0, .bool (decide (kind = 3))] :: fr) h_9 := hS
          replace hK := hK.trans hk
          replace hL_s_On := hL_s_On.kp hk
          replace hL_s_Off := hL_s_Off.kp hk
          replace hL_b := hL_b.kp hk
          refine HO.nil (thenQ_normal (?_))
          exact ⟨F_2, decide (kind = 3), rfl, rfl, rfl, rfl, rfl, rfl, rfl, hK, hS, hL_s_On, hL_s_Off, hL_b, hM⟩
        · replace hM := hM.2 c_7
          refine HO.past (past_by rfl rfl c_7) rfl ?_
          refine HO.past (past_by rfl rfl c_7) rfl ?_
          refine HO.val (v := .bool false) (want_none) rfl (q_pickK false rfl c_7 rfl) ?_
          refine HO.val (v := .pointer (some ⟨b_3, 7, none⟩)) (want_none) rfl (q_fieldAddr fa_37_5 rfl rfl) ?_
          refine HO.sto (want_none) rfl (st_store (c' := #[.bool out_0_1, .slice none 0 0, .slice none 0 0, .slice none 0 0, .slice none 0 0, .bool out_5_1, .slice none 0 0, .bool false]) hS (i := 2) rfl to_4 rfl rfl rfl rfl (Nat.le_of_ble_eq_true rfl) rfl) ?_
          rintro h_10 ⟨hS, hk⟩
          replace hS : St F_2 (Ow.box b_1 35 #[.bool s_Exclude, vs_On, vs_Off] :: Ow.box b_2 37 #[.bool false, .slice none 0 0, .slice none 0 0, .slice none 0 0, .slice none 0 0, .bool false, .slice none 0 0, .bool false] :: Ow.box b_3 37 #[.bool out_0_1, .slice none 0 0, .slice none 0 0, .slice none 0 0, .slice none 0 0, .bool out_5_1, .slice none 0 0, .bool false] :: fr) h_10 := hS
          replace hK := hK.trans hk
          replace hL_s_On := hL_s_On.kp hk
          replace hL_s_Off := hL_s_Off.kp hk
          replace hL_b := hL_b.kp hk
          refine HO.nil (thenQ_normal (?_))
          exact ⟨F_2, false, rfl, rfl, rfl, rfl, rfl, rfl, rfl, hK, hS, hL_s_On, hL_s_Off, hL_b, hM⟩
      · rintro f_3 h_11 ⟨F_3, out_7_1, e1, e2, e3, e6, e7, e8, e9, hK, hS, hL_s_On, hL_s_Off, hL_b, hM⟩
        unfold ref15_Apply_j3 at hM
        refine HW.fr [(1, .int .i64 kind), (2, vb), (3, .pointer (some ⟨b_1, 0, none⟩)), (6, .pointer (some ⟨b_2, 0, none⟩)), (7, .pointer (some ⟨b_3, 0, none⟩)), (8, .bool b_4), (9, .bool ex_1)] ⟨e1, e2, e3, e6, e7, e8, e9, trivial⟩ ?_
        refine HW.seq ?_
        refine HW.region ?_
        refine HO.val (v := .pointer (some ⟨b_1, 1, none⟩)) (want_none) rfl (q_fieldAddr fa_35_1 rfl rfl) ?_
        refine HO.val (v := vs_On) (want_none) rfl (q_load to_22 rfl (Blk.cell (hS.box 0 rfl) rfl)) ?_
        refine HO.val (v := .pointer (some ⟨b_1, 2, none⟩)) (want_none) rfl (q_fieldAddr fa_35_2 rfl rfl) ?_
        refine HO.val (v := vs_Off) (want_none) rfl (q_load to_22 rfl (Blk.cell (hS.box 0 rfl) rfl)) ?_
        refine HO.call (want_none) rfl (ec en_44 rfl rfl) (ref11_Or_walk (fr := (Ow.box b_1 35 #[.bool s_Exclude, vs_On, vs_Off] :: Ow.box b_2 37 #[.bool false, .slice none 0 0, .slice none 0 0, .slice none 0 0, .slice none 0 0, .bool false, .slice none 0 0, .bool false] :: Ow.box b_3 37 #[.bool out_0_1, .slice none 0 0, .slice none 0 0, .slice none 0 0, .slice none 0 0, .bool out_5_1, .slice none 0 0, .bool out_7_1] :: fr)) s_On s_Off vs_On vs_Off hS hL_s_On hL_s_Off hM) ?_
        rintro vr_1 h_12 ⟨F_4, r_1, _, rfl, hk, hS, _, _, hL_1, hM⟩
        replace hK := hK.trans hk
        replace hL_s_On := hL_s_On.kp hk
        replace hL_s_Off := hL_s_Off.kp hk
        replace hL_b := hL_b.kp hk
        refine HO.val (v := vb) (want_none) rfl (q_move rfl) ?_
        refine HO.call (want_none) rfl (ec en_28 rfl rfl) (ref11_Of_walk (fr := (Ow.box b_1 35 #[.bool s_Exclude, vs_On, vs_Off] :: Ow.box b_2 37 #[.bool false, .slice none 0 0, .slice none 0 0, .slice none 0 0, .slice none 0 0, .bool false, .slice none 0 0, .bool false] :: Ow.box b_3 37 #[.bool out_0_1, .slice none 0 0, .slice none 0 0, .slice none 0 0, .slice none 0 0, .bool out_5_1, .slice none 0 0, .bool out_7_1] :: fr)) b vb hS hL_b hM) ?_
        rintro vr_2 h_13 ⟨F_5, r_2, _, rfl, hk, hS, _, hL_2, hM⟩
        replace hK := hK.trans hk
        replace hL_s_On := hL_s_On.kp hk
        replace hL_s_Off := hL_s_Off.kp hk
        replace hL_b := hL_b.kp hk
        replace hL_1 := hL_1.kp hk
        refine HO.call (want_none) rfl (ec en_44 rfl rfl) (ref11_Or_walk (fr := (Ow.box b_1 35 #[.bool s_Exclude, vs_On, vs_Off] :: Ow.box b_2 37 #[.bool false, .slice none 0 0, .slice none 0 0, .slice none 0 0, .slice none 0 0, .bool false, .slice none 0 0, .bool false] :: Ow.box b_3 37 #[.bool out_0_1, .slice none 0 0, .slice none 0 0, .slice none 0 0, .slice none 0 0, .bool out_5_1, .slice none 0 0, .bool out_7_1] :: fr)) r_1 r_2 vr_1 vr_2 hS hL_1 hL_2 hM) ?_
        rintro vr_3 h_14 ⟨F_6, r_3, _, rfl, hk, hS, _, _, hL_3, hM⟩
        replace hK := hK.trans hk
        replace hL_s_On := hL_s_On.kp hk
        replace hL_s_Off := hL_s_Off.kp hk
        replace hL_b := hL_b.kp hk
        replace hL_1 := hL_1.kp hk
        replace hL_2 := hL_2.kp hk
        refine HO.val (v := vr_3) (want_none) rfl (q_assign rfl) ?_
        refine HO.nil (thenQ_normal (?_))
        refine HW.seq ?_
        refine HW.seq ?_
        refine HW.region ?_
        refine HO.val (v := .int .i64 0) (want_none) rfl (q_assign rfl) ?_
        refine HO.nil (thenQ_normal (?_))
        refine HW.block ?_
        obtain ⟨I_1, m_1, hI_1, hR_1⟩ := hM
        replace hS := hS.nilOwn 27 17 e_api_Addr
        replace hS := hS.nilOwn 27 17 e_api_Addr
        replace hS := hS.nilOwn 27 17 e_api_Addr
        replace hS := hS.nilOwn 27 17 e_api_Addr
        replace hS := hS.nilOwn 27 17 e_api_Addr
        replace hS : St F_6 (Ow.box b_1 35 #[.bool s_Exclude, vs_On, vs_Off] :: Ow.box b_2 37 #[.bool false, .slice none 0 0, .slice none 0 0, .slice none 0 0, .slice none 0 0, .bool false, .slice none 0 0, .bool false] :: Ow.box b_3 37 #[.bool out_0_1, .slice none 0 0, .slice none 0 0, .slice none 0 0, .slice none 0 0, .bool out_5_1, .slice none 0 0, .bool out_7_1] :: Ow.own 27 17 e_api_Addr (.slice none 0 0) ([] : List T_api_Addr) :: Ow.own 27 17 e_api_Addr (.slice none 0 0) ([] : List T_api_Addr) :: Ow.own 27 17 e_api_Addr (.slice none 0 0) ([] : List T_api_Addr) :: Ow.own 27 17 e_api_Addr (.slice none 0 0) ([] : List T_api_Addr) :: Ow.own 27 17 e_api_Addr (.slice none 0 0) ([] : List T_api_Addr) :: fr) h_14 := hS.perm2 [5, 6, 7, 4, 3, 2, 1, 0] 8 rfl rfl
        refine HW.loop (S := List T_api_Addr × List T_api_Addr × List T_api_Addr × List T_api_Addr × List T_api_Addr × Int) (fun s f h => match s with | (out_1_1, out_2_1, out_3_1, out_4_1, out_6_1, i_1) => ∃ (F' : Fz) (vout_1_1 : Value) (vout_2_1 : Value) (vout_3_1 : Value) (vout_4_1 : Value) (vout_6_1 : Value), f 1 = .int .i64 kind ∧ f 2 = vb ∧ f 3 = .pointer (some ⟨b_1, 0, none⟩) ∧ f 6 = .pointer (some ⟨b_2, 0, none⟩) ∧ f 7 = .pointer (some ⟨b_3, 0, none⟩) ∧ f 8 = .bool b_4 ∧ f 9 = .bool ex_1 ∧ f 10 = vr_3 ∧ f 11 = .int .i64 i_1 ∧ Kp F h0 F' h ∧ St F' (Ow.box b_1 35 #[.bool s_Exclude, vs_On, vs_Off] :: Ow.box b_2 37 #[.bool false, .slice none 0 0, .slice none 0 0, .slice none 0 0, .slice none 0 0, .bool false, .slice none 0 0, .bool false] :: Ow.box b_3 37 #[.bool out_0_1, vout_1_1, vout_2_1, vout_3_1, vout_4_1, .bool out_5_1, vout_6_1, .bool out_7_1] :: Ow.own 27 17 e_api_Addr vout_1_1 out_1_1 :: Ow.own 27 17 e_api_Addr vout_2_1 out_2_1 :: Ow.own 27 17 e_api_Addr vout_3_1 out_3_1 :: Ow.own 27 17 e_api_Addr vout_4_1 out_4_1 :: Ow.own 27 17 e_api_Addr vout_6_1 out_6_1 :: fr) h ∧ (SliceF F' h 17 e_api_Addr vs_On s_On) ∧ (SliceF F' h 17 e_api_Addr vs_Off s_Off) ∧ (SliceF F' h 17 e_api_Addr vb b) ∧ (SliceF F' h 17 e_api_Addr vr_1 r_1) ∧ (SliceF F' h 17 e_api_Addr vr_2 r_2) ∧ (SliceF F' h 17 e_api_Addr vr_3 r_3) ∧ I_1 (out_1_1, out_2_1, out_3_1, out_4_1, out_6_1, i_1)) m_1 ([], [], [], [], [], 0) ⟨F_6, .slice none 0 0, .slice none 0 0, .slice none 0 0, .slice none 0 0, .slice none 0 0, rfl, rfl, rfl, rfl, rfl, rfl, rfl, rfl, rfl, hK, hS, hL_s_On, hL_s_Off, hL_b, hL_1, hL_2, hL_3, hI_1⟩ ?_
        rintro ⟨out_1_1, out_2_1, out_3_1, out_4_1, out_6_1, i_1⟩ f_4 h_15 ⟨F_7, vout_1_1, vout_2_1, vout_3_1, vout_4_1, vout_6_1, e1, e2, e3, e6, e7, e8, e9, e10, e11, hK, hS, hL_s_On, hL_s_Off, hL_b, hL_1, hL_2, hL_3, hI0⟩
        obtain ⟨K_1, hKe_1⟩ : ∃ K : (List T_api_Addr) → (List T_api_Addr) → (List T_api_Addr) → (List T_api_Addr) → (List T_api_Addr) → Int → Prop, K = fun out_1_1' out_2_1' out_3_1' out_4_1' out_6_1' i_1' => I_1 (out_1_1', out_2_1', out_3_1', out_4_1', out_6_1', i_1') ∧ m_1 (out_1_1', out_2_1', out_3_1', out_4_1', out_6_1', i_1') < m_1 (out_1_1, out_2_1, out_3_1, out_4_1, out_6_1, i_1) := ⟨_, rfl⟩
        have hM : ref15_Apply_l1 s_Exclude s_On s_Off kind b Q b_4 ex_1 out_0_1 out_5_1 out_7_1 r_3 K_1 out_1_1 out_2_1 out_3_1 out_4_1 out_6_1 i_1 := by rw [hKe_1]; exact hR_1 (out_1_1, out_2_1, out_3_1, out_4_1, out_6_1, i_1) hI0
        unfold ref15_Apply_l1 at hM
        refine HW.fr [(1, .int .i64 kind), (2, vb), (3, .pointer (some ⟨b_1, 0, none⟩)), (6, .pointer (some ⟨b_2, 0, none⟩)), (7, .pointer (some ⟨b_3, 0, none⟩)), (8, .bool b_4), (9, .bool ex_1), (10, vr_3), (11, .int .i64 i_1)] ⟨e1, e2, e3, e6, e7, e8, e9, e10, e11, trivial⟩ ?_
        refine HW.seq ?_
        refine HW.seq ?_
        refine HW.region ?_
        refine HO.val (v := .int .i64 i_1) (want_none) rfl (q_move rfl) ?_
        refine HO.val (v := vr_3) (want_none) rfl (q_move rfl) ?_
        refine HO.val (v := .int .i64 (r_3.length : Int)) (want_none) rfl (q_len ts_22 (shp hL_3.is) rfl rfl) ?_
        refine HO.val (v := .bool (decide (i_1 < (r_3.length : Int)))) (want_none) rfl (q_lss rfl rfl) ?_
        refine HO.nil (thenQ_normal (?_))
        refine HW.cond (decide (i_1 < (r_3.length : Int))) rfl (fun c_8 => ?_) (fun c_8 => ?_)
        · replace hM := hM.1 (of_decide_eq_true c_8)
          refine HW.skip (thenQ_normal (?_))
          refine HW.seq ?_
          refine HW.block ?_
          refine HW.seq ?_
          refine HW.region ?_
          refine HO.val (v := vr_3) (want_none) rfl (q_move rfl) ?_
          refine HO.val (v := .int .i64 i_1) (want_none) rfl (q_move rfl) ?_
          obtain ⟨ho_1, hM⟩ := hM
          refine HO.val (v := elemPtr 17 vr_3 (i_1).toNat) (want_none) rfl (q_idx ts_22 hL_3.is rfl rfl ho_1) ?_
          refine HO.val (v := .agg (e_api_Addr (gi r_3 i_1)).toArray) (want_none) rfl (q_ldElemAgg (cs := (e_api_Addr (gi r_3 i_1))) ta_27 hL_3.is rfl ho_1 rfl) ?_
          refine HO.eff (want_none) rfl (st_alloc (c := (e_api_Addr (false, (default : Ba 16))).toArray) hS tz_27 rfl) ?_
          rintro _ h_16 ⟨b_5, rfl, hS, hk⟩
          replace hK := hK.trans hk
          replace hL_s_On := hL_s_On.kp hk
          replace hL_s_Off := hL_s_Off.kp hk
          replace hL_b := hL_b.kp hk
          replace hL_1 := hL_1.kp hk
          replace hL_2 := hL_2.kp hk
          replace hL_3 := hL_3.kp hk
          refine HO.sto (want_none) rfl (st_storeAgg (c' := (e_api_Addr (gi r_3 i_1)).toArray) hS (i := 0) rfl ta_27 rfl rfl rfl (one_e_api_Addr _) (Nat.le_of_ble_eq_true rfl) rfl) ?_
          rintro h_17 ⟨hS, hk⟩
          replace hS : St F_7 (Ow.box b_5 27 (e_api_Addr (gi r_3 i_1)).toArray :: Ow.box b_1 35 #[.bool s_Exclude, vs_On, vs_Off] :: Ow.box b_2 37 #[.bool false, .slice none 0 0, .slice none 0 0, .slice none 0 0, .slice none 0 0, .bool false, .slice none 0 0, .bool false] :: Ow.box b_3 37 #[.bool out_0_1, vout_1_1, vout_2_1, vout_3_1, vout_4_1, .bool out_5_1, vout_6_1, .bool out_7_1] :: Ow.own 27 17 e_api_Addr vout_1_1 out_1_1 :: Ow.own 27 17 e_api_Addr vout_2_1 out_2_1 :: Ow.own 27 17 e_api_Addr vout_3_1 out_3_1 :: Ow.own 27 17 e_api_Addr vout_4_1 out_4_1 :: Ow.own 27 17 e_api_Addr vout_6_1 out_6_1 :: fr) h_17 := hS
          replace hK := hK.trans hk
          replace hL_s_On := hL_s_On.kp hk
          replace hL_s_Off := hL_s_Off.kp hk
          replace hL_b := hL_b.kp hk
          replace hL_1 := hL_1.kp hk
          replace hL_2 := hL_2.kp hk
          replace hL_3 := hL_3.kp hk
          refine HO.nil (thenQ_normal (?_))
          refine HW.seq ?_
          refine HW.regionA 14 mixed (fun h => (Blk h b_5 (.cells (e_api_Addr (gi r_3 i_1)).toArray 27 (0, 0))) ∧ (Blk h b_1 (.cells #[.bool s_Exclude, vs_On, vs_Off] 35 (0, 0)))) [] (by kernel_rfl) ?_
          refine HA.val (k := 0) (v := .pointer (some ⟨b_1, 1, none⟩)) rfl rfl (by kernel_rfl) (by kernel_rfl) (want_none) rfl (fun _ ⟨c381, c368⟩ => q_fieldAddr fa_35_1 rfl rfl) ?_
          refine HA.val (k := 1) (v := vs_On) rfl rfl (by kernel_rfl) (by kernel_rfl) (want_none) rfl (fun _ ⟨c381, c368⟩ => q_load to_22 rfl (Blk.cell c368 rfl)) ?_
          refine HA.val (k := 2) (v := .agg (e_api_Addr (gi r_3 i_1)).toArray) rfl rfl (by kernel_rfl) (by kernel_rfl) (want_none) rfl (fun _ ⟨c381, c368⟩ => q_loadAgg (cs := (e_api_Addr (gi r_3 i_1))) ta_27 rfl rfl (Blk.cells (k := 17) c381 rfl)) ?_
          refine HA.val (k := 4) (v := .pointer (some ⟨b_1, 2, none⟩)) rfl rfl (by kernel_rfl) (by kernel_rfl) (want_none) rfl (fun _ ⟨c381, c368⟩ => q_fieldAddr fa_35_2 rfl rfl) ?_
          refine HA.val (k := 5) (v := vs_Off) rfl rfl (by kernel_rfl) (by kernel_rfl) (want_none) rfl (fun _ ⟨c381, c368⟩ => q_load to_22 rfl (Blk.cell c368 rfl)) ?_
          refine HA.val (k := 6) (v := .agg (e_api_Addr (gi r_3 i_1)).toArray) rfl rfl (by kernel_rfl) (by kernel_rfl) (want_none) rfl (fun _ ⟨c381, c368⟩ => q_loadAgg (cs := (e_api_Addr (gi r_3 i_1))) ta_27 rfl rfl (Blk.cells (k := 17) c381 rfl)) ?_
          refine HA.val (k := 8) (v := vb) rfl rfl (by kernel_rfl) (by kernel_rfl) (want_none) rfl (fun _ ⟨c381, c368⟩ => q_move rfl) ?_
          refine HA.val (k := 9) (v := .agg (e_api_Addr (gi r_3 i_1)).toArray) rfl rfl (by kernel_rfl) (by kernel_rfl) (want_none) rfl (fun _ ⟨c381, c368⟩ => q_loadAgg (cs := (e_api_Addr (gi r_3 i_1))) ta_27 rfl rfl (Blk.cells (k := 17) c381 rfl)) ?_
          refine HA.one (k := 3) ⟨⟨(hS.box 0 rfl), (hS.box 1 rfl)⟩, (Go.Wk.at_nil _ _)⟩ (by kernel_rfl) ?_
          refine HS.call rfl (want_none) rfl (ec en_38 rfl rfl) (ref11_Has_walk (fr := (Ow.box b_5 27 (e_api_Addr (gi r_3 i_1)).toArray :: Ow.box b_1 35 #[.bool s_Exclude, vs_On, vs_Off] :: Ow.box b_2 37 #[.bool false, .slice none 0 0, .slice none 0 0, .slice none 0 0, .slice none 0 0, .bool false, .slice none 0 0, .bool false] :: Ow.box b_3 37 #[.bool out_0_1, vout_1_1, vout_2_1, vout_3_1, vout_4_1, .bool out_5_1, vout_6_1, .bool out_7_1] :: Ow.own 27 17 e_api_Addr vout_1_1 out_1_1 :: Ow.own 27 17 e_api_Addr vout_2_1 out_2_1 :: Ow.own 27 17 e_api_Addr vout_3_1 out_3_1 :: Ow.own 27 17 e_api_Addr vout_4_1 out_4_1 :: Ow.own 27 17 e_api_Addr vout_6_1 out_6_1 :: fr)) s_On (gi r_3 i_1) vs_On hS hL_s_On hM) ?_
          rintro _ h_18 ⟨F_8, r_4, rfl, hk, hS, _, hM⟩
          replace hK := hK.trans hk
          replace hL_s_On := hL_s_On.kp hk
          replace hL_s_Off := hL_s_Off.kp hk
          replace hL_b := hL_b.kp hk
          replace hL_1 := hL_1.kp hk
          replace hL_2 := hL_2.kp hk
          replace hL_3 := hL_3.kp hk
          refine HA.one (k := 7) ⟨⟨(hS.box 0 rfl), (hS.box 1 rfl)⟩, (Go.Wk.at_nil _ _)⟩ (by kernel_rfl) ?_
          refine HS.call rfl (want_none) rfl (ec en_38 rfl rfl) (ref11_Has_walk (fr := (Ow.box b_5 27 (e_api_Addr (gi r_3 i_1)).toArray :: Ow.box b_1 35 #[.bool s_Exclude, vs_On, vs_Off] :: Ow.box b_2 37 #[.bool false, .slice none 0 0, .slice none 0 0, .slice none 0 0, .slice none 0 0, .bool false, .slice none 0 0, .bool false] :: Ow.box b_3 37 #[.bool out_0_1, vout_1_1, vout_2_1, vout_3_1, vout_4_1, .bool out_5_1, vout_6_1, .bool out_7_1] :: Ow.own 27 17 e_api_Addr vout_1_1 out_1_1 :: Ow.own 27 17 e_api_Addr vout_2_1 out_2_1 :: Ow.own 27 17 e_api_Addr vout_3_1 out_3_1 :: Ow.own 27 17 e_api_Addr vout_4_1 out_4_1 :: Ow.own 27 17 e_api_Addr vout_6_1 out_6_1 :: fr)) s_Off (gi r_3 i_1) vs_Off hS hL_s_Off hM) ?_
          rintro _ h_19 ⟨F_9, r_5, rfl, hk, hS, _, hM⟩
          replace hK := hK.trans hk
          replace hL_s_On := hL_s_On.kp hk
          replace hL_s_Off := hL_s_Off.kp hk
          replace hL_b := hL_b.kp hk
          replace hL_1 := hL_1.kp hk
          replace hL_2 := hL_2.kp hk
          replace hL_3 := hL_3.kp hk
          refine HA.one (k := 10) ⟨⟨(hS.box 0 rfl), (hS.box 1 rfl)⟩, (Go.Wk.at_nil _ _)⟩ (by kernel_rfl) ?_
          refine HS.call rfl (want_none) rfl (ec en_38 rfl rfl) (ref11_Has_walk (fr := (Ow.box b_5 27 (e_api_Addr (gi r_3 i_1)).toArray :: Ow.box b_1 35 #[.bool s_Exclude, vs_On, vs_Off] :: Ow.box b_2 37 #[.bool false, .slice none 0 0, .slice none 0 0, .slice none 0 0, .slice none 0 0, .bool false, .slice none 0 0, .bool false] :: Ow.box b_3 37 #[.bool out_0_1, vout_1_1, vout_2_1, vout_3_1, vout_4_1, .bool out_5_1, vout_6_1, .bool out_7_1] :: Ow.own 27 17 e_api_Addr vout_1_1 out_1_1 :: Ow.own 27 17 e_api_Addr vout_2_1 out_2_1 :: Ow.own 27 17 e_api_Addr vout_3_1 out_3_1 :: Ow.own 27 17 e_api_Addr vout_4_1 out_4_1 :: Ow.own 27 17 e_api_Addr vout_6_1 out_6_1 :: fr)) b (gi r_3 i_1) vb hS hL_b hM) ?_
          rintro _ h_20 ⟨F_10, r_6, rfl, hk, hS, _, hM⟩
          replace hK := hK.trans hk
          replace hL_s_On := hL_s_On.kp hk
          replace hL_s_Off := hL_s_Off.kp hk
          replace hL_b := hL_b.kp hk
          replace hL_1 := hL_1.kp hk
          replace hL_2 := hL_2.kp hk
          replace hL_3 := hL_3.kp hk
          refine HA.val (k := 11) (v := .bool r_4) rfl rfl (by kernel_rfl) (by kernel_rfl) (want_none) rfl (fun _ ⟨c381, c368⟩ => q_assign rfl) ?_
          refine HA.val (k := 12) (v := .bool r_5) rfl rfl (by kernel_rfl) (by kernel_rfl) (want_none) rfl (fun _ ⟨c381, c368⟩ => q_assign rfl) ?_
          refine HA.val (k := 13) (v := .bool r_6) rfl rfl (by kernel_rfl) (by kernel_rfl) (want_none) rfl (fun _ ⟨c381, c368⟩ => q_assign rfl) ?_
          refine HA.nil ⟨⟨(hS.box 0 rfl), (hS.box 1 rfl)⟩, (Go.Wk.at_nil _ _)⟩ (by kernel_rfl) (thenQ_normal (?_))
          refine HW.seq ?_
          refine HW.region ?_
          refine HO.val (v := .bool r_4) (want_none) rfl (q_move rfl) ?_
          refine HO.val (v := .bool r_5) (want_none) rfl (q_move rfl) ?_
          refine HO.val (v := .bool r_4) (want_none) rfl (q_assign rfl) ?_
          refine HO.val (v := .bool r_5) (want_none) rfl (q_assign rfl) ?_
          refine HO.nil (thenQ_normal (?_))
          refine HW.seq_mid (fun f h => ∃ (F' : Fz) (out_3_2 : List T_api_Addr) (nowOn_1 : Bool) (nowOff_1 : Bool) (vout_3_2 : Value), f 1 = .int .i64 kind ∧ f 2 = vb ∧ f 3 = .pointer (some ⟨b_1, 0, none⟩) ∧ f 6 = .pointer (some ⟨b_2, 0, none⟩) ∧ f 7 = .pointer (some ⟨b_3, 0, none⟩) ∧ f 8 = .bool b_4 ∧ f 9 = .bool ex_1 ∧ f 10 = vr_3 ∧ f 11 = .int .i64 i_1 ∧ f 12 = .pointer (some ⟨b_5, 0, none⟩) ∧ f 13 = .bool r_4 ∧ f 14 = .bool r_5 ∧ f 15 = .bool r_6 ∧ f 16 = .bool nowOn_1 ∧ f 17 = .bool nowOff_1 ∧ Kp F h0 F' h ∧ St F' (Ow.box b_1 35 #[.bool s_Exclude, vs_On, vs_Off] :: Ow.box b_2 37 #[.bool false, .slice none 0 0, .slice none 0 0, .slice none 0 0, .slice none 0 0, .bool false, .slice none 0 0, .bool false] :: Ow.box b_3 37 #[.bool out_0_1, vout_1_1, vout_2_1, vout_3_2, vout_4_1, .bool out_5_1, vout_6_1, .bool out_7_1] :: Ow.own 27 17 e_api_Addr vout_1_1 out_1_1 :: Ow.own 27 17 e_api_Addr vout_2_1 out_2_1 :: Ow.own 27 17 e_api_Addr vout_3_2 out_3_2 :: Ow.own 27 17 e_api_Addr vout_4_1 out_4_1 :: Ow.own 27 17 e_api_Addr vout_6_1 out_6_1 :: Ow.box b_5 27 (e_api_Addr (gi r_3 i_1)).toArray :: fr) h ∧ (SliceF F' h 17 e_api_Addr vs_On s_On) ∧ (SliceF F' h 17 e_api_Addr vs_Off s_Off) ∧ (SliceF F' h 17 e_api_Addr vb b) ∧ (SliceF F' h 17 e_api_Addr vr_1 r_1) ∧ (SliceF F' h 17 e_api_Addr vr_2 r_2) ∧ (SliceF F' h 17 e_api_Addr vr_3 r_3) ∧ ref15_Apply_j4 s_Exclude kind ex_1 r_3 out_1_1 out_2_1 out_4_1 out_6_1 i_1 K_1 r_4 r_5 r_6 out_3_2 nowOn_1 nowOff_1) ?_ ?_
          · refine HW.seq_mid (fun f h => ∃ (F' : Fz) (b_6 : Bool), f 1 = .int .i64 kind ∧ f 2 = vb ∧ f 3 = .pointer (some ⟨b_1, 0, none⟩) ∧ f 6 = .pointer (some ⟨b_2, 0, none⟩) ∧ f 7 = .pointer (some ⟨b_3, 0, none⟩) ∧ f 8 = .bool b_4 ∧ f 9 = .bool ex_1 ∧ f 10 = vr_3 ∧ f 11 = .int .i64 i_1 ∧ f 12 = .pointer (some ⟨b_5, 0, none⟩) ∧ f 13 = .bool r_4 ∧ f 14 = .bool r_5 ∧ f 15 = .bool r_6 ∧ f 16 = .bool r_4 ∧ f 17 = .bool r_5 ∧ f 84 = .bool b_6 ∧ Kp F h0 F' h ∧ St F' (Ow.box b_1 35 #[.bool s_Exclude, vs_On, vs_Off] :: Ow.box b_2 37 #[.bool false, .slice none 0 0, .slice none 0 0, .slice none 0 0, .slice none 0 0, .bool false, .slice none 0 0, .bool false] :: Ow.box b_3 37 #[.bool out_0_1, vout_1_1, vout_2_1, vout_3_1, vout_4_1, .bool out_5_1, vout_6_1, .bool out_7_1] :: Ow.own 27 17 e_api_Addr vout_1_1 out_1_1 :: Ow.own 27 17 e_api_Addr vout_2_1 out_2_1 :: Ow.own 27 17 e_api_Addr vout_3_1 out_3_1 :: Ow.own 27 17 e_api_Addr vout_4_1 out_4_1 :: Ow.own 27 17 e_api_Addr vout_6_1 out_6_1 :: Ow.box b_5 27 (e_api_Addr (gi r_3 i_1)).toArray :: fr) h ∧ (SliceF F' h 17 e_api_Addr vs_On s_On) ∧ (SliceF F' h 17 e_api_Addr vs_Off s_Off) ∧ (SliceF F' h 17 e_api_Addr vb b) ∧ (SliceF F' h 17 e_api_Addr vr_1 r_1) ∧ (SliceF F' h 17 e_api_Addr vr_2 r_2) ∧ (SliceF F' h 17 e_api_Addr vr_3 r_3) ∧ ref15_Apply_j5 s_Exclude kind ex_1 r_3 out_1_1 out_2_1 out_3_1 out_4_1 out_6_1 i_1 K_1 r_4 r_5 r_6 b_6) ?_ ?_
            · refine HW.region ?_
              refine HO.val (v := .bool b_4) (want_none) rfl (q_move rfl) ?_
              refine HO.val (v := .bool b_4) (want_none) rfl (q_move rfl) ?_
              rcases Bool.eq_false_or_eq_true b_4 with c_9 | c_9
              · replace hM := hM.1 c_9
                refine HO.val (v := .bool r_6) (want_by rfl rfl c_9) rfl (q_move rfl) ?_
                refine HO.val (v := .bool r_6) (want_none) rfl (q_pickK true rfl c_9 rfl) ?_
                refine HO.nil (thenQ_normal (?_))
                replace hS : St F_10 (Ow.box b_1 35 #[.bool s_Exclude, vs_On, vs_Off] :: Ow.box b_2 37 #[.bool false, .slice none 0 0, .slice none 0 0, .slice none 0 0, .slice none 0 0, .bool false, .slice none 0 0, .bool false] :: Ow.box b_3 37 #[.bool out_0_1, vout_1_1, vout_2_1, vout_3_1, vout_4_1, .bool out_5_1, vout_6_1, .bool out_7_1] :: Ow.own 27 17 e_api_Addr vout_1_1 out_1_1 :: Ow.own 27 17 e_api_Addr vout_2_1 out_2_1 :: Ow.own 27 17 e_api_Addr vout_3_1 out_3_1 :: Ow.own 27 17 e_api_Addr vout_4_1 out_4_1 :: Ow.own 27 17 e_api_Addr vout_6_1 out_6_1 :: Ow.box b_5 27 (e_api_Addr (gi r_3 i_1)).toArray :: fr) h_20 := hS.perm2 [1, 2, 3, 4, 5, 6, 7, 8, 0] 9 rfl rfl
                exact ⟨F_10, r_6, rfl, rfl, rfl, rfl, rfl, rfl, rfl, rfl, rfl, rfl, rfl, rfl, rfl, rfl, rfl, rfl, hK, hS, hL_s_On, hL_s_Off, hL_b, hL_1, hL_2, hL_3, hM⟩
              · replace hM := hM.2 c_9
                refine HO.past (past_by rfl rfl c_9) rfl ?_
                refine HO.val (v := .bool false) (want_none) rfl (q_pickK false rfl c_9 rfl) ?_
                refine HO.nil (thenQ_normal (?_))
                replace hS : St F_10 (Ow.box b_1 35 #[.bool s_Exclude, vs_On, vs_Off] :: Ow.box b_2 37 #[.bool false, .slice none 0 0, .slice none 0 0, .slice none 0 0, .slice none 0 0, .bool false, .slice none 0 0, .bool false] :: Ow.box b_3 37 #[.bool out_0_1, vout_1_1, vout_2_1, vout_3_1, vout_4_1, .bool out_5_1, vout_6_1, .bool out_7_1] :: Ow.own 27 17 e_api_Addr vout_1_1 out_1_1 :: Ow.own 27 17 e_api_Addr vout_2_1 out_2_1 :: Ow.own 27 17 e_api_Addr vout_3_1 out_3_1 :: Ow.own 27 17 e_api_Addr vout_4_1 out_4_1 :: Ow.own 27 17 e_api_Addr vout_6_1 out_6_1 :: Ow.box b_5 27 (e_api_Addr (gi r_3 i_1)).toArray :: fr) h_20 := hS.perm2 [1, 2, 3, 4, 5, 6, 7, 8, 0] 9 rfl rfl
                exact ⟨F_10, false, rfl, rfl, rfl, rfl, rfl, rfl, rfl, rfl, rfl, rfl, rfl, rfl, rfl, rfl, rfl, rfl, hK, hS, hL_s_On, hL_s_Off, hL_b, hL_1, hL_2, hL_3, hM⟩
            · rintro f_5 h_21 ⟨F_11, b_6, e1, e2, e3, e6, e7, e8, e9, e10, e11, e12, e13, e14, e15, e16, e17, e84, hK, hS, hL_s_On, hL_s_Off, hL_b, hL_1, hL_2, hL_3, hM⟩
              unfold ref15_Apply_j5 at hM
              refine HW.fr [(1, .int .i64 kind), (2, vb), (3, .pointer (some ⟨b_1, 0, none⟩)), (6, .pointer (some ⟨b_2, 0, none⟩)), (7, .pointer (some ⟨b_3, 0, none⟩)), (8, .bool b_4), (9, .bool ex_1), (10, vr_3), (11, .int .i64 i_1), (12, .pointer (some ⟨b_5, 0, none⟩)), (13, .bool r_4), (14, .bool r_5), (15, .bool r_6), (16, .bool r_4), (17, .bool r_5), (84, .bool b_6)] ⟨e1, e2, e3, e6, e7, e8, e9, e10, e11, e12, e13, e14, e15, e16, e17, e84, trivial⟩ ?_
              refine HW.cond b_6 rfl (fun c_10 => ?_) (fun c_10 => ?_)
              · replace hM := hM.1 c_10
                refine HW.region ?_
                refine HO.val (v := .pointer (some ⟨b_3, 3, none⟩)) (want_none) rfl (q_fieldAddr fa_37_1 rfl rfl) ?_
                refine HO.val (v := vout_3_1) (want_none) rfl (q_load to_22 rfl (Blk.cell (hS.box 2 rfl) rfl)) ?_
                refine HO.val (v := .agg (e_api_Addr (gi r_3 i_1)).toArray) (want_none) rfl (q_loadAgg (cs := (e_api_Addr (gi r_3 i_1))) ta_27 rfl rfl (Blk.cells (k := 17) (hS.box 8 rfl) rfl)) ?_
                refine HO.eff (want_none) rfl (st_lit (enc := e_api_Addr) (cells := #[.bool ((gi r_3 i_1).1), .int .u8 (b8 ((gi r_3 i_1).2) 0), .int .u8 (b8 ((gi r_3 i_1).2) 1), .int .u8 (b8 ((gi r_3 i_1).2) 2), .int .u8 (b8 ((gi r_3 i_1).2) 3), .int .u8 (b8 ((gi r_3 i_1).2) 4), .int .u8 (b8 ((gi r_3 i_1).2) 5), .int .u8 (b8 ((gi r_3 i_1).2) 6), .int .u8 (b8 ((gi r_3 i_1).2) 7), .int .u8 (b8 ((gi r_3 i_1).2) 8), .int .u8 (b8 ((gi r_3 i_1).2) 9), .int .u8 (b8 ((gi r_3 i_1).2) 10), .int .u8 (b8 ((gi r_3 i_1).2) 11), .int .u8 (b8 ((gi r_3 i_1).2) 12), .int .u8 (b8 ((gi r_3 i_1).2) 13), .int .u8 (b8 ((gi r_3 i_1).2) 14), .int .u8 (b8 ((gi r_3 i_1).2) 15)]) #[.bool false, .int .u8 0, .int .u8 0, .int .u8 0, .int .u8 0, .int .u8 0, .int .u8 0, .int .u8 0, .int .u8 0, .int .u8 0, .int .u8 0, .int .u8 0, .int .u8 0, .int .u8 0, .int .u8 0, .int .u8 0, .int .u8 0] ([(gi r_3 i_1)] : List T_api_Addr) hS tl_22 (by decide) (by decide) (by kernel_rfl) (by kernel_rfl) rfl (by intro x hx; rfl) rfl) ?_
                rintro _ h_22 ⟨b_7, rfl, hS, hk⟩
                replace hK := hK.trans hk
                replace hL_s_On := hL_s_On.kp hk
                replace hL_s_Off := hL_s_Off.kp hk
                replace hL_b := hL_b.kp hk
                replace hL_1 := hL_1.kp hk
                replace hL_2 := hL_2.kp hk
                replace hL_3 := hL_3.kp hk
                obtain ⟨ho_2, hM⟩ := hM
                refine HO.eff (want_none) rfl (st_append te_22 hS (i := 6) rfl (hS.own 0 rfl).slice rfl rfl rfl (by intro a _ u hu; simp [e_api_Addr, encI, encN, encB, encT] at hu; rcases hu with rfl | rfl | rfl | rfl | rfl | rfl | rfl | rfl | rfl | rfl | rfl | rfl | rfl | rfl | rfl | rfl | rfl <;> rfl) ho_2 (by omega)) ?_
                rintro v_1 h_23 ⟨hS, hk⟩
                replace hS : St F_11 (Ow.own 27 17 e_api_Addr (.slice (some ⟨b_7, 0, none⟩) 1 1) ([(gi r_3 i_1)] : List T_api_Addr) :: Ow.box b_1 35 #[.bool s_Exclude, vs_On, vs_Off] :: Ow.box b_2 37 #[.bool false, .slice none 0 0, .slice none 0 0, .slice none 0 0, .slice none 0 0, .bool false, .slice none 0 0, .bool false] :: Ow.box b_3 37 #[.bool out_0_1, vout_1_1, vout_2_1, vout_3_1, vout_4_1, .bool out_5_1, vout_6_1, .bool out_7_1] :: Ow.own 27 17 e_api_Addr vout_1_1 out_1_1 :: Ow.own 27 17 e_api_Addr vout_2_1 out_2_1 :: Ow.own 27 17 e_api_Addr v_1 (out_3_1 ++ ([(gi r_3 i_1)] : List T_api_Addr)) :: Ow.own 27 17 e_api_Addr vout_4_1 out_4_1 :: Ow.own 27 17 e_api_Addr vout_6_1 out_6_1 :: Ow.box b_5 27 (e_api_Addr (gi r_3 i_1)).toArray :: fr) h_23 := hS
                replace hK := hK.trans hk
                replace hL_s_On := hL_s_On.kp hk
                replace hL_s_Off := hL_s_Off.kp hk
                replace hL_b := hL_b.kp hk
                replace hL_1 := hL_1.kp hk
                replace hL_2 := hL_2.kp hk
                replace hL_3 := hL_3.kp hk
                refine HO.val (v := .bool true) (want_none) rfl (q_assign rfl) ?_
                refine HO.val (v := .bool false) (want_none) rfl (q_assign rfl) ?_
                refine HO.val (v := .pointer (some ⟨b_3, 3, none⟩)) (want_none) rfl (q_fieldAddr fa_37_1 rfl rfl) ?_
                refine HO.sto (want_none) rfl (st_store (c' := #[.bool out_0_1, vout_1_1, vout_2_1, v_1, vout_4_1, .bool out_5_1, vout_6_1, .bool out_7_1]) hS (i := 3) rfl to_22 rfl rfl (shp (hS.own 6 rfl).slice).cells (shp (hS.own 6 rfl).slice).one (Nat.le_of_ble_eq_true rfl) rfl) ?_
                rintro h_24 ⟨hS, hk⟩
                replace hS : St F_11 (Ow.own 27 17 e_api_Addr (.slice (some ⟨b_7, 0, none⟩) 1 1) ([(gi r_3 i_1)] : List T_api_Addr) :: Ow.box b_1 35 #[.bool s_Exclude, vs_On, vs_Off] :: Ow.box b_2 37 #[.bool false, .slice none 0 0, .slice none 0 0, .slice none 0 0, .slice none 0 0, .bool false, .slice none 0 0, .bool false] :: Ow.box b_3 37 #[.bool out_0_1, vout_1_1, vout_2_1, v_1, vout_4_1, .bool out_5_1, vout_6_1, .bool out_7_1] :: Ow.own 27 17 e_api_Addr vout_1_1 out_1_1 :: Ow.own 27 17 e_api_Addr vout_2_1 out_2_1 :: Ow.own 27 17 e_api_Addr v_1 (out_3_1 ++ ([(gi r_3 i_1)] : List T_api_Addr)) :: Ow.own 27 17 e_api_Addr vout_4_1 out_4_1 :: Ow.own 27 17 e_api_Addr vout_6_1 out_6_1 :: Ow.box b_5 27 (e_api_Addr (gi r_3 i_1)).toArray :: fr) h_24 := hS
                replace hK := hK.trans hk
                replace hL_s_On := hL_s_On.kp hk
                replace hL_s_Off := hL_s_Off.kp hk
                replace hL_b := hL_b.kp hk
                replace hL_1 := hL_1.kp hk
                replace hL_2 := hL_2.kp hk
                replace hL_3 := hL_3.kp hk
                refine HO.nil (thenQ_normal (?_))
                replace hS : St F_11 (Ow.box b_1 35 #[.bool s_Exclude, vs_On, vs_Off] :: Ow.box b_2 37 #[.bool false, .slice none 0 0, .slice none 0 0, .slice none 0 0, .slice none 0 0, .bool false, .slice none 0 0, .bool false] :: Ow.box b_3 37 #[.bool out_0_1, vout_1_1, vout_2_1, v_1, vout_4_1, .bool out_5_1, vout_6_1, .bool out_7_1] :: Ow.own 27 17 e_api_Addr vout_1_1 out_1_1 :: Ow.own 27 17 e_api_Addr vout_2_1 out_2_1 :: Ow.own 27 17 e_api_Addr v_1 (out_3_1 ++ ([(gi r_3 i_1)] : List T_api_Addr)) :: Ow.own 27 17 e_api_Addr vout_4_1 out_4_1 :: Ow.own 27 17 e_api_Addr vout_6_1 out_6_1 :: Ow.box b_5 27 (e_api_Addr (gi r_3 i_1)).toArray :: fr) h_24 := hS.perm2 [1, 2, 3, 4, 5, 6, 7, 8, 9] 10 rfl rfl
                exact ⟨F_11, out_3_1 ++ ([(gi r_3 i_1)] : List T_api_Addr), true, false, v_1, rfl, rfl, rfl, rfl, rfl, rfl, rfl, rfl, rfl, rfl, rfl, rfl, rfl, rfl, rfl, hK, hS, hL_s_On, hL_s_Off, hL_b, hL_1, hL_2, hL_3, hM⟩
              · replace hM := hM.2 c_10
                refine HW.skip (thenQ_normal (?_))
                exact ⟨F_11, out_3_1, r_4, r_5, vout_3_1, rfl, rfl, rfl, rfl, rfl, rfl, rfl, rfl, rfl, rfl, rfl, rfl, rfl, rfl, rfl, hK, hS, hL_s_On, hL_s_Off, hL_b, hL_1, hL_2, hL_3, hM⟩
          · rintro f_6 h_25 ⟨F_12, out_3_2, nowOn_1, nowOff_1, vout_3_2, e1, e2, e3, e6, e7, e8, e9, e10, e11, e12, e13, e14, e15, e16, e17, hK, hS, hL_s_On, hL_s_Off, hL_b, hL_1, hL_2, hL_3, hM⟩
            unfold ref15_Apply_j4 at hM
            refine HW.fr [(1, .int .i64 kind), (2, vb), (3, .pointer (some ⟨b_1, 0, none⟩)), (6, .pointer (some ⟨b_2, 0, none⟩)), (7, .pointer (some ⟨b_3, 0, none⟩)), (8, .bool b_4), (9, .bool ex_1), (10, vr_3), (11, .int .i64 i_1), (12, .pointer (some ⟨b_5, 0, none⟩)), (13, .bool r_4), (14, .bool r_5), (15, .bool r_6), (16, .bool nowOn_1), (17, .bool nowOff_1)] ⟨e1, e2, e3, e6, e7, e8, e9, e10, e11, e12, e13, e14, e15, e16, e17, trivial⟩ ?_
            refine HW.seq_mid (fun f h => ∃ (F' : Fz) (nowOn_2 : Bool) (nowOff_2 : Bool), f 1 = .int .i64 kind ∧ f 2 = vb ∧ f 3 = .pointer (some ⟨b_1, 0, none⟩) ∧ f 6 = .pointer (some ⟨b_2, 0, none⟩) ∧ f 7 = .pointer (some ⟨b_3, 0, none⟩) ∧ f 8 = .bool b_4 ∧ f 9 = .bool ex_1 ∧ f 10 = vr_3 ∧ f 11 = .int .i64 i_1 ∧ f 12 = .pointer (some ⟨b_5, 0, none⟩) ∧ f 13 = .bool r_4 ∧ f 14 = .bool r_5 ∧ f 15 = .bool r_6 ∧ f 16 = .bool nowOn_2 ∧ f 17 = .bool nowOff_2 ∧ Kp F h0 F' h ∧ St F' (Ow.box b_1 35 #[.bool s_Exclude, vs_On, vs_Off] :: Ow.box b_2 37 #[.bool false, .slice none 0 0, .slice none 0 0, .slice none 0 0, .slice none 0 0, .bool false, .slice none 0 0, .bool false] :: Ow.box b_3 37 #[.bool out_0_1, vout_1_1, vout_2_1, vout_3_2, vout_4_1, .bool out_5_1, vout_6_1, .bool out_7_1] :: Ow.own 27 17 e_api_Addr vout_1_1 out_1_1 :: Ow.own 27 17 e_api_Addr vout_2_1 out_2_1 :: Ow.own 27 17 e_api_Addr vout_3_2 out_3_2 :: Ow.own 27 17 e_api_Addr vout_4_1 out_4_1 :: Ow.own 27 17 e_api_Addr vout_6_1 out_6_1 :: Ow.box b_5 27 (e_api_Addr (gi r_3 i_1)).toArray :: fr) h ∧ (SliceF F' h 17 e_api_Addr vs_On s_On) ∧ (SliceF F' h 17 e_api_Addr vs_Off s_Off) ∧ (SliceF F' h 17 e_api_Addr vb b) ∧ (SliceF F' h 17 e_api_Addr vr_1 r_1) ∧ (SliceF F' h 17 e_api_Addr vr_2 r_2) ∧ (SliceF F' h 17 e_api_Addr vr_3 r_3) ∧ ref15_Apply_j6 s_Exclude kind ex_1 r_3 out_1_1 out_2_1 out_4_1 out_6_1 i_1 K_1 r_4 r_5 r_6 out_3_2 nowOn_2 nowOff_2) ?_ ?_
            · refine HW.seq ?_
              refine HW.region ?_
              refine HO.val (v := .bool ex_1) (want_none) rfl (q_move rfl) ?_
              refine HO.val (v := .bool ex_1) (want_none) rfl (q_move rfl) ?_
              rcases Bool.eq_false_or_eq_true ex_1 with c_11 | c_11
              · replace hM := hM.1 c_11
                refine HO.val (v := .bool r_6) (want_by rfl rfl c_11) rfl (q_move rfl) ?_
                refine HO.val (v := .bool (!r_6)) (want_by rfl rfl c_11) rfl (q_not rfl) ?_
                refine HO.val (v := .bool (!r_6)) (want_none) rfl (q_pickK true rfl c_11 rfl) ?_
                refine HO.nil (thenQ_normal (?_))
                refine HW.cond (!r_6) rfl (fun c_12 => ?_) (fun c_12 => ?_)
                · replace hM := hM.1 c_12
                  refine HW.region ?_
                  refine HO.val (v := .bool false) (want_none) rfl (q_assign rfl) ?_
                  refine HO.val (v := .bool false) (want_none) rfl (q_assign rfl) ?_
                  refine HO.nil (thenQ_normal (?_))
                  exact ⟨F_12, false, false, rfl, rfl, rfl, rfl, rfl, rfl, rfl, rfl, rfl, rfl, rfl, rfl, rfl, rfl, rfl, hK, hS, hL_s_On, hL_s_Off, hL_b, hL_1, hL_2, hL_3, hM⟩
                · replace hM := hM.2 c_12
                  refine HW.skip (thenQ_normal (?_))
                  exact ⟨F_12, nowOn_1, nowOff_1, rfl, rfl, rfl, rfl, rfl, rfl, rfl, rfl, rfl, rfl, rfl, rfl, rfl, rfl, rfl, hK, hS, hL_s_On, hL_s_Off, hL_b, hL_1, hL_2, hL_3, hM⟩
              · replace hM := hM.2 c_11
                refine HO.past (past_by rfl rfl c_11) rfl ?_
                refine HO.past (past_by rfl rfl c_11) rfl ?_
                refine HO.val (v := .bool false) (want_none) rfl (q_pickK false rfl c_11 rfl) ?_
                refine HO.nil (thenQ_normal (?_))
                refine HW.condF rfl ?_
                refine HW.skip (thenQ_normal (?_))
                exact ⟨F_12, nowOn_1, nowOff_1, rfl, rfl, rfl, rfl, rfl, rfl, rfl, rfl, rfl, rfl, rfl, rfl, rfl, rfl, rfl, hK, hS, hL_s_On, hL_s_Off, hL_b, hL_1, hL_2, hL_3, hM⟩
            · rintro f_7 h_26 ⟨F_13, nowOn_2, nowOff_2, e1, e2, e3, e6, e7, e8, e9, e10, e11, e12, e13, e14, e15, e16, e17, hK, hS, hL_s_On, hL_s_Off, hL_b, hL_1, hL_2, hL_3, hM⟩
              unfold ref15_Apply_j6 at hM
              refine HW.fr [(1, .int .i64 kind), (2, vb), (3, .pointer (some ⟨b_1, 0, none⟩)), (6, .pointer (some ⟨b_2, 0, none⟩)), (7, .pointer (some ⟨b_3, 0, none⟩)), (8, .bool b_4), (9, .bool ex_1), (10, vr_3), (11, .int .i64 i_1), (12, .pointer (some ⟨b_5, 0, none⟩)), (13, .bool r_4), (14, .bool r_5), (15, .bool r_6), (16, .bool nowOn_2), (17, .bool nowOff_2)] ⟨e1, e2, e3, e6, e7, e8, e9, e10, e11, e12, e13, e14, e15, e16, e17, trivial⟩ ?_
              refine HW.seq_mid (fun f h => ∃ (F' : Fz) (nowOff_3 : Bool), f 1 = .int .i64 kind ∧ f 2 = vb ∧ f 3 = .pointer (some ⟨b_1, 0, none⟩) ∧ f 6 = .pointer (some ⟨b_2, 0, none⟩) ∧ f 7 = .pointer (some ⟨b_3, 0, none⟩) ∧ f 8 = .bool b_4 ∧ f 9 = .bool ex_1 ∧ f 10 = vr_3 ∧ f 11 = .int .i64 i_1 ∧ f 12 = .pointer (some ⟨b_5, 0, none⟩) ∧ f 13 = .bool r_4 ∧ f 14 = .bool r_5 ∧ f 15 = .bool r_6 ∧ f 16 = .bool nowOn_2 ∧ f 17 = .bool nowOff_3 ∧ Kp F h0 F' h ∧ St F' (Ow.box b_1 35 #[.bool s_Exclude, vs_On, vs_Off] :: Ow.box b_2 37 #[.bool false, .slice none 0 0, .slice none 0 0, .slice none 0 0, .slice none 0 0, .bool false, .slice none 0 0, .bool false] :: Ow.box b_3 37 #[.bool out_0_1, vout_1_1, vout_2_1, vout_3_2, vout_4_1, .bool out_5_1, vout_6_1, .bool out_7_1] :: Ow.own 27 17 e_api_Addr vout_1_1 out_1_1 :: Ow.own 27 17 e_api_Addr vout_2_1 out_2_1 :: Ow.own 27 17 e_api_Addr vout_3_2 out_3_2 :: Ow.own 27 17 e_api_Addr vout_4_1 out_4_1 :: Ow.own 27 17 e_api_Addr vout_6_1 out_6_1 :: Ow.box b_5 27 (e_api_Addr (gi r_3 i_1)).toArray :: fr) h ∧ (SliceF F' h 17 e_api_Addr vs_On s_On) ∧ (SliceF F' h 17 e_api_Addr vs_Off s_Off) ∧ (SliceF F' h 17 e_api_Addr vb b) ∧ (SliceF F' h 17 e_api_Addr vr_1 r_1) ∧ (SliceF F' h 17 e_api_Addr vr_2 r_2) ∧ (SliceF F' h 17 e_api_Addr vr_3 r_3) ∧ ref15_Apply_j7 s_Exclude kind ex_1 r_3 out_1_1 out_2_1 out_4_1 out_6_1 i_1 K_1 r_4 r_5 r_6 out_3_2 nowOn_2 nowOff_3) ?_ ?_
              · refine HW.seq ?_
                refine HW.region ?_
                refine HO.val (v := .bool r_6) (want_none) rfl (q_move rfl) ?_
                refine HO.val (v := .bool r_6) (want_none) rfl (q_move rfl) ?_
                rcases Bool.eq_false_or_eq_true r_6 with c_13 | c_13
                · replace hM := hM.1 c_13
                  refine HO.val (v := .bool r_4) (want_by rfl rfl c_13) rfl (q_move rfl) ?_
                  refine HO.val (v := .bool (!r_4)) (want_by rfl rfl c_13) rfl (q_not rfl) ?_
                  refine HO.val (v := .bool (!r_4)) (want_none) rfl (q_pickK true rfl c_13 rfl) ?_
                  refine HO.val (v := .bool (!r_4)) (want_none) rfl (q_move rfl) ?_
                  rcases Bool.eq_false_or_eq_true (!r_4) with c_14 | c_14
                  · replace hM := hM.1 c_14
                    refine HO.val (v := .bool r_5) (want_by rfl rfl c_14) rfl (q_move rfl) ?_
                    refine HO.val (v := .bool (!r_5)) (want_by rfl rfl c_14) rfl (q_not rfl) ?_
                    refine HO.val (v := .bool (!r_5)) (want_none) rfl (q_pickK true rfl c_14 rfl) ?_
                    refine HO.val (v := .bool (!r_5)) (want_none) rfl (q_move rfl) ?_
                    rcases Bool.eq_false_or_eq_true (!r_5) with c_15 | c_15
                    · replace hM := hM.1 c_15
                      refine HO.val (v := .pointer (some ⟨b_1, 0, none⟩)) (want_by rfl rfl c_15) rfl (q_fieldAddr fa_35_0 rfl rfl) ?_
                      refine HO.val (v := .bool s_Exclude) (want_by rfl rfl c_15) rfl (q_load to_4 rfl (Blk.cell (hS.box 0 rfl) rfl)) ?_
                      refine HO.val (v := .bool (!s_Exclude)) (want_by rfl rfl c_15) rfl (q_not rfl) ?_
                      refine HO.val (v := .bool (!s_Exclude)) (want_none) rfl (q_pickK true rfl c_15 rfl) ?_
                      refine HO.val (v := .bool (!s_Exclude)) (want_none) rfl (q_move rfl) ?_
                      rcases Bool.eq_false_or_eq_true (!s_Exclude) with c_16 | c_16
                      · replace hM := hM.1 c_16
                        refine HO.val (v := .bool ex_1) (want_by rfl rfl c_16) rfl (q_move rfl) ?_
                        refine HO.val (v := .bool ex_1) (want_none) rfl (q_pickK true rfl c_16 rfl) ?_
                        refine HO.nil (thenQ_normal (?_))
                        refine HW.cond ex_1 rfl (fun c_17 => ?_) (fun c_17 => ?_)
                        · replace hM := hM.1 c_17
                          refine HW.region ?_
                          refine HO.val (v := .bool true) (want_none) rfl (q_assign rfl) ?_
                          refine HO.nil (thenQ_normal (?_))
                          exact ⟨F_13, true, rfl, rfl, rfl, rfl, rfl, rfl, rfl, rfl, rfl, rfl, rfl, rfl, rfl, rfl, rfl, hK, hS, hL_s_On, hL_s_Off, hL_b, hL_1, hL_2, hL_3, hM⟩
                        · replace hM := hM.2 c_17
                          refine HW.skip (thenQ_normal (?_))
                          exact ⟨F_13, nowOff_2, rfl, rfl, rfl, rfl, rfl, rfl, rfl, rfl, rfl, rfl, rfl, rfl, rfl, rfl, rfl, hK, hS, hL_s_On, hL_s_Off, hL_b, hL_1, hL_2, hL_3, hM⟩
                      · replace hM := hM.2 c_16
                        refine HO.past (past_by rfl rfl c_16) rfl ?_
                        refine HO.val (v := .bool false) (want_none) rfl (q_pickK false rfl c_16 rfl) ?_
                        refine HO.nil (thenQ_normal (?_))
                        refine HW.condF rfl ?_
                        refine HW.skip (thenQ_normal (?_))
                        exact ⟨F_13, nowOff_2, rfl, rfl, rfl, rfl, rfl, rfl, rfl, rfl, rfl, rfl, rfl, rfl, rfl, rfl, rfl, hK, hS, hL_s_On, hL_s_Off, hL_b, hL_1, hL_2, hL_3, hM⟩
                    · replace hM := hM.2 c_15
                      refine HO.past (past_by rfl rfl c_15) rfl ?_
                      refine HO.past (past_by rfl rfl c_15) rfl ?_
                      refine HO.past (past_by rfl rfl c_15) rfl ?_
                      refine HO.val (v := .bool false) (want_none) rfl (q_pickK false rfl c_15 rfl) ?_
                      refine HO.val (v := .bool false) (want_none) rfl (q_move rfl) ?_
                      refine HO.past (past_some rfl rfl) rfl ?_
                      refine HO.val (v := .bool false) (want_none) rfl (q_pick rfl rfl) ?_
                      refine HO.nil (thenQ_normal (?_))
                      refine HW.condF rfl ?_
                      refine HW.skip (thenQ_normal (?_))
                      exact ⟨F_13, nowOff_2, rfl, rfl, rfl, rfl, rfl, rfl, rfl, rfl, rfl, rfl, rfl, rfl, rfl, rfl, rfl, hK, hS, hL_s_On, hL_s_Off, hL_b, hL_1, hL_2, hL_3, hM⟩
                  · replace hM := hM.2 c_14
                    refine HO.past (past_by rfl rfl c_14) rfl ?_
                    refine HO.past (past_by rfl rfl c_14) rfl ?_
                    refine HO.val (v := .bool false) (want_none) rfl (q_pickK false rfl c_14 rfl) ?_
                    refine HO.val (v := .bool false) (want_none) rfl (q_move rfl) ?_
                    refine HO.past (past_some rfl rfl) rfl ?_
                    refine HO.past (past_some rfl rfl) rfl ?_
                    refine HO.past (past_some rfl rfl) rfl ?_
                    refine HO.val (v := .bool false) (want_none) rfl (q_pick rfl rfl) ?_
                    refine HO.val (v := .bool false) (want_none) rfl (q_move rfl) ?_
                    refine HO.past (past_some rfl rfl) rfl ?_
                    refine HO.val (v := .bool false) (want_none) rfl (q_pick rfl rfl) ?_
                    refine HO.nil (thenQ_normal (?_))
                    refine HW.condF rfl ?_
                    refine HW.skip (thenQ_normal (?_))
                    exact ⟨F_13, nowOff_2, rfl, rfl, rfl, rfl, rfl, rfl, rfl, rfl, rfl, rfl, rfl, rfl, rfl, rfl, rfl, hK, hS, hL_s_On, hL_s_Off, hL_b, hL_1, hL_2, hL_3, hM⟩
                · replace hM := hM.2 c_13
                  refine HO.past (past_by rfl rfl c_13) rfl ?_
                  refine HO.past (past_by rfl rfl c_13) rfl ?_
                  refine HO.val (v := .bool false) (want_none) rfl (q_pickK false rfl c_13 rfl) ?_
                  refine HO.val (v := .bool false) (want_none) rfl (q_move rfl) ?_
                  refine HO.past (past_some rfl rfl) rfl ?_
                  refine HO.past (past_some rfl rfl) rfl ?_
                  refine HO.val (v := .bool false) (want_none) rfl (q_pick rfl rfl) ?_
                  refine HO.val (v := .bool false) (want_none) rfl (q_move rfl) ?_
                  refine HO.past (past_some rfl rfl) rfl ?_
                  refine HO.past (past_some rfl rfl) rfl ?_
                  refine HO.past (past_some rfl rfl) rfl ?_
                  refine HO.val (v := .bool false) (want_none) rfl (q_pick rfl rfl) ?_
                  refine HO.val (v := .bool false) (want_none) rfl (q_move rfl) ?_
                  refine HO.past (past_some rfl rfl) rfl ?_
                  refine HO.val (v := .bool false) (want_none) rfl (q_pick rfl rfl) ?_
                  refine HO.nil (thenQ_normal (?_))
                  refine HW.condF rfl ?_
                  refine HW.skip (thenQ_normal (?_))
                  exact ⟨F_13, nowOff_2, rfl, rfl, rfl, rfl, rfl, rfl, rfl, rfl, rfl, rfl, rfl, rfl, rfl, rfl, rfl, hK, hS, hL_s_On, hL_s_Off, hL_b, hL_1, hL_2, hL_3, hM⟩
              · rintro f_8 h_27 ⟨F_14, nowOff_3, e1, e2, e3, e6, e7, e8, e9, e10, e11, e12, e13, e14, e15, e16, e17, hK, hS, hL_s_On, hL_s_Off, hL_b, hL_1, hL_2, hL_3, hM⟩
                unfold ref15_Apply_j7 at hM
                refine HW.fr [(1, .int .i64 kind), (2, vb), (3, .pointer (some ⟨b_1, 0, none⟩)), (6, .pointer (some ⟨b_2, 0, none⟩)), (7, .pointer (some ⟨b_3, 0, none⟩)), (8, .bool b_4), (9, .bool ex_1), (10, vr_3), (11, .int .i64 i_1), (12, .pointer (some ⟨b_5, 0, none⟩)), (13, .bool r_4), (14, .bool r_5), (15, .bool r_6), (16, .bool nowOn_2), (17, .bool nowOff_3)] ⟨e1, e2, e3, e6, e7, e8, e9, e10, e11, e12, e13, e14, e15, e16, e17, trivial⟩ ?_
                refine HW.seq_mid (fun f h => ∃ (F' : Fz) (out_3_3 : List T_api_Addr) (out_4_2 : List T_api_Addr) (nowOn_3 : Bool) (vout_3_3 : Value) (vout_4_2 : Value), f 1 = .int .i64 kind ∧ f 2 = vb ∧ f 3 = .pointer (some ⟨b_1, 0, none⟩) ∧ f 6 = .pointer (some ⟨b_2, 0, none⟩) ∧ f 7 = .pointer (some ⟨b_3, 0, none⟩) ∧ f 8 = .bool b_4 ∧ f 9 = .bool ex_1 ∧ f 10 = vr_3 ∧ f 11 = .int .i64 i_1 ∧ f 12 = .pointer (some ⟨b_5, 0, none⟩) ∧ f 13 = .bool r_4 ∧ f 14 = .bool r_5 ∧ f 15 = .bool r_6 ∧ f 16 = .bool nowOn_3 ∧ f 17 = .bool nowOff_3 ∧ Kp F h0 F' h ∧ St F' (Ow.box b_1 35 #[.bool s_Exclude, vs_On, vs_Off] :: Ow.box b_2 37 #[.bool false, .slice none 0 0, .slice none 0 0, .slice none 0 0, .slice none 0 0, .bool false, .slice none 0 0, .bool false] :: Ow.box b_3 37 #[.bool out_0_1, vout_1_1, vout_2_1, vout_3_3, vout_4_2, .bool out_5_1, vout_6_1, .bool out_7_1] :: Ow.own 27 17 e_api_Addr vout_1_1 out_1_1 :: Ow.own 27 17 e_api_Addr vout_2_1 out_2_1 :: Ow.own 27 17 e_api_Addr vout_3_3 out_3_3 :: Ow.own 27 17 e_api_Addr vout_4_2 out_4_2 :: Ow.own 27 17 e_api_Addr vout_6_1 out_6_1 :: Ow.box b_5 27 (e_api_Addr (gi r_3 i_1)).toArray :: fr) h ∧ (SliceF F' h 17 e_api_Addr vs_On s_On) ∧ (SliceF F' h 17 e_api_Addr vs_Off s_Off) ∧ (SliceF F' h 17 e_api_Addr vb b) ∧ (SliceF F' h 17 e_api_Addr vr_1 r_1) ∧ (SliceF F' h 17 e_api_Addr vr_2 r_2) ∧ (SliceF F' h 17 e_api_Addr vr_3 r_3) ∧ ref15_Apply_j8 s_Exclude kind r_3 out_1_1 out_2_1 out_6_1 i_1 K_1 r_4 r_5 r_6 nowOff_3 out_3_3 out_4_2 nowOn_3) ?_ ?_
                · refine HW.seq_mid (fun f h => ∃ (F' : Fz) (b_8 : Bool), f 1 = .int .i64 kind ∧ f 2 = vb ∧ f 3 = .pointer (some ⟨b_1, 0, none⟩) ∧ f 6 = .pointer (some ⟨b_2, 0, none⟩) ∧ f 7 = .pointer (some ⟨b_3, 0, none⟩) ∧ f 8 = .bool b_4 ∧ f 9 = .bool ex_1 ∧ f 10 = vr_3 ∧ f 11 = .int .i64 i_1 ∧ f 12 = .pointer (some ⟨b_5, 0, none⟩) ∧ f 13 = .bool r_4 ∧ f 14 = .bool r_5 ∧ f 15 = .bool r_6 ∧ f 16 = .bool nowOn_2 ∧ f 17 = .bool nowOff_3 ∧ f 132 = .bool b_8 ∧ Kp F h0 F' h ∧ St F' (Ow.box b_1 35 #[.bool s_Exclude, vs_On, vs_Off] :: Ow.box b_2 37 #[.bool false, .slice none 0 0, .slice none 0 0, .slice none 0 0, .slice none 0 0, .bool false, .slice none 0 0, .bool false] :: Ow.box b_3 37 #[.bool out_0_1, vout_1_1, vout_2_1, vout_3_2, vout_4_1, .bool out_5_1, vout_6_1, .bool out_7_1] :: Ow.own 27 17 e_api_Addr vout_1_1 out_1_1 :: Ow.own 27 17 e_api_Addr vout_2_1 out_2_1 :: Ow.own 27 17 e_api_Addr vout_3_2 out_3_2 :: Ow.own 27 17 e_api_Addr vout_4_1 out_4_1 :: Ow.own 27 17 e_api_Addr vout_6_1 out_6_1 :: Ow.box b_5 27 (e_api_Addr (gi r_3 i_1)).toArray :: fr) h ∧ (SliceF F' h 17 e_api_Addr vs_On s_On) ∧ (SliceF F' h 17 e_api_Addr vs_Off s_Off) ∧ (SliceF F' h 17 e_api_Addr vb b) ∧ (SliceF F' h 17 e_api_Addr vr_1 r_1) ∧ (SliceF F' h 17 e_api_Addr vr_2 r_2) ∧ (SliceF F' h 17 e_api_Addr vr_3 r_3) ∧ ref15_Apply_j9 s_Exclude kind r_3 out_1_1 out_2_1 out_4_1 out_6_1 i_1 K_1 r_4 r_5 r_6 out_3_2 nowOn_2 nowOff_3 b_8) ?_ ?_
                  · refine HW.region ?_
                    refine HO.val (v := .bool r_6) (want_none) rfl (q_move rfl) ?_
                    refine HO.val (v := .bool r_6) (want_none) rfl (q_move rfl) ?_
                    rcases Bool.eq_false_or_eq_true r_6 with c_18 | c_18
                    · replace hM := hM.1 c_18
                      refine HO.val (v := .bool r_4) (want_by rfl rfl c_18) rfl (q_move rfl) ?_
                      refine HO.val (v := .bool (!r_4)) (want_by rfl rfl c_18) rfl (q_not rfl) ?_
                      refine HO.val (v := .bool (!r_4)) (want_none) rfl (q_pickK true rfl c_18 rfl) ?_
                      refine HO.val (v := .bool (!r_4)) (want_none) rfl (q_move rfl) ?_
                      rcases Bool.eq_false_or_eq_true (!r_4) with c_19 | c_19
                      · replace hM := hM.1 c_19
                        refine HO.val (v := .bool r_5) (want_by rfl rfl c_19) rfl (q_move rfl) ?_
                        refine HO.val (v := .bool (!r_5)) (want_by rfl rfl c_19) rfl (q_not rfl) ?_
                        refine HO.val (v := .bool (!r_5)) (want_none) rfl (q_pickK true rfl c_19 rfl) ?_
                        refine HO.val (v := .bool (!r_5)) (want_none) rfl (q_move rfl) ?_
                        rcases Bool.eq_false_or_eq_true (!r_5) with c_20 | c_20
                        · replace hM := hM.1 c_20
                          refine HO.val (v := .pointer (some ⟨b_1, 0, none⟩)) (want_by rfl rfl c_20) rfl (q_fieldAddr fa_35_0 rfl rfl) ?_
                          refine HO.val (v := .bool s_Exclude) (want_by rfl rfl c_20) rfl (q_load to_4 rfl (Blk.cell (hS.box 0 rfl) rfl)) ?_
                          refine HO.val (v := .bool s_Exclude) (want_none) rfl (q_pickK true rfl c_20 rfl) ?_
                          refine HO.val (v := .bool s_Exclude) (want_none) rfl (q_move rfl) ?_
                          rcases Bool.eq_false_or_eq_true s_Exclude with c_21 | c_21
                          · replace hM := hM.1 c_21
                            refine HO.val (v := .bool ex_1) (want_by rfl rfl c_21) rfl (q_move rfl) ?_
                            refine HO.val (v := .bool ex_1) (want_by rfl rfl c_21) rfl (q_move rfl) ?_
                            rcases Bool.eq_false_or_eq_true ex_1 with c_22 | c_22
                            · replace hM := hM.1 c_22
                              refine HO.past (past_by rfl rfl c_22) rfl ?_
                              refine HO.past (past_by rfl rfl c_22) rfl ?_
                              refine HO.val (v := .bool true) (want_by rfl rfl c_21) rfl (q_pickK true rfl c_22 rfl) ?_
                              refine HO.val (v := .bool true) (want_none) rfl (q_pickK true rfl c_21 rfl) ?_
                              refine HO.nil (thenQ_normal (?_))
                              exact ⟨F_14, true, rfl, rfl, rfl, rfl, rfl, rfl, rfl, rfl, rfl, rfl, rfl, rfl, rfl, rfl, rfl, rfl, hK, hS, hL_s_On, hL_s_Off, hL_b, hL_1, hL_2, hL_3, hM⟩
                            · replace hM := hM.2 c_22
                              refine HO.val (v := .int .i64 kind) (want_by rfl rfl c_22) rfl (q_move rfl) ?_
                              refine HO.val (v := .bool (decide (kind = 6))) (want_by rfl rfl c_22) rfl (q_eql rfl rfl) ?_
                              refine HO.val (v := .bool (decide (kind = 6))) (want_by rfl rfl c_21) rfl (q_pickK false rfl c_22 rfl) ?_
                              refine HO.val (v := .bool (decide (kind = 6))) (want_none) rfl (q_pickK true rfl c_21 rfl) ?_
                              refine HO.nil (thenQ_normal (?_))
                              exact ⟨F_14, decide (kind = 6), rfl, rfl, rfl, rfl, rfl, rfl, rfl, rfl, rfl, rfl, rfl, rfl, rfl, rfl, rfl, rfl, hK, hS, hL_s_On, hL_s_Off, hL_b, hL_1, hL_2, hL_3, hM⟩
                          · replace hM := hM.2 c_21
                            refine HO.past (past_by rfl rfl c_21) rfl ?_
                            refine HO.past (past_by rfl rfl c_21) rfl ?_
                            refine HO.past (past_undef rfl rfl) rfl ?_
                            refine HO.past (past_undef rfl rfl) rfl ?_
                            refine HO.past (past_by rfl rfl c_21) rfl ?_
                            refine HO.val (v := .bool false) (want_none) rfl (q_pickK false rfl c_21 rfl) ?_
                            refine HO.nil (thenQ_normal (?_))
                            exact ⟨F_14, false, rfl, rfl, rfl, rfl, rfl, rfl, rfl, rfl, rfl, rfl, rfl, rfl, rfl, rfl, rfl, rfl, hK, hS, hL_s_On, hL_s_Off, hL_b, hL_1, hL_2, hL_3, hM⟩
                        · replace hM := hM.2 c_20
                          refine HO.past (past_by rfl rfl c_20) rfl ?_
                          refine HO.past (past_by rfl rfl c_20) rfl ?_
                          refine HO.val (v := .bool false) (want_none) rfl (q_pickK false rfl c_20 rfl) ?_
                          refine HO.val (v := .bool false) (want_none) rfl (q_move rfl) ?_
                          refine HO.past (past_some rfl rfl) rfl ?_
                          refine HO.past (past_some rfl rfl) rfl ?_
                          refine HO.past (past_undef rfl rfl) rfl ?_
                          refine HO.past (past_undef rfl rfl) rfl ?_
                          refine HO.past (past_some rfl rfl) rfl ?_
                          refine HO.val (v := .bool false) (want_none) rfl (q_pick rfl rfl) ?_
                          refine HO.nil (thenQ_normal (?_))
                          exact ⟨F_14, false, rfl, rfl, rfl, rfl, rfl, rfl, rfl, rfl, rfl, rfl, rfl, rfl, rfl, rfl, rfl, rfl, hK, hS, hL_s_On, hL_s_Off, hL_b, hL_1, hL_2, hL_3, hM⟩
                      · replace hM := hM.2 c_19
                        refine HO.past (past_by rfl rfl c_19) rfl ?_
                        refine HO.past (past_by rfl rfl c_19) rfl ?_
                        refine HO.val (v := .bool false) (want_none) rfl (q_pickK false rfl c_19 rfl) ?_
                        refine HO.val (v := .bool false) (want_none) rfl (q_move rfl) ?_
                        refine HO.past (past_some rfl rfl) rfl ?_
                        refine HO.past (past_some rfl rfl) rfl ?_
                        refine HO.val (v := .bool false) (want_none) rfl (q_pick rfl rfl) ?_
                        refine HO.val (v := .bool false) (want_none) rfl (q_move rfl) ?_
                        refine HO.past (past_some rfl rfl) rfl ?_
                        refine HO.past (past_some rfl rfl) rfl ?_
                        refine HO.past (past_undef rfl rfl) rfl ?_
                        refine HO.past (past_undef rfl rfl) rfl ?_
                        refine HO.past (past_some rfl rfl) rfl ?_
                        refine HO.val (v := .bool false) (want_none) rfl (q_pick rfl rfl) ?_
                        refine HO.nil (thenQ_normal (?_))
                        exact ⟨F_14, false, rfl, rfl, rfl, rfl, rfl, rfl, rfl, rfl, rfl, rfl, rfl, rfl, rfl, rfl, rfl, rfl, hK, hS, hL_s_On, hL_s_Off, hL_b, hL_1, hL_2, hL_3, hM⟩
                    · replace hM := hM.2 c_18
                      refine HO.past (past_by rfl rfl c_18) rfl ?_
                      refine HO.past (past_by rfl rfl c_18) rfl ?_
                      refine HO.val (v := .bool false) (want_none) rfl (q_pickK false rfl c_18 rfl) ?_
                      refine HO.val (v := .bool false) (want_none) rfl (q_move rfl) ?_
                      refine HO.past (past_some rfl rfl) rfl ?_
                      refine HO.past (past_some rfl rfl) rfl ?_
                      refine HO.val (v := .bool false) (want_none) rfl (q_pick rfl rfl) ?_
                      refine HO.val (v := .bool false) (want_none) rfl (q_move rfl) ?_
                      refine HO.past (past_some rfl rfl) rfl ?_
                      refine HO.past (past_some rfl rfl) rfl ?_
                      refine HO.val (v := .bool false) (want_none) rfl (q_pick rfl rfl) ?_
                      refine HO.val (v := .bool false) (want_none) rfl (q_move rfl) ?_
                      refine HO.past (past_some rfl rfl) rfl ?_
                      refine HO.past (past_some rfl rfl) rfl ?_
                      refine HO.past (past_undef rfl rfl) rfl ?_
                      refine HO.past (past_undef rfl rfl) rfl ?_
                      refine HO.past (past_some rfl rfl) rfl ?_
                      refine HO.val (v := .bool false) (want_none) rfl (q_pick rfl rfl) ?_
                      refine HO.nil (thenQ_normal (?_))
                      exact ⟨F_14, false, rfl, rfl, rfl, rfl, rfl, rfl, rfl, rfl, rfl, rfl, rfl, rfl, rfl, rfl, rfl, rfl, hK, hS, hL_s_On, hL_s_Off, hL_b, hL_1, hL_2, hL_3, hM⟩
                  · rintro f_9 h_28 ⟨F_15, b_8, e1, e2, e3, e6, e7, e8, e9, e10, e11, e12, e13, e14, e15, e16, e17, e132, hK, hS, hL_s_On, hL_s_Off, hL_b, hL_1, hL_2, hL_3, hM⟩
                    unfold ref15_Apply_j9 at hM
                    refine HW.fr [(1, .int .i64 kind), (2, vb), (3, .pointer (some ⟨b_1, 0, none⟩)), (6, .pointer (some ⟨b_2, 0, none⟩)), (7, .pointer (some ⟨b_3, 0, none⟩)), (8, .bool b_4), (9, .bool ex_1), (10, vr_3), (11, .int .i64 i_1), (12, .pointer (some ⟨b_5, 0, none⟩)), (13, .bool r_4), (14, .bool r_5), (15, .bool r_6), (16, .bool nowOn_2), (17, .bool nowOff_3), (132, .bool b_8)] ⟨e1, e2, e3, e6, e7, e8, e9, e10, e11, e12, e13, e14, e15, e16, e17, e132, trivial⟩ ?_
                    refine HW.cond b_8 rfl (fun c_23 => ?_) (fun c_23 => ?_)
                    · replace hM := hM.1 c_23
                      refine HW.seq ?_
                      refine HW.region ?_
                      refine HO.val (v := .bool true) (want_none) rfl (q_assign rfl) ?_
                      refine HO.nil (thenQ_normal (?_))
                      refine HW.seq ?_
                      refine HW.region ?_
                      refine HO.val (v := .int .i64 kind) (want_none) rfl (q_move rfl) ?_
                      refine HO.val (v := .bool (decide (kind = 2))) (want_none) rfl (q_eql rfl rfl) ?_
                      refine HO.nil (thenQ_normal (?_))
                      refine HW.cond (decide (kind = 2)) rfl (fun c_24 => ?_) (fun c_24 => ?_)
                      · replace hM := hM.1 (of_decide_eq_true c_24)
                        refine HW.region ?_
                        refine HO.val (v := .pointer (some ⟨b_3, 3, none⟩)) (want_none) rfl (q_fieldAddr fa_37_1 rfl rfl) ?_
                        refine HO.val (v := vout_3_2) (want_none) rfl (q_load to_22 rfl (Blk.cell (hS.box 2 rfl) rfl)) ?_
                        refine HO.val (v := .agg (e_api_Addr (gi r_3 i_1)).toArray) (want_none) rfl (q_loadAgg (cs := (e_api_Addr (gi r_3 i_1))) ta_27 rfl rfl (Blk.cells (k := 17) (hS.box 8 rfl) rfl)) ?_
                        refine HO.eff (want_none) rfl (st_lit (enc := e_api_Addr) (cells := #[.bool ((gi r_3 i_1).1), .int .u8 (b8 ((gi r_3 i_1).2) 0), .int .u8 (b8 ((gi r_3 i_1).2) 1), .int .u8 (b8 ((gi r_3 i_1).2) 2), .int .u8 (b8 ((gi r_3 i_1).2) 3), .int .u8 (b8 ((gi r_3 i_1).2) 4), .int .u8 (b8 ((gi r_3 i_1).2) 5), .int .u8 (b8 ((gi r_3 i_1).2) 6), .int .u8 (b8 ((gi r_3 i_1).2) 7), .int .u8 (b8 ((gi r_3 i_1).2) 8), .int .u8 (b8 ((gi r_3 i_1).2) 9), .int .u8 (b8 ((gi r_3 i_1).2) 10), .int .u8 (b8 ((gi r_3 i_1).2) 11), .int .u8 (b8 ((gi r_3 i_1).2) 12), .int .u8 (b8 ((gi r_3 i_1).2) 13), .int .u8 (b8 ((gi r_3 i_1).2) 14), .int .u8 (b8 ((gi r_3 i_1).2) 15)]) #[.bool false, .int .u8 0, .int .u8 0, .int .u8 0, .int .u8 0, .int .u8 0, .int .u8 0, .int .u8 0, .int .u8 0, .int .u8 0, .int .u8 0, .int .u8 0, .int .u8 0, .int .u8 0, .int .u8 0, .int .u8 0, .int .u8 0] ([(gi r_3 i_1)] : List T_api_Addr) hS tl_22 (by decide) (by decide) (by kernel_rfl) (by kernel_rfl) rfl (by intro x hx; rfl) rfl) ?_
                        rintro _ h_29 ⟨b_9, rfl, hS, hk⟩
                        replace hK := hK.trans hk
                        replace hL_s_On := hL_s_On.kp hk
                        replace hL_s_Off := hL_s_Off.kp hk
                        replace hL_b := hL_b.kp hk
                        replace hL_1 := hL_1.kp hk
                        replace hL_2 := hL_2.kp hk
                        replace hL_3 := hL_3.kp hk
                        obtain ⟨ho_3, hM⟩ := hM
                        refine HO.eff (want_none) rfl (st_append te_22 hS (i := 6) rfl (hS.own 0 rfl).slice rfl rfl rfl (by intro a _ u hu; simp [e_api_Addr, encI, encN, encB, encT] at hu; rcases hu with rfl | rfl | rfl | rfl | rfl | rfl | rfl | rfl | rfl | rfl | rfl | rfl | rfl | rfl | rfl | rfl | rfl <;> rfl) ho_3 (by omega)) ?_
                        rintro v_2 h_30 ⟨hS, hk⟩
                        replace hS : St F_15 (Ow.own 27 17 e_api_Addr (.slice (some ⟨b_9, 0, none⟩) 1 1) ([(gi r_3 i_1)] : List T_api_Addr) :: Ow.box b_1 35 #[.bool s_Exclude, vs_On, vs_Off] :: Ow.box b_2 37 #[.bool false, .slice none 0 0, .slice none 0 0, .slice none 0 0, .slice none 0 0, .bool false, .slice none 0 0, .bool false] :: Ow.box b_3 37 #[.bool out_0_1, vout_1_1, vout_2_1, vout_3_2, vout_4_1, .bool out_5_1, vout_6_1, .bool out_7_1] :: Ow.own 27 17 e_api_Addr vout_1_1 out_1_1 :: Ow.own 27 17 e_api_Addr vout_2_1 out_2_1 :: Ow.own 27 17 e_api_Addr v_2 (out_3_2 ++ ([(gi r_3 i_1)] : List T_api_Addr)) :: Ow.own 27 17 e_api_Addr vout_4_1 out_4_1 :: Ow.own 27 17 e_api_Addr vout_6_1 out_6_1 :: Ow.box b_5 27 (e_api_Addr (gi r_3 i_1)).toArray :: fr) h_30 := hS
                        replace hK := hK.trans hk
                        replace hL_s_On := hL_s_On.kp hk
                        replace hL_s_Off := hL_s_Off.kp hk
                        replace hL_b := hL_b.kp hk
                        replace hL_1 := hL_1.kp hk
                        replace hL_2 := hL_2.kp hk
                        replace hL_3 := hL_3.kp hk
                        refine HO.val (v := .pointer (some ⟨b_3, 3, none⟩)) (want_none) rfl (q_fieldAddr fa_37_1 rfl rfl) ?_
                        refine HO.sto (want_none) rfl (st_store (c' := #[.bool out_0_1, vout_1_1, vout_2_1, v_2, vout_4_1, .bool out_5_1, vout_6_1, .bool out_7_1]) hS (i := 3) rfl to_22 rfl rfl (shp (hS.own 6 rfl).slice).cells (shp (hS.own 6 rfl).slice).one (Nat.le_of_ble_eq_true rfl) rfl) ?_
                        rintro h_31 ⟨hS, hk⟩
                        replace hS : St F_15 (Ow.own 27 17 e_api_Addr (.slice (some ⟨b_9, 0, none⟩) 1 1) ([(gi r_3 i_1)] : List T_api_Addr) :: Ow.box b_1 35 #[.bool s_Exclude, vs_On, vs_Off] :: Ow.box b_2 37 #[.bool false, .slice none 0 0, .slice none 0 0, .slice none 0 0, .slice none 0 0, .bool false, .slice none 0 0, .bool false] :: Ow.box b_3 37 #[.bool out_0_1, vout_1_1, vout_2_1, v_2, vout_4_1, .bool out_5_1, vout_6_1, .bool out_7_1] :: Ow.own 27 17 e_api_Addr vout_1_1 out_1_1 :: Ow.own 27 17 e_api_Addr vout_2_1 out_2_1 :: Ow.own 27 17 e_api_Addr v_2 (out_3_2 ++ ([(gi r_3 i_1)] : List T_api_Addr)) :: Ow.own 27 17 e_api_Addr vout_4_1 out_4_1 :: Ow.own 27 17 e_api_Addr vout_6_1 out_6_1 :: Ow.box b_5 27 (e_api_Addr (gi r_3 i_1)).toArray :: fr) h_31 := hS
                        replace hK := hK.trans hk
                        replace hL_s_On := hL_s_On.kp hk
                        replace hL_s_Off := hL_s_Off.kp hk
                        replace hL_b := hL_b.kp hk
                        replace hL_1 := hL_1.kp hk
                        replace hL_2 := hL_2.kp hk
                        replace hL_3 := hL_3.kp hk
                        refine HO.nil (thenQ_normal (?_))
                        replace hS : St F_15 (Ow.box b_1 35 #[.bool s_Exclude, vs_On, vs_Off] :: Ow.box b_2 37 #[.bool false, .slice none 0 0, .slice none 0 0, .slice none 0 0, .slice none 0 0, .bool false, .slice none 0 0, .bool false] :: Ow.box b_3 37 #[.bool out_0_1, vout_1_1, vout_2_1, v_2, vout_4_1, .bool out_5_1, vout_6_1, .bool out_7_1] :: Ow.own 27 17 e_api_Addr vout_1_1 out_1_1 :: Ow.own 27 17 e_api_Addr vout_2_1 out_2_1 :: Ow.own 27 17 e_api_Addr v_2 (out_3_2 ++ ([(gi r_3 i_1)] : List T_api_Addr)) :: Ow.own 27 17 e_api_Addr vout_4_1 out_4_1 :: Ow.own 27 17 e_api_Addr vout_6_1 out_6_1 :: Ow.box b_5 27 (e_api_Addr (gi r_3 i_1)).toArray :: fr) h_31 := hS.perm2 [1, 2, 3, 4, 5, 6, 7, 8, 9] 10 rfl rfl
                        exact ⟨F_15, out_3_2 ++ ([(gi r_3 i_1)] : List T_api_Addr), out_4_1, true, v_2, vout_4_1, rfl, rfl, rfl, rfl, rfl, rfl, rfl, rfl, rfl, rfl, rfl, rfl, rfl, rfl, rfl, hK, hS, hL_s_On, hL_s_Off, hL_b, hL_1, hL_2, hL_3, hM⟩
                      · replace hM := hM.2 (of_decide_eq_false c_24)
                        refine HW.region ?_
                        refine HO.val (v := .pointer (some ⟨b_3, 4, none⟩)) (want_none) rfl (q_fieldAddr fa_37_2 rfl rfl) ?_
                        refine HO.val (v := vout_4_1) (want_none) rfl (q_load to_22 rfl (Blk.cell (hS.box 2 rfl) rfl)) ?_
                        refine HO.val (v := .agg (e_api_Addr (gi r_3 i_1)).toArray) (want_none) rfl (q_loadAgg (cs := (e_api_Addr (gi r_3 i_1))) ta_27 rfl rfl (Blk.cells (k := 17) (hS.box 8 rfl) rfl)) ?_
                        refine HO.eff (want_none) rfl (st_lit (enc := e_api_Addr) (cells := #[.bool ((gi r_3 i_1).1), .int .u8 (b8 ((gi r_3 i_1).2) 0), .int .u8 (b8 ((gi r_3 i_1).2) 1), .int .u8 (b8 ((gi r_3 i_1).2) 2), .int .u8 (b8 ((gi r_3 i_1).2) 3), .int .u8 (b8 ((gi r_3 i_1).2) 4), .int .u8 (b8 ((gi r_3 i_1).2) 5), .int .u8 (b8 ((gi r_3 i_1).2) 6), .int .u8 (b8 ((gi r_3 i_1).2) 7), .int .u8 (b8 ((gi r_3 i_1).2) 8), .int .u8 (b8 ((gi r_3 i_1).2) 9), .int .u8 (b8 ((gi r_3 i_1).2) 10), .int .u8 (b8 ((gi r_3 i_1).2) 11), .int .u8 (b8 ((gi r_3 i_1).2) 12), .int .u8 (b8 ((gi r_3 i_1).2) 13), .int .u8 (b8 ((gi r_3 i_1).2) 14), .int .u8 (b8 ((gi r_3 i_1).2) 15)]) #[.bool false, .int .u8 0, .int .u8 0, .int .u8 0, .int .u8 0, .int .u8 0, .int .u8 0, .int .u8 0, .int .u8 0, .int .u8 0, .int .u8 0, .int .u8 0, .int .u8 0, .int .u8 0, .int .u8 0, .int .u8 0, .int .u8 0] ([(gi r_3 i_1)] : List T_api_Addr) hS tl_22 (by decide) (by decide) (by kernel_rfl) (by kernel_rfl) rfl (by intro x hx; rfl) rfl) ?_
                        rintro _ h_32 ⟨b_10, rfl, hS, hk⟩
                        replace hK := hK.trans hk
                        replace hL_s_On := hL_s_On.kp hk
                        replace hL_s_Off := hL_s_Off.kp hk
                        replace hL_b := hL_b.kp hk
                        replace hL_1 := hL_1.kp hk
                        replace hL_2 := hL_2.kp hk
                        replace hL_3 := hL_3.kp hk
                        obtain ⟨ho_4, hM⟩ := hM
                        refine HO.eff (want_none) rfl (st_append te_22 hS (i := 7) rfl (hS.own 0 rfl).slice rfl rfl rfl (by intro a _ u hu; simp [e_api_Addr, encI, encN, encB, encT] at hu; rcases hu with rfl | rfl | rfl | rfl | rfl | rfl | rfl | rfl | rfl | rfl | rfl | rfl | rfl | rfl | rfl | rfl | rfl <;> rfl) ho_4 (by omega)) ?_
                        rintro v_3 h_33 ⟨hS, hk⟩
                        replace hS : St F_15 (Ow.own 27 17 e_api_Addr (.slice (some ⟨b_10, 0, none⟩) 1 1) ([(gi r_3 i_1)] : List T_api_Addr) :: Ow.box b_1 35 #[.bool s_Exclude, vs_On, vs_Off] :: Ow.box b_2 37 #[.bool false, .slice none 0 0, .slice none 0 0, .slice none 0 0, .slice none 0 0, .bool false, .slice none 0 0, .bool false] :: Ow.box b_3 37 #[.bool out_0_1, vout_1_1, vout_2_1, vout_3_2, vout_4_1, .bool out_5_1, vout_6_1, .bool out_7_1] :: Ow.own 27 17 e_api_Addr vout_1_1 out_1_1 :: Ow.own 27 17 e_api_Addr vout_2_1 out_2_1 :: Ow.own 27 17 e_api_Addr vout_3_2 out_3_2 :: Ow.own 27 17 e_api_Addr v_3 (out_4_1 ++ ([(gi r_3 i_1)] : List T_api_Addr)) :: Ow.own 27 17 e_api_Addr vout_6_1 out_6_1 :: Ow.box b_5 27 (e_api_Addr (gi r_3 i_1)).toArray :: fr) h_33 := hS
                        replace hK := hK.trans hk
                        replace hL_s_On := hL_s_On.kp hk
                        replace hL_s_Off := hL_s_Off.kp hk
                        replace hL_b := hL_b.kp hk
                        replace hL_1 := hL_1.kp hk
                        replace hL_2 := hL_2.kp hk
                        replace hL_3 := hL_3.kp hk
                        refine HO.val (v := .pointer (some ⟨b_3, 4, none⟩)) (want_none) rfl (q_fieldAddr fa_37_2 rfl rfl) ?_
                        refine HO.sto (want_none) rfl (st_store (c' := #[.bool out_0_1, vout_1_1, vout_2_1, vout_3_2, v_3, .bool out_5_1, vout_6_1, .bool out_7_1]) hS (i := 3) rfl to_22 rfl rfl (shp (hS.own 7 rfl).slice).cells (shp (hS.own 7 rfl).slice).one (Nat.le_of_ble_eq_true rfl) rfl) ?_
                        rintro h_34 ⟨hS, hk⟩
                        replace hS : St F_15 (Ow.own 27 17 e_api_Addr (.slice (some ⟨b_10, 0, none⟩) 1 1) ([(gi r_3 i_1)] : List T_api_Addr) :: Ow.box b_1 35 #[.bool s_Exclude, vs_On, vs_Off] :: Ow.box b_2 37 #[.bool false, .slice none 0 0, .slice none 0 0, .slice none 0 0, .slice none 0 0, .bool false, .slice none 0 0, .bool false] :: Ow.box b_3 37 #[.bool out_0_1, vout_1_1, vout_2_1, vout_3_2, v_3, .bool out_5_1, vout_6_1, .bool out_7_1] :: Ow.own 27 17 e_api_Addr vout_1_1 out_1_1 :: Ow.own 27 17 e_api_Addr vout_2_1 out_2_1 :: Ow.own 27 17 e_api_Addr vout_3_2 out_3_2 :: Ow.own 27 17 e_api_Addr v_3 (out_4_1 ++ ([(gi r_3 i_1)] : List T_api_Addr)) :: Ow.own 27 17 e_api_Addr vout_6_1 out_6_1 :: Ow.box b_5 27 (e_api_Addr (gi r_3 i_1)).toArray :: fr) h_34 := hS
                        replace hK := hK.trans hk
                        replace hL_s_On := hL_s_On.kp hk
                        replace hL_s_Off := hL_s_Off.kp hk
                        replace hL_b := hL_b.kp hk
                        replace hL_1 := hL_1.kp hk
                        replace hL_2 := hL_2.kp hk
                        replace hL_3 := hL_3.kp hk
                        refine HO.nil (thenQ_normal (?_))
                        replace hS : St F_15 (Ow.box b_1 35 #[.bool s_Exclude, vs_On, vs_Off] :: Ow.box b_2 37 #[.bool false, .slice none 0 0, .slice none 0 0, .slice none 0 0, .slice none 0 0, .bool false, .slice none 0 0, .bool false] :: Ow.box b_3 37 #[.bool out_0_1, vout_1_1, vout_2_1, vout_3_2, v_3, .bool out_5_1, vout_6_1, .bool out_7_1] :: Ow.own 27 17 e_api_Addr vout_1_1 out_1_1 :: Ow.own 27 17 e_api_Addr vout_2_1 out_2_1 :: Ow.own 27 17 e_api_Addr vout_3_2 out_3_2 :: Ow.own 27 17 e_api_Addr v_3 (out_4_1 ++ ([(gi r_3 i_1)] : List T_api_Addr)) :: Ow.own 27 17 e_api_Addr vout_6_1 out_6_1 :: Ow.box b_5 27 (e_api_Addr (gi r_3 i_1)).toArray :: fr) h_34 := hS.perm2 [1, 2, 3, 4, 5, 6, 7, 8, 9] 10 rfl rfl
                        exact ⟨F_15, out_3_2, out_4_1 ++ ([(gi r_3 i_1)] : List T_api_Addr), true, vout_3_2, v_3, rfl, rfl, rfl, rfl, rfl, rfl, rfl, rfl, rfl, rfl, rfl, rfl, rfl, rfl, rfl, hK, hS, hL_s_On, hL_s_Off, hL_b, hL_1, hL_2, hL_3, hM⟩
                    · replace hM := hM.2 c_23
                      refine HW.skip (thenQ_normal (?_))
                      exact ⟨F_15, out_3_2, out_4_1, nowOn_2, vout_3_2, vout_4_1, rfl, rfl, rfl, rfl, rfl, rfl, rfl, rfl, rfl, rfl, rfl, rfl, rfl, rfl, rfl, hK, hS, hL_s_On, hL_s_Off, hL_b, hL_1, hL_2, hL_3, hM⟩
                · rintro f_10 h_35 ⟨F_16, out_3_3, out_4_2, nowOn_3, vout_3_3, vout_4_2, e1, e2, e3, e6, e7, e8, e9, e10, e11, e12, e13, e14, e15, e16, e17, hK, hS, hL_s_On, hL_s_Off, hL_b, hL_1, hL_2, hL_3, hM⟩
                  unfold ref15_Apply_j8 at hM
                  refine HW.fr [(1, .int .i64 kind), (2, vb), (3, .pointer (some ⟨b_1, 0, none⟩)), (6, .pointer (some ⟨b_2, 0, none⟩)), (7, .pointer (some ⟨b_3, 0, none⟩)), (8, .bool b_4), (9, .bool ex_1), (10, vr_3), (11, .int .i64 i_1), (12, .pointer (some ⟨b_5, 0, none⟩)), (13, .bool r_4), (14, .bool r_5), (15, .bool r_6), (16, .bool nowOn_3), (17, .bool nowOff_3)] ⟨e1, e2, e3, e6, e7, e8, e9, e10, e11, e12, e13, e14, e15, e16, e17, trivial⟩ ?_
                  refine HW.seq_mid (fun f h => ∃ (F' : Fz) (ask_1 : Bool), f 1 = .int .i64 kind ∧ f 2 = vb ∧ f 3 = .pointer (some ⟨b_1, 0, none⟩) ∧ f 6 = .pointer (some ⟨b_2, 0, none⟩) ∧ f 7 = .pointer (some ⟨b_3, 0, none⟩) ∧ f 8 = .bool b_4 ∧ f 9 = .bool ex_1 ∧ f 10 = vr_3 ∧ f 11 = .int .i64 i_1 ∧ f 12 = .pointer (some ⟨b_5, 0, none⟩) ∧ f 13 = .bool r_4 ∧ f 14 = .bool r_5 ∧ f 15 = .bool r_6 ∧ f 16 = .bool nowOn_3 ∧ f 17 = .bool nowOff_3 ∧ f 18 = .bool ask_1 ∧ Kp F h0 F' h ∧ St F' (Ow.box b_1 35 #[.bool s_Exclude, vs_On, vs_Off] :: Ow.box b_2 37 #[.bool false, .slice none 0 0, .slice none 0 0, .slice none 0 0, .slice none 0 0, .bool false, .slice none 0 0, .bool false] :: Ow.box b_3 37 #[.bool out_0_1, vout_1_1, vout_2_1, vout_3_3, vout_4_2, .bool out_5_1, vout_6_1, .bool out_7_1] :: Ow.own 27 17 e_api_Addr vout_1_1 out_1_1 :: Ow.own 27 17 e_api_Addr vout_2_1 out_2_1 :: Ow.own 27 17 e_api_Addr vout_3_3 out_3_3 :: Ow.own 27 17 e_api_Addr vout_4_2 out_4_2 :: Ow.own 27 17 e_api_Addr vout_6_1 out_6_1 :: Ow.box b_5 27 (e_api_Addr (gi r_3 i_1)).toArray :: fr) h ∧ (SliceF F' h 17 e_api_Addr vs_On s_On) ∧ (SliceF F' h 17 e_api_Addr vs_Off s_Off) ∧ (SliceF F' h 17 e_api_Addr vb b) ∧ (SliceF F' h 17 e_api_Addr vr_1 r_1) ∧ (SliceF F' h 17 e_api_Addr vr_2 r_2) ∧ (SliceF F' h 17 e_api_Addr vr_3 r_3) ∧ ref15_Apply_j10 s_Exclude kind r_3 out_1_1 out_2_1 out_6_1 i_1 K_1 r_4 r_5 r_6 nowOff_3 out_3_3 out_4_2 nowOn_3 ask_1) ?_ ?_
                  · refine HW.region ?_
                    refine HO.val (v := .int .i64 kind) (want_none) rfl (q_move rfl) ?_
                    refine HO.val (v := .bool (decide (kind = 3))) (want_none) rfl (q_eql rfl rfl) ?_
                    refine HO.val (v := .bool (decide (kind = 3))) (want_none) rfl (q_move rfl) ?_
                    rcases Bool.eq_false_or_eq_true (decide (kind = 3)) with c_25 | c_25
                    · replace hM := hM.1 (of_decide_eq_true c_25)
                      refine HO.val (v := .bool r_4) (want_by rfl rfl c_25) rfl (q_move rfl) ?_
                      refine HO.val (v := .bool r_4) (want_none) rfl (q_pickK true rfl c_25 rfl) ?_
                      refine HO.val (v := .bool r_4) (want_none) rfl (q_move rfl) ?_
                      rcases Bool.eq_false_or_eq_true r_4 with c_26 | c_26
                      · replace hM := hM.1 c_26
                        refine HO.val (v := .bool r_6) (want_by rfl rfl c_26) rfl (q_move rfl) ?_
                        refine HO.val (v := .bool (!r_6)) (want_by rfl rfl c_26) rfl (q_not rfl) ?_
                        refine HO.val (v := .bool (!r_6)) (want_none) rfl (q_pickK true rfl c_26 rfl) ?_
                        refine HO.val (v := .bool (!r_6)) (want_none) rfl (q_assign rfl) ?_
                        refine HO.nil (thenQ_normal (?_))
                        exact ⟨F_16, !r_6, rfl, rfl, rfl, rfl, rfl, rfl, rfl, rfl, rfl, rfl, rfl, rfl, rfl, rfl, rfl, rfl, hK, hS, hL_s_On, hL_s_Off, hL_b, hL_1, hL_2, hL_3, hM⟩
                      · replace hM := hM.2 c_26
                        refine HO.past (past_by rfl rfl c_26) rfl ?_
                        refine HO.past (past_by rfl rfl c_26) rfl ?_
                        refine HO.val (v := .bool false) (want_none) rfl (q_pickK false rfl c_26 rfl) ?_
                        refine HO.val (v := .bool false) (want_none) rfl (q_assign rfl) ?_
                        refine HO.nil (thenQ_normal (?_))
                        exact ⟨F_16, false, rfl, rfl, rfl, rfl, rfl, rfl, rfl, rfl, rfl, rfl, rfl, rfl, rfl, rfl, rfl, rfl, hK, hS, hL_s_On, hL_s_Off, hL_b, hL_1, hL_2, hL_3, hM⟩
                    · replace hM := hM.2 (of_decide_eq_false c_25)
                      refine HO.past (past_by rfl rfl c_25) rfl ?_
                      refine HO.val (v := .bool false) (want_none) rfl (q_pickK false rfl c_25 rfl) ?_
                      refine HO.val (v := .bool false) (want_none) rfl (q_move rfl) ?_
                      refine HO.past (past_some rfl rfl) rfl ?_
                      refine HO.past (past_some rfl rfl) rfl ?_
                      refine HO.val (v := .bool false) (want_none) rfl (q_pick rfl rfl) ?_
                      refine HO.val (v := .bool false) (want_none) rfl (q_assign rfl) ?_
                      refine HO.nil (thenQ_normal (?_))
                      exact ⟨F_16, false, rfl, rfl, rfl, rfl, rfl, rfl, rfl, rfl, rfl, rfl, rfl, rfl, rfl, rfl, rfl, rfl, hK, hS, hL_s_On, hL_s_Off, hL_b, hL_1, hL_2, hL_3, hM⟩
                  · rintro f_11 h_36 ⟨F_17, ask_1, e1, e2, e3, e6, e7, e8, e9, e10, e11, e12, e13, e14, e15, e16, e17, e18, hK, hS, hL_s_On, hL_s_Off, hL_b, hL_1, hL_2, hL_3, hM⟩
                    unfold ref15_Apply_j10 at hM
                    refine HW.fr [(1, .int .i64 kind), (2, vb), (3, .pointer (some ⟨b_1, 0, none⟩)), (6, .pointer (some ⟨b_2, 0, none⟩)), (7, .pointer (some ⟨b_3, 0, none⟩)), (8, .bool b_4), (9, .bool ex_1), (10, vr_3), (11, .int .i64 i_1), (12, .pointer (some ⟨b_5, 0, none⟩)), (13, .bool r_4), (14, .bool r_5), (15, .bool r_6), (16, .bool nowOn_3), (17, .bool nowOff_3), (18, .bool ask_1)] ⟨e1, e2, e3, e6, e7, e8, e9, e10, e11, e12, e13, e14, e15, e16, e17, e18, trivial⟩ ?_
                    refine HW.seq_mid (fun f h => ∃ (F' : Fz) (ask_2 : Bool), f 1 = .int .i64 kind ∧ f 2 = vb ∧ f 3 = .pointer (some ⟨b_1, 0, none⟩) ∧ f 6 = .pointer (some ⟨b_2, 0, none⟩) ∧ f 7 = .pointer (some ⟨b_3, 0, none⟩) ∧ f 8 = .bool b_4 ∧ f 9 = .bool ex_1 ∧ f 10 = vr_3 ∧ f 11 = .int .i64 i_1 ∧ f 12 = .pointer (some ⟨b_5, 0, none⟩) ∧ f 16 = .bool nowOn_3 ∧ f 17 = .bool nowOff_3 ∧ f 18 = .bool ask_2 ∧ Kp F h0 F' h ∧ St F' (Ow.box b_1 35 #[.bool s_Exclude, vs_On, vs_Off] :: Ow.box b_2 37 #[.bool false, .slice none 0 0, .slice none 0 0, .slice none 0 0, .slice none 0 0, .bool false, .slice none 0 0, .bool false] :: Ow.box b_3 37 #[.bool out_0_1, vout_1_1, vout_2_1, vout_3_3, vout_4_2, .bool out_5_1, vout_6_1, .bool out_7_1] :: Ow.own 27 17 e_api_Addr vout_1_1 out_1_1 :: Ow.own 27 17 e_api_Addr vout_2_1 out_2_1 :: Ow.own 27 17 e_api_Addr vout_3_3 out_3_3 :: Ow.own 27 17 e_api_Addr vout_4_2 out_4_2 :: Ow.own 27 17 e_api_Addr vout_6_1 out_6_1 :: Ow.box b_5 27 (e_api_Addr (gi r_3 i_1)).toArray :: fr) h ∧ (SliceF F' h 17 e_api_Addr vs_On s_On) ∧ (SliceF F' h 17 e_api_Addr vs_Off s_Off) ∧ (SliceF F' h 17 e_api_Addr vb b) ∧ (SliceF F' h 17 e_api_Addr vr_1 r_1) ∧ (SliceF F' h 17 e_api_Addr vr_2 r_2) ∧ (SliceF F' h 17 e_api_Addr vr_3 r_3) ∧ ref15_Apply_j11 r_3 out_1_1 out_2_1 out_6_1 i_1 K_1 nowOff_3 out_3_3 out_4_2 nowOn_3 ask_2) ?_ ?_
                    · refine HW.seq_mid (fun f h => ∃ (F' : Fz) (b_11 : Bool), f 1 = .int .i64 kind ∧ f 2 = vb ∧ f 3 = .pointer (some ⟨b_1, 0, none⟩) ∧ f 6 = .pointer (some ⟨b_2, 0, none⟩) ∧ f 7 = .pointer (some ⟨b_3, 0, none⟩) ∧ f 8 = .bool b_4 ∧ f 9 = .bool ex_1 ∧ f 10 = vr_3 ∧ f 11 = .int .i64 i_1 ∧ f 12 = .pointer (some ⟨b_5, 0, none⟩) ∧ f 13 = .bool r_4 ∧ f 14 = .bool r_5 ∧ f 15 = .bool r_6 ∧ f 16 = .bool nowOn_3 ∧ f 17 = .bool nowOff_3 ∧ f 18 = .bool ask_1 ∧ f 161 = .bool b_11 ∧ Kp F h0 F' h ∧ St F' (Ow.box b_1 35 #[.bool s_Exclude, vs_On, vs_Off] :: Ow.box b_2 37 #[.bool false, .slice none 0 0, .slice none 0 0, .slice none 0 0, .slice none 0 0, .bool false, .slice none 0 0, .bool false] :: Ow.box b_3 37 #[.bool out_0_1, vout_1_1, vout_2_1, vout_3_3, vout_4_2, .bool out_5_1, vout_6_1, .bool out_7_1] :: Ow.own 27 17 e_api_Addr vout_1_1 out_1_1 :: Ow.own 27 17 e_api_Addr vout_2_1 out_2_1 :: Ow.own 27 17 e_api_Addr vout_3_3 out_3_3 :: Ow.own 27 17 e_api_Addr vout_4_2 out_4_2 :: Ow.own 27 17 e_api_Addr vout_6_1 out_6_1 :: Ow.box b_5 27 (e_api_Addr (gi r_3 i_1)).toArray :: fr) h ∧ (SliceF F' h 17 e_api_Addr vs_On s_On) ∧ (SliceF F' h 17 e_api_Addr vs_Off s_Off) ∧ (SliceF F' h 17 e_api_Addr vb b) ∧ (SliceF F' h 17 e_api_Addr vr_1 r_1) ∧ (SliceF F' h 17 e_api_Addr vr_2 r_2) ∧ (SliceF F' h 17 e_api_Addr vr_3 r_3) ∧ ref15_Apply_j12 s_Exclude r_3 out_1_1 out_2_1 out_6_1 i_1 K_1 r_4 r_5 r_6 nowOff_3 out_3_3 out_4_2 nowOn_3 ask_1 b_11) ?_ ?_
                      · refine HW.region ?_
                        refine HO.val (v := .int .i64 kind) (want_none) rfl (q_move rfl) ?_
                        refine HO.val (v := .bool (decide (kind = 6))) (want_none) rfl (q_eql rfl rfl) ?_
                        refine HO.val (v := .bool (decide (kind = 6))) (want_none) rfl (q_move rfl) ?_
                        rcases Bool.eq_false_or_eq_true (decide (kind = 6)) with c_27 | c_27
                        · replace hM := hM.1 (of_decide_eq_true c_27)
                          refine HO.past (past_by rfl rfl c_27) rfl ?_
                          refine HO.past (past_by rfl rfl c_27) rfl ?_
                          refine HO.val (v := .bool true) (want_none) rfl (q_pickK true rfl c_27 rfl) ?_
                          refine HO.nil (thenQ_normal (?_))
                          exact ⟨F_17, true, rfl, rfl, rfl, rfl, rfl, rfl, rfl, rfl, rfl, rfl, rfl, rfl, rfl, rfl, rfl, rfl, rfl, hK, hS, hL_s_On, hL_s_Off, hL_b, hL_1, hL_2, hL_3, hM⟩
                        · replace hM := hM.2 (of_decide_eq_false c_27)
                          refine HO.val (v := .int .i64 kind) (want_by rfl rfl c_27) rfl (q_move rfl) ?_
                          refine HO.val (v := .bool (decide (kind = 4))) (want_by rfl rfl c_27) rfl (q_eql rfl rfl) ?_
                          refine HO.val (v := .bool (decide (kind = 4))) (want_none) rfl (q_pickK false rfl c_27 rfl) ?_
                          refine HO.nil (thenQ_normal (?_))
                          exact ⟨F_17, decide (kind = 4), rfl, rfl, rfl, rfl, rfl, rfl, rfl, rfl, rfl, rfl, rfl, rfl, rfl, rfl, rfl, rfl, rfl, hK, hS, hL_s_On, hL_s_Off, hL_b, hL_1, hL_2, hL_3, hM⟩
                      · rintro f_12 h_37 ⟨F_18, b_11, e1, e2, e3, e6, e7, e8, e9, e10, e11, e12, e13, e14, e15, e16, e17, e18, e161, hK, hS, hL_s_On, hL_s_Off, hL_b, hL_1, hL_2, hL_3, hM⟩
                        unfold ref15_Apply_j12 at hM
                        refine HW.fr [(1, .int .i64 kind), (2, vb), (3, .pointer (some ⟨b_1, 0, none⟩)), (6, .pointer (some ⟨b_2, 0, none⟩)), (7, .pointer (some ⟨b_3, 0, none⟩)), (8, .bool b_4), (9, .bool ex_1), (10, vr_3), (11, .int .i64 i_1), (12, .pointer (some ⟨b_5, 0, none⟩)), (13, .bool r_4), (14, .bool r_5), (15, .bool r_6), (16, .bool nowOn_3), (17, .bool nowOff_3), (18, .bool ask_1), (161, .bool b_11)] ⟨e1, e2, e3, e6, e7, e8, e9, e10, e11, e12, e13, e14, e15, e16, e17, e18, e161, trivial⟩ ?_
                        refine HW.cond b_11 rfl (fun c_28 => ?_) (fun c_28 => ?_)
                        · replace hM := hM.1 c_28
                          refine HW.region ?_
                          refine HO.val (v := .bool r_6) (want_none) rfl (q_move rfl) ?_
                          refine HO.val (v := .bool r_6) (want_none) rfl (q_move rfl) ?_
                          rcases Bool.eq_false_or_eq_true r_6 with c_29 | c_29
                          · replace hM := hM.1 c_29
                            refine HO.val (v := .bool r_4) (want_by rfl rfl c_29) rfl (q_move rfl) ?_
                            refine HO.val (v := .bool r_4) (want_by rfl rfl c_29) rfl (q_move rfl) ?_
                            rcases Bool.eq_false_or_eq_true r_4 with c_30 | c_30
                            · replace hM := hM.1 c_30
                              refine HO.past (past_by rfl rfl c_30) rfl ?_
                              refine HO.past (past_by rfl rfl c_30) rfl ?_
                              refine HO.past (past_by rfl rfl c_30) rfl ?_
                              refine HO.past (past_undef rfl rfl) rfl ?_
                              refine HO.past (past_undef rfl rfl) rfl ?_
                              refine HO.past (past_by rfl rfl c_30) rfl ?_
                              refine HO.val (v := .bool true) (want_by rfl rfl c_29) rfl (q_pickK true rfl c_30 rfl) ?_
                              refine HO.val (v := .bool true) (want_none) rfl (q_pickK true rfl c_29 rfl) ?_
                              refine HO.val (v := .bool true) (want_none) rfl (q_assign rfl) ?_
                              refine HO.nil (thenQ_normal (?_))
                              exact ⟨F_18, true, rfl, rfl, rfl, rfl, rfl, rfl, rfl, rfl, rfl, rfl, rfl, rfl, rfl, hK, hS, hL_s_On, hL_s_Off, hL_b, hL_1, hL_2, hL_3, hM⟩
                            · replace hM := hM.2 c_30
                              refine HO.val (v := .pointer (some ⟨b_1, 0, none⟩)) (want_by rfl rfl c_30) rfl (q_fieldAddr fa_35_0 rfl rfl) ?_
                              refine HO.val (v := .bool s_Exclude) (want_by rfl rfl c_30) rfl (q_load to_4 rfl (Blk.cell (hS.box 0 rfl) rfl)) ?_
                              refine HO.val (v := .bool s_Exclude) (want_by rfl rfl c_30) rfl (q_move rfl) ?_
                              rcases Bool.eq_false_or_eq_true s_Exclude with c_31 | c_31
                              · replace hM := hM.1 c_31
                                refine HO.val (v := .bool r_5) (want_by rfl rfl c_31) rfl (q_move rfl) ?_
                                refine HO.val (v := .bool (!r_5)) (want_by rfl rfl c_31) rfl (q_not rfl) ?_
                                refine HO.val (v := .bool (!r_5)) (want_by rfl rfl c_30) rfl (q_pickK true rfl c_31 rfl) ?_
                                refine HO.val (v := .bool (!r_5)) (want_by rfl rfl c_29) rfl (q_pickK false rfl c_30 rfl) ?_
                                refine HO.val (v := .bool (!r_5)) (want_none) rfl (q_pickK true rfl c_29 rfl) ?_
                                refine HO.val (v := .bool (!r_5)) (want_none) rfl (q_assign rfl) ?_
                                refine HO.nil (thenQ_normal (?_))
                                exact ⟨F_18, !r_5, rfl, rfl, rfl, rfl, rfl, rfl, rfl, rfl, rfl, rfl, rfl, rfl, rfl, hK, hS, hL_s_On, hL_s_Off, hL_b, hL_1, hL_2, hL_3, hM⟩
                              · replace hM := hM.2 c_31
                                refine HO.past (past_by rfl rfl c_31) rfl ?_
                                refine HO.past (past_by rfl rfl c_31) rfl ?_
                                refine HO.val (v := .bool false) (want_by rfl rfl c_30) rfl (q_pickK false rfl c_31 rfl) ?_
                                refine HO.val (v := .bool false) (want_by rfl rfl c_29) rfl (q_pickK false rfl c_30 rfl) ?_
                                refine HO.val (v := .bool false) (want_none) rfl (q_pickK true rfl c_29 rfl) ?_
                                refine HO.val (v := .bool false) (want_none) rfl (q_assign rfl) ?_
                                refine HO.nil (thenQ_normal (?_))
                                exact ⟨F_18, false, rfl, rfl, rfl, rfl, rfl, rfl, rfl, rfl, rfl, rfl, rfl, rfl, rfl, hK, hS, hL_s_On, hL_s_Off, hL_b, hL_1, hL_2, hL_3, hM⟩
                          · replace hM := hM.2 c_29
                            refine HO.past (past_by rfl rfl c_29) rfl ?_
                            refine HO.past (past_by rfl rfl c_29) rfl ?_
                            refine HO.past (past_undef rfl rfl) rfl ?_
                            refine HO.past (past_undef rfl rfl) rfl ?_
                            refine HO.past (past_undef rfl rfl) rfl ?_
                            refine HO.past (past_undef rfl rfl) rfl ?_
                            refine HO.past (past_undef rfl rfl) rfl ?_
                            refine HO.past (past_undef rfl rfl) rfl ?_
                            refine HO.past (past_by rfl rfl c_29) rfl ?_
                            refine HO.val (v := .bool false) (want_none) rfl (q_pickK false rfl c_29 rfl) ?_
                            refine HO.val (v := .bool false) (want_none) rfl (q_assign rfl) ?_
                            refine HO.nil (thenQ_normal (?_))
                            exact ⟨F_18, false, rfl, rfl, rfl, rfl, rfl, rfl, rfl, rfl, rfl, rfl, rfl, rfl, rfl, hK, hS, hL_s_On, hL_s_Off, hL_b, hL_1, hL_2, hL_3, hM⟩
                        · replace hM := hM.2 c_28
                          refine HW.skip (thenQ_normal (?_))
                          exact ⟨F_18, ask_1, rfl, rfl, rfl, rfl, rfl, rfl, rfl, rfl, rfl, rfl, rfl, rfl, rfl, hK, hS, hL_s_On, hL_s_Off, hL_b, hL_1, hL_2, hL_3, hM⟩
                    · rintro f_13 h_38 ⟨F_19, ask_2, e1, e2, e3, e6, e7, e8, e9, e10, e11, e12, e16, e17, e18, hK, hS, hL_s_On, hL_s_Off, hL_b, hL_1, hL_2, hL_3, hM⟩
                      unfold ref15_Apply_j11 at hM
                      refine HW.fr [(1, .int .i64 kind), (2, vb), (3, .pointer (some ⟨b_1, 0, none⟩)), (6, .pointer (some ⟨b_2, 0, none⟩)), (7, .pointer (some ⟨b_3, 0, none⟩)), (8, .bool b_4), (9, .bool ex_1), (10, vr_3), (11, .int .i64 i_1), (12, .pointer (some ⟨b_5, 0, none⟩)), (16, .bool nowOn_3), (17, .bool nowOff_3), (18, .bool ask_2)] ⟨e1, e2, e3, e6, e7, e8, e9, e10, e11, e12, e16, e17, e18, trivial⟩ ?_
                      refine HW.seq_mid (fun f h => ∃ (F' : Fz) (out_6_2 : List T_api_Addr) (vout_6_2 : Value), f 1 = .int .i64 kind ∧ f 2 = vb ∧ f 3 = .pointer (some ⟨b_1, 0, none⟩) ∧ f 6 = .pointer (some ⟨b_2, 0, none⟩) ∧ f 7 = .pointer (some ⟨b_3, 0, none⟩) ∧ f 8 = .bool b_4 ∧ f 9 = .bool ex_1 ∧ f 10 = vr_3 ∧ f 11 = .int .i64 i_1 ∧ f 12 = .pointer (some ⟨b_5, 0, none⟩) ∧ f 16 = .bool nowOn_3 ∧ f 17 = .bool nowOff_3 ∧ Kp F h0 F' h ∧ St F' (Ow.box b_1 35 #[.bool s_Exclude, vs_On, vs_Off] :: Ow.box b_2 37 #[.bool false, .slice none 0 0, .slice none 0 0, .slice none 0 0, .slice none 0 0, .bool false, .slice none 0 0, .bool false] :: Ow.box b_3 37 #[.bool out_0_1, vout_1_1, vout_2_1, vout_3_3, vout_4_2, .bool out_5_1, vout_6_2, .bool out_7_1] :: Ow.own 27 17 e_api_Addr vout_1_1 out_1_1 :: Ow.own 27 17 e_api_Addr vout_2_1 out_2_1 :: Ow.own 27 17 e_api_Addr vout_3_3 out_3_3 :: Ow.own 27 17 e_api_Addr vout_4_2 out_4_2 :: Ow.own 27 17 e_api_Addr vout_6_2 out_6_2 :: Ow.box b_5 27 (e_api_Addr (gi r_3 i_1)).toArray :: fr) h ∧ (SliceF F' h 17 e_api_Addr vs_On s_On) ∧ (SliceF F' h 17 e_api_Addr vs_Off s_Off) ∧ (SliceF F' h 17 e_api_Addr vb b) ∧ (SliceF F' h 17 e_api_Addr vr_1 r_1) ∧ (SliceF F' h 17 e_api_Addr vr_2 r_2) ∧ (SliceF F' h 17 e_api_Addr vr_3 r_3) ∧ ref15_Apply_j13 r_3 out_1_1 out_2_1 i_1 K_1 nowOff_3 out_3_3 out_4_2 nowOn_3 out_6_2) ?_ ?_
                      · refine HW.seq ?_
                        refine HW.region ?_
                        refine HO.val (v := .bool ask_2) (want_none) rfl (q_move rfl) ?_
                        refine HO.nil (thenQ_normal (?_))
                        refine HW.cond ask_2 rfl (fun c_32 => ?_) (fun c_32 => ?_)
                        · replace hM := hM.1 c_32
                          refine HW.region ?_
                          refine HO.val (v := .pointer (some ⟨b_3, 6, none⟩)) (want_none) rfl (q_fieldAddr fa_37_4 rfl rfl) ?_
                          refine HO.val (v := vout_6_1) (want_none) rfl (q_load to_22 rfl (Blk.cell (hS.box 2 rfl) rfl)) ?_
                          refine HO.val (v := .agg (e_api_Addr (gi r_3 i_1)).toArray) (want_none) rfl (q_loadAgg (cs := (e_api_Addr (gi r_3 i_1))) ta_27 rfl rfl (Blk.cells (k := 17) (hS.box 8 rfl) rfl)) ?_
                          refine HO.eff (want_none) rfl (st_lit (enc := e_api_Addr) (cells := #[.bool ((gi r_3 i_1).1), .int .u8 (b8 ((gi r_3 i_1).2) 0), .int .u8 (b8 ((gi r_3 i_1).2) 1), .int .u8 (b8 ((gi r_3 i_1).2) 2), .int .u8 (b8 ((gi r_3 i_1).2) 3), .int .u8 (b8 ((gi r_3 i_1).2) 4), .int .u8 (b8 ((gi r_3 i_1).2) 5), .int .u8 (b8 ((gi r_3 i_1).2) 6), .int .u8 (b8 ((gi r_3 i_1).2) 7), .int .u8 (b8 ((gi r_3 i_1).2) 8), .int .u8 (b8 ((gi r_3 i_1).2) 9), .int .u8 (b8 ((gi r_3 i_1).2) 10), .int .u8 (b8 ((gi r_3 i_1).2) 11), .int .u8 (b8 ((gi r_3 i_1).2) 12), .int .u8 (b8 ((gi r_3 i_1).2) 13), .int .u8 (b8 ((gi r_3 i_1).2) 14), .int .u8 (b8 ((gi r_3 i_1).2) 15)]) #[.bool false, .int .u8 0, .int .u8 0, .int .u8 0, .int .u8 0, .int .u8 0, .int .u8 0, .int .u8 0, .int .u8 0, .int .u8 0, .int .u8 0, .int .u8 0, .int .u8 0, .int .u8 0, .int .u8 0, .int .u8 0, .int .u8 0] ([(gi r_3 i_1)] : List T_api_Addr) hS tl_22 (by decide) (by decide) (by kernel_rfl) (by kernel_rfl) rfl (by intro x hx; rfl) rfl) ?_
                          rintro _ h_39 ⟨b_12, rfl, hS, hk⟩
                          replace hK := hK.trans hk
                          replace hL_s_On := hL_s_On.kp hk
                          replace hL_s_Off := hL_s_Off.kp hk
                          replace hL_b := hL_b.kp hk
                          replace hL_1 := hL_1.kp hk
                          replace hL_2 := hL_2.kp hk
                          replace hL_3 := hL_3.kp hk
                          obtain ⟨ho_5, hM⟩ := hM
                          refine HO.eff (want_none) rfl (st_append te_22 hS (i := 8) rfl (hS.own 0 rfl).slice rfl rfl rfl (by intro a _ u hu; simp [e_api_Addr, encI, encN, encB, encT] at hu; rcases hu with rfl | rfl | rfl | rfl | rfl | rfl | rfl | rfl | rfl | rfl | rfl | rfl | rfl | rfl | rfl | rfl | rfl <;> rfl) ho_5 (by omega)) ?_
                          rintro v_4 h_40 ⟨hS, hk⟩
                          replace hS : St F_19 (Ow.own 27 17 e_api_Addr (.slice (some ⟨b_12, 0, none⟩) 1 1) ([(gi r_3 i_1)] : List T_api_Addr) :: Ow.box b_1 35 #[.bool s_Exclude, vs_On, vs_Off] :: Ow.box b_2 37 #[.bool false, .slice none 0 0, .slice none 0 0, .slice none 0 0, .slice none 0 0, .bool false, .slice none 0 0, .bool false] :: Ow.box b_3 37 #[.bool out_0_1, vout_1_1, vout_2_1, vout_3_3, vout_4_2, .bool out_5_1, vout_6_1, .bool out_7_1] :: Ow.own 27 17 e_api_Addr vout_1_1 out_1_1 :: Ow.own 27 17 e_api_Addr vout_2_1 out_2_1 :: Ow.own 27 17 e_api_Addr vout_3_3 out_3_3 :: Ow.own 27 17 e_api_Addr vout_4_2 out_4_2 :: Ow.own 27 17 e_api_Addr v_4 (out_6_1 ++ ([(gi r_3 i_1)] : List T_api_Addr)) :: Ow.box b_5 27 (e_api_Addr (gi r_3 i_1)).toArray :: fr) h_40 := hS
                          replace hK := hK.trans hk
                          replace hL_s_On := hL_s_On.kp hk
                          replace hL_s_Off := hL_s_Off.kp hk
                          replace hL_b := hL_b.kp hk
                          replace hL_1 := hL_1.kp hk
                          replace hL_2 := hL_2.kp hk
                          replace hL_3 := hL_3.kp hk
                          refine HO.val (v := .pointer (some ⟨b_3, 6, none⟩)) (want_none) rfl (q_fieldAddr fa_37_4 rfl rfl) ?_
                          refine HO.sto (want_none) rfl (st_store (c' := #[.bool out_0_1, vout_1_1, vout_2_1, vout_3_3, vout_4_2, .bool out_5_1, v_4, .bool out_7_1]) hS (i := 3) rfl to_22 rfl rfl (shp (hS.own 8 rfl).slice).cells (shp (hS.own 8 rfl).slice).one (Nat.le_of_ble_eq_true rfl) rfl) ?_
                          rintro h_41 ⟨hS, hk⟩
                          replace hS : St F_19 (Ow.own 27 17 e_api_Addr (.slice (some ⟨b_12, 0, none⟩) 1 1) ([(gi r_3 i_1)] : List T_api_Addr) :: Ow.box b_1 35 #[.bool s_Exclude, vs_On, vs_Off] :: Ow.box b_2 37 #[.bool false, .slice none 0 0, .slice none 0 0, .slice none 0 0, .slice none 0 0, .bool false, .slice none 0 0, .bool false] :: Ow.box b_3 37 #[.bool out_0_1, vout_1_1, vout_2_1, vout_3_3, vout_4_2, .bool out_5_1, v_4, .bool out_7_1] :: Ow.own 27 17 e_api_Addr vout_1_1 out_1_1 :: Ow.own 27 17 e_api_Addr vout_2_1 out_2_1 :: Ow.own 27 17 e_api_Addr vout_3_3 out_3_3 :: Ow.own 27 17 e_api_Addr vout_4_2 out_4_2 :: Ow.own 27 17 e_api_Addr v_4 (out_6_1 ++ ([(gi r_3 i_1)] : List T_api_Addr)) :: Ow.box b_5 27 (e_api_Addr (gi r_3 i_1)).toArray :: fr) h_41 := hS
                          replace hK := hK.trans hk
                          replace hL_s_On := hL_s_On.kp hk
                          replace hL_s_Off := hL_s_Off.kp hk
                          replace hL_b := hL_b.kp hk
                          replace hL_1 := hL_1.kp hk
                          replace hL_2 := hL_2.kp hk
                          replace hL_3 := hL_3.kp hk
                          refine HO.nil (thenQ_normal (?_))
                          replace hS : St F_19 (Ow.box b_1 35 #[.bool s_Exclude, vs_On, vs_Off] :: Ow.box b_2 37 #[.bool false, .slice none 0 0, .slice none 0 0, .slice none 0 0, .slice none 0 0, .bool false, .slice none 0 0, .bool false] :: Ow.box b_3 37 #[.bool out_0_1, vout_1_1, vout_2_1, vout_3_3, vout_4_2, .bool out_5_1, v_4, .bool out_7_1] :: Ow.own 27 17 e_api_Addr vout_1_1 out_1_1 :: Ow.own 27 17 e_api_Addr vout_2_1 out_2_1 :: Ow.own 27 17 e_api_Addr vout_3_3 out_3_3 :: Ow.own 27 17 e_api_Addr vout_4_2 out_4_2 :: Ow.own 27 17 e_api_Addr v_4 (out_6_1 ++ ([(gi r_3 i_1)] : List T_api_Addr)) :: Ow.box b_5 27 (e_api_Addr (gi r_3 i_1)).toArray :: fr) h_41 := hS.perm2 [1, 2, 3, 4, 5, 6, 7, 8, 9] 10 rfl rfl
                          exact ⟨F_19, out_6_1 ++ ([(gi r_3 i_1)] : List T_api_Addr), v_4, rfl, rfl, rfl, rfl, rfl, rfl, rfl, rfl, rfl, rfl, rfl, rfl, hK, hS, hL_s_On, hL_s_Off, hL_b, hL_1, hL_2, hL_3, hM⟩
                        · replace hM := hM.2 c_32
                          refine HW.skip (thenQ_normal (?_))
                          exact ⟨F_19, out_6_1, vout_6_1, rfl, rfl, rfl, rfl, rfl, rfl, rfl, rfl, rfl, rfl, rfl, rfl, hK, hS, hL_s_On, hL_s_Off, hL_b, hL_1, hL_2, hL_3, hM⟩
                      · rintro f_14 h_42 ⟨F_20, out_6_2, vout_6_2, e1, e2, e3, e6, e7, e8, e9, e10, e11, e12, e16, e17, hK, hS, hL_s_On, hL_s_Off, hL_b, hL_1, hL_2, hL_3, hM⟩
                        unfold ref15_Apply_j13 at hM
                        refine HW.fr [(1, .int .i64 kind), (2, vb), (3, .pointer (some ⟨b_1, 0, none⟩)), (6, .pointer (some ⟨b_2, 0, none⟩)), (7, .pointer (some ⟨b_3, 0, none⟩)), (8, .bool b_4), (9, .bool ex_1), (10, vr_3), (11, .int .i64 i_1), (12, .pointer (some ⟨b_5, 0, none⟩)), (16, .bool nowOn_3), (17, .bool nowOff_3)] ⟨e1, e2, e3, e6, e7, e8, e9, e10, e11, e12, e16, e17, trivial⟩ ?_
                        refine HW.seq_mid (fun f h => ∃ (F' : Fz) (out_1_2 : List T_api_Addr) (vout_1_2 : Value), f 1 = .int .i64 kind ∧ f 2 = vb ∧ f 3 = .pointer (some ⟨b_1, 0, none⟩) ∧ f 6 = .pointer (some ⟨b_2, 0, none⟩) ∧ f 7 = .pointer (some ⟨b_3, 0, none⟩) ∧ f 8 = .bool b_4 ∧ f 9 = .bool ex_1 ∧ f 10 = vr_3 ∧ f 11 = .int .i64 i_1 ∧ f 12 = .pointer (some ⟨b_5, 0, none⟩) ∧ f 17 = .bool nowOff_3 ∧ Kp F h0 F' h ∧ St F' (Ow.box b_1 35 #[.bool s_Exclude, vs_On, vs_Off] :: Ow.box b_2 37 #[.bool false, .slice none 0 0, .slice none 0 0, .slice none 0 0, .slice none 0 0, .bool false, .slice none 0 0, .bool false] :: Ow.box b_3 37 #[.bool out_0_1, vout_1_2, vout_2_1, vout_3_3, vout_4_2, .bool out_5_1, vout_6_2, .bool out_7_1] :: Ow.own 27 17 e_api_Addr vout_1_2 out_1_2 :: Ow.own 27 17 e_api_Addr vout_2_1 out_2_1 :: Ow.own 27 17 e_api_Addr vout_3_3 out_3_3 :: Ow.own 27 17 e_api_Addr vout_4_2 out_4_2 :: Ow.own 27 17 e_api_Addr vout_6_2 out_6_2 :: Ow.box b_5 27 (e_api_Addr (gi r_3 i_1)).toArray :: fr) h ∧ (SliceF F' h 17 e_api_Addr vs_On s_On) ∧ (SliceF F' h 17 e_api_Addr vs_Off s_Off) ∧ (SliceF F' h 17 e_api_Addr vb b) ∧ (SliceF F' h 17 e_api_Addr vr_1 r_1) ∧ (SliceF F' h 17 e_api_Addr vr_2 r_2) ∧ (SliceF F' h 17 e_api_Addr vr_3 r_3) ∧ ref15_Apply_j14 r_3 out_2_1 i_1 K_1 nowOff_3 out_3_3 out_4_2 out_6_2 out_1_2) ?_ ?_
                        · refine HW.seq ?_
                          refine HW.region ?_
                          refine HO.val (v := .bool nowOn_3) (want_none) rfl (q_move rfl) ?_
                          refine HO.nil (thenQ_normal (?_))
                          refine HW.cond nowOn_3 rfl (fun c_33 => ?_) (fun c_33 => ?_)
                          · replace hM := hM.1 c_33
                            refine HW.region ?_
                            refine HO.val (v := .pointer (some ⟨b_3, 0, none⟩)) (want_none) rfl (q_fieldAddr fa_37_0 rfl rfl) ?_
                            refine HO.val (v := .pointer (some ⟨b_3, 1, none⟩)) (want_none) rfl (q_fieldAddr fa_35_1 rfl rfl) ?_
                            refine HO.val (v := vout_1_1) (want_none) rfl (q_load to_22 rfl (Blk.cell (hS.box 2 rfl) rfl)) ?_
                            refine HO.val (v := .agg (e_api_Addr (gi r_3 i_1)).toArray) (want_none) rfl (q_loadAgg (cs := (e_api_Addr (gi r_3 i_1))) ta_27 rfl rfl (Blk.cells (k := 17) (hS.box 8 rfl) rfl)) ?_
                            refine HO.eff (want_none) rfl (st_lit (enc := e_api_Addr) (cells := #[.bool ((gi r_3 i_1).1), .int .u8 (b8 ((gi r_3 i_1).2) 0), .int .u8 (b8 ((gi r_3 i_1).2) 1), .int .u8 (b8 ((gi r_3 i_1).2) 2), .int .u8 (b8 ((gi r_3 i_1).2) 3), .int .u8 (b8 ((gi r_3 i_1).2) 4), .int .u8 (b8 ((gi r_3 i_1).2) 5), .int .u8 (b8 ((gi r_3 i_1).2) 6), .int .u8 (b8 ((gi r_3 i_1).2) 7), .int .u8 (b8 ((gi r_3 i_1).2) 8), .int .u8 (b8 ((gi r_3 i_1).2) 9), .int .u8 (b8 ((gi r_3 i_1).2) 10), .int .u8 (b8 ((gi r_3 i_1).2) 11), .int .u8 (b8 ((gi r_3 i_1).2) 12), .int .u8 (b8 ((gi r_3 i_1).2) 13), .int .u8 (b8 ((gi r_3 i_1).2) 14), .int .u8 (b8 ((gi r_3 i_1).2) 15)]) #[.bool false, .int .u8 0, .int .u8 0, .int .u8 0, .int .u8 0, .int .u8 0, .int .u8 0, .int .u8 0, .int .u8 0, .int .u8 0, .int .u8 0, .int .u8 0, .int .u8 0, .int .u8 0, .int .u8 0, .int .u8 0, .int .u8 0] ([(gi r_3 i_1)] : List T_api_Addr) hS tl_22 (by decide) (by decide) (by kernel_rfl) (by kernel_rfl) rfl (by intro x hx; rfl) rfl) ?_
                            rintro _ h_43 ⟨b_13, rfl, hS, hk⟩
                            replace hK := hK.trans hk
                            replace hL_s_On := hL_s_On.kp hk
                            replace hL_s_Off := hL_s_Off.kp hk
                            replace hL_b := hL_b.kp hk
                            replace hL_1 := hL_1.kp hk
                            replace hL_2 := hL_2.kp hk
                            replace hL_3 := hL_3.kp hk
                            obtain ⟨ho_6, hM⟩ := hM
                            refine HO.eff (want_none) rfl (st_append te_22 hS (i := 4) rfl (hS.own 0 rfl).slice rfl rfl rfl (by intro a _ u hu; simp [e_api_Addr, encI, encN, encB, encT] at hu; rcases hu with rfl | rfl | rfl | rfl | rfl | rfl | rfl | rfl | rfl | rfl | rfl | rfl | rfl | rfl | rfl | rfl | rfl <;> rfl) ho_6 (by omega)) ?_
                            rintro v_5 h_44 ⟨hS, hk⟩
                            replace hS : St F_20 (Ow.own 27 17 e_api_Addr (.slice (some ⟨b_13, 0, none⟩) 1 1) ([(gi r_3 i_1)] : List T_api_Addr) :: Ow.box b_1 35 #[.bool s_Exclude, vs_On, vs_Off] :: Ow.box b_2 37 #[.bool false, .slice none 0 0, .slice none 0 0, .slice none 0 0, .slice none 0 0, .bool false, .slice none 0 0, .bool false] :: Ow.box b_3 37 #[.bool out_0_1, vout_1_1, vout_2_1, vout_3_3, vout_4_2, .bool out_5_1, vout_6_2, .bool out_7_1] :: Ow.own 27 17 e_api_Addr v_5 (out_1_1 ++ ([(gi r_3 i_1)] : List T_api_Addr)) :: Ow.own 27 17 e_api_Addr vout_2_1 out_2_1 :: Ow.own 27 17 e_api_Addr vout_3_3 out_3_3 :: Ow.own 27 17 e_api_Addr vout_4_2 out_4_2 :: Ow.own 27 17 e_api_Addr vout_6_2 out_6_2 :: Ow.box b_5 27 (e_api_Addr (gi r_3 i_1)).toArray :: fr) h_44 := hS
                            replace hK := hK.trans hk
                            replace hL_s_On := hL_s_On.kp hk
                            replace hL_s_Off := hL_s_Off.kp hk
                            replace hL_b := hL_b.kp hk
                            replace hL_1 := hL_1.kp hk
                            replace hL_2 := hL_2.kp hk
                            replace hL_3 := hL_3.kp hk
                            refine HO.val (v := .pointer (some ⟨b_3, 0, none⟩)) (want_none) rfl (q_fieldAddr fa_37_0 rfl rfl) ?_
                            refine HO.val (v := .pointer (some ⟨b_3, 1, none⟩)) (want_none) rfl (q_fieldAddr fa_35_1 rfl rfl) ?_
                            refine HO.sto (want_none) rfl (st_store (c' := #[.bool out_0_1, v_5, vout_2_1, vout_3_3, vout_4_2, .bool out_5_1, vout_6_2, .bool out_7_1]) hS (i := 3) rfl to_22 rfl rfl (shp (hS.own 4 rfl).slice).cells (shp (hS.own 4 rfl).slice).one (Nat.le_of_ble_eq_true rfl) rfl) ?_
                            rintro h_45 ⟨hS, hk⟩
                            replace hS : St F_20 (Ow.own 27 17 e_api_Addr (.slice (some ⟨b_13, 0, none⟩) 1 1) ([(gi r_3 i_1)] : List T_api_Addr) :: Ow.box b_1 35 #[.bool s_Exclude, vs_On, vs_Off] :: Ow.box b_2 37 #[.bool false, .slice none 0 0, .slice none 0 0, .slice none 0 0, .slice none 0 0, .bool false, .slice none 0 0, .bool false] :: Ow.box b_3 37 #[.bool out_0_1, v_5, vout_2_1, vout_3_3, vout_4_2, .bool out_5_1, vout_6_2, .bool out_7_1] :: Ow.own 27 17 e_api_Addr v_5 (out_1_1 ++ ([(gi r_3 i_1)] : List T_api_Addr)) :: Ow.own 27 17 e_api_Addr vout_2_1 out_2_1 :: Ow.own 27 17 e_api_Addr vout_3_3 out_3_3 :: Ow.own 27 17 e_api_Addr vout_4_2 out_4_2 :: Ow.own 27 17 e_api_Addr vout_6_2 out_6_2 :: Ow.box b_5 27 (e_api_Addr (gi r_3 i_1)).toArray :: fr) h_45 := hS
                            replace hK := hK.trans hk
                            replace hL_s_On := hL_s_On.kp hk
                            replace hL_s_Off := hL_s_Off.kp hk
                            replace hL_b := hL_b.kp hk
                            replace hL_1 := hL_1.kp hk
                            replace hL_2 := hL_2.kp hk
                            replace hL_3 := hL_3.kp hk
                            refine HO.nil (thenQ_normal (?_))
                            replace hS : St F_20 (Ow.box b_1 35 #[.bool s_Exclude, vs_On, vs_Off] :: Ow.box b_2 37 #[.bool false, .slice none 0 0, .slice none 0 0, .slice none 0 0, .slice none 0 0, .bool false, .slice none 0 0, .bool false] :: Ow.box b_3 37 #[.bool out_0_1, v_5, vout_2_1, vout_3_3, vout_4_2, .bool out_5_1, vout_6_2, .bool out_7_1] :: Ow.own 27 17 e_api_Addr v_5 (out_1_1 ++ ([(gi r_3 i_1)] : List T_api_Addr)) :: Ow.own 27 17 e_api_Addr vout_2_1 out_2_1 :: Ow.own 27 17 e_api_Addr vout_3_3 out_3_3 :: Ow.own 27 17 e_api_Addr vout_4_2 out_4_2 :: Ow.own 27 17 e_api_Addr vout_6_2 out_6_2 :: Ow.box b_5 27 (e_api_Addr (gi r_3 i_1)).toArray :: fr) h_45 := hS.perm2 [1, 2, 3, 4, 5, 6, 7, 8, 9] 10 rfl rfl
                            exact ⟨F_20, out_1_1 ++ ([(gi r_3 i_1)] : List T_api_Addr), v_5, rfl, rfl, rfl, rfl, rfl, rfl, rfl, rfl, rfl, rfl, rfl, hK, hS, hL_s_On, hL_s_Off, hL_b, hL_1, hL_2, hL_3, hM⟩
                          · replace hM := hM.2 c_33
                            refine HW.skip (thenQ_normal (?_))
                            exact ⟨F_20, out_1_1, vout_1_1, rfl, rfl, rfl, rfl, rfl, rfl, rfl, rfl, rfl, rfl, rfl, hK, hS, hL_s_On, hL_s_Off, hL_b, hL_1, hL_2, hL_3, hM⟩
                        · rintro f_15 h_46 ⟨F_21, out_1_2, vout_1_2, e1, e2, e3, e6, e7, e8, e9, e10, e11, e12, e17, hK, hS, hL_s_On, hL_s_Off, hL_b, hL_1, hL_2, hL_3, hM⟩
                          unfold ref15_Apply_j14 at hM
                          refine HW.fr [(1, .int .i64 kind), (2, vb), (3, .pointer (some ⟨b_1, 0, none⟩)), (6, .pointer (some ⟨b_2, 0, none⟩)), (7, .pointer (some ⟨b_3, 0, none⟩)), (8, .bool b_4), (9, .bool ex_1), (10, vr_3), (11, .int .i64 i_1), (12, .pointer (some ⟨b_5, 0, none⟩)), (17, .bool nowOff_3)] ⟨e1, e2, e3, e6, e7, e8, e9, e10, e11, e12, e17, trivial⟩ ?_
                          refine HW.seq ?_
                          refine HW.region ?_
                          refine HO.val (v := .bool nowOff_3) (want_none) rfl (q_move rfl) ?_
                          refine HO.nil (thenQ_normal (?_))
                          refine HW.cond nowOff_3 rfl (fun c_34 => ?_) (fun c_34 => ?_)
                          · replace hM := hM.1 c_34
                            refine HW.region ?_
                            refine HO.val (v := .pointer (some ⟨b_3, 0, none⟩)) (want_none) rfl (q_fieldAddr fa_37_0 rfl rfl) ?_
                            refine HO.val (v := .pointer (some ⟨b_3, 2, none⟩)) (want_none) rfl (q_fieldAddr fa_35_2 rfl rfl) ?_
                            refine HO.val (v := vout_2_1) (want_none) rfl (q_load to_22 rfl (Blk.cell (hS.box 2 rfl) rfl)) ?_
                            refine HO.val (v := .agg (e_api_Addr (gi r_3 i_1)).toArray) (want_none) rfl (q_loadAgg (cs := (e_api_Addr (gi r_3 i_1))) ta_27 rfl rfl (Blk.cells (k := 17) (hS.box 8 rfl) rfl)) ?_
                            refine HO.eff (want_none) rfl (st_lit (enc := e_api_Addr) (cells := #[.bool ((gi r_3 i_1).1), .int .u8 (b8 ((gi r_3 i_1).2) 0), .int .u8 (b8 ((gi r_3 i_1).2) 1), .int .u8 (b8 ((gi r_3 i_1).2) 2), .int .u8 (b8 ((gi r_3 i_1).2) 3), .int .u8 (b8 ((gi r_3 i_1).2) 4), .int .u8 (b8 ((gi r_3 i_1).2) 5), .int .u8 (b8 ((gi r_3 i_1).2) 6), .int .u8 (b8 ((gi r_3 i_1).2) 7), .int .u8 (b8 ((gi r_3 i_1).2) 8), .int .u8 (b8 ((gi r_3 i_1).2) 9), .int .u8 (b8 ((gi r_3 i_1).2) 10), .int .u8 (b8 ((gi r_3 i_1).2) 11), .int .u8 (b8 ((gi r_3 i_1).2) 12), .int .u8 (b8 ((gi r_3 i_1).2) 13), .int .u8 (b8 ((gi r_3 i_1).2) 14), .int .u8 (b8 ((gi r_3 i_1).2) 15)]) #[.bool false, .int .u8 0, .int .u8 0, .int .u8 0, .int .u8 0, .int .u8 0, .int .u8 0, .int .u8 0, .int .u8 0, .int .u8 0, .int .u8 0, .int .u8 0, .int .u8 0, .int .u8 0, .int .u8 0, .int .u8 0, .int .u8 0] ([(gi r_3 i_1)] : List T_api_Addr) hS tl_22 (by decide) (by decide) (by kernel_rfl) (by kernel_rfl) rfl (by intro x hx; rfl) rfl) ?_
                            rintro _ h_47 ⟨b_14, rfl, hS, hk⟩
                            replace hK := hK.trans hk
                            replace hL_s_On := hL_s_On.kp hk
                            replace hL_s_Off := hL_s_Off.kp hk
                            replace hL_b := hL_b.kp hk
                            replace hL_1 := hL_1.kp hk
                            replace hL_2 := hL_2.kp hk
                            replace hL_3 := hL_3.kp hk
                            obtain ⟨ho_7, hM⟩ := hM
                            refine HO.eff (want_none) rfl (st_append te_22 hS (i := 5) rfl (hS.own 0 rfl).slice rfl rfl rfl (by intro a _ u hu; simp [e_api_Addr, encI, encN, encB, encT] at hu; rcases hu with rfl | rfl | rfl | rfl | rfl | rfl | rfl | rfl | rfl | rfl | rfl | rfl | rfl | rfl | rfl | rfl | rfl <;> rfl) ho_7 (by omega)) ?_
                            rintro v_6 h_48 ⟨hS, hk⟩
                            replace hS : St F_21 (Ow.own 27 17 e_api_Addr (.slice (some ⟨b_14, 0, none⟩) 1 1) ([(gi r_3 i_1)] : List T_api_Addr) :: Ow.box b_1 35 #[.bool s_Exclude, vs_On, vs_Off] :: Ow.box b_2 37 #[.bool false, .slice none 0 0, .slice none 0 0, .slice none 0 0, .slice none 0 0, .bool false, .slice none 0 0, .bool false] :: Ow.box b_3 37 #[.bool out_0_1, vout_1_2, vout_2_1, vout_3_3, vout_4_2, .bool out_5_1, vout_6_2, .bool out_7_1] :: Ow.own 27 17 e_api_Addr vout_1_2 out_1_2 :: Ow.own 27 17 e_api_Addr v_6 (out_2_1 ++ ([(gi r_3 i_1)] : List T_api_Addr)) :: Ow.own 27 17 e_api_Addr vout_3_3 out_3_3 :: Ow.own 27 17 e_api_Addr vout_4_2 out_4_2 :: Ow.own 27 17 e_api_Addr vout_6_2 out_6_2 :: Ow.box b_5 27 (e_api_Addr (gi r_3 i_1)).toArray :: fr) h_48 := hS
                            replace hK := hK.trans hk
                            replace hL_s_On := hL_s_On.kp hk
                            replace hL_s_Off := hL_s_Off.kp hk
                            replace hL_b := hL_b.kp hk
                            replace hL_1 := hL_1.kp hk
                            replace hL_2 := hL_2.kp hk
                            replace hL_3 := hL_3.kp hk
                            refine HO.val (v := .pointer (some ⟨b_3, 0, none⟩)) (want_none) rfl (q_fieldAddr fa_37_0 rfl rfl) ?_
                            refine HO.val (v := .pointer (some ⟨b_3, 2, none⟩)) (want_none) rfl (q_fieldAddr fa_35_2 rfl rfl) ?_
                            refine HO.sto (want_none) rfl (st_store (c' := #[.bool out_0_1, vout_1_2, v_6, vout_3_3, vout_4_2, .bool out_5_1, vout_6_2, .bool out_7_1]) hS (i := 3) rfl to_22 rfl rfl (shp (hS.own 5 rfl).slice).cells (shp (hS.own 5 rfl).slice).one (Nat.le_of_ble_eq_true rfl) rfl) ?_
                            rintro h_49 ⟨hS, hk⟩
                            replace hS : St F_21 (Ow.own 27 17 e_api_Addr (.slice (some ⟨b_14, 0, none⟩) 1 1) ([(gi r_3 i_1)] : List T_api_Addr) :: Ow.box b_1 35 #[.bool s_Exclude, vs_On, vs_Off] :: Ow.box b_2 37 #[.bool false, .slice none 0 0, .slice none 0 0, .slice none 0 0, .slice none 0 0, .bool false, .slice none 0 0, .bool false] :: Ow.box b_3 37 #[.bool out_0_1, vout_1_2, v_6, vout_3_3, vout_4_2, .bool out_5_1, vout_6_2, .bool out_7_1] :: Ow.own 27 17 e_api_Addr vout_1_2 out_1_2 :: Ow.own 27 17 e_api_Addr v_6 (out_2_1 ++ ([(gi r_3 i_1)] : List T_api_Addr)) :: Ow.own 27 17 e_api_Addr vout_3_3 out_3_3 :: Ow.own 27 17 e_api_Addr vout_4_2 out_4_2 :: Ow.own 27 17 e_api_Addr vout_6_2 out_6_2 :: Ow.box b_5 27 (e_api_Addr (gi r_3 i_1)).toArray :: fr) h_49 := hS
                            replace hK := hK.trans hk
                            replace hL_s_On := hL_s_On.kp hk
                            replace hL_s_Off := hL_s_Off.kp hk
                            replace hL_b := hL_b.kp hk
                            replace hL_1 := hL_1.kp hk
                            replace hL_2 := hL_2.kp hk
                            replace hL_3 := hL_3.kp hk
                            refine HO.nil (blockQ_normal (thenQ_normal (?_)))
                            refine HW.region ?_
                            refine HO.val (v := .int .i64 i_1) (want_none) rfl (q_move rfl) ?_
                            obtain ⟨ho_8, hM⟩ := hM
                            refine HO.val (v := .int .i64 (i_1 + 1)) (want_none) rfl (q_addN _ rfl rfl rfl ho_8.1 ho_8.2) ?_
                            refine HO.val (v := .int .i64 (i_1 + 1)) (want_none) rfl (q_assign rfl) ?_
                            refine HO.nil (thenQ_normal (?_))
                            replace hS : St F_21 (Ow.box b_1 35 #[.bool s_Exclude, vs_On, vs_Off] :: Ow.box b_2 37 #[.bool false, .slice none 0 0, .slice none 0 0, .slice none 0 0, .slice none 0 0, .bool false, .slice none 0 0, .bool false] :: Ow.box b_3 37 #[.bool out_0_1, vout_1_2, v_6, vout_3_3, vout_4_2, .bool out_5_1, vout_6_2, .bool out_7_1] :: Ow.own 27 17 e_api_Addr vout_1_2 out_1_2 :: Ow.own 27 17 e_api_Addr v_6 (out_2_1 ++ ([(gi r_3 i_1)] : List T_api_Addr)) :: Ow.own 27 17 e_api_Addr vout_3_3 out_3_3 :: Ow.own 27 17 e_api_Addr vout_4_2 out_4_2 :: Ow.own 27 17 e_api_Addr vout_6_2 out_6_2 :: fr) h_49 := hS.perm2 [1, 2, 3, 4, 5, 6, 7, 8] 10 rfl rfl
                            rw [hKe_1] at hM
                            exact ⟨(out_1_2, out_2_1 ++ ([(gi r_3 i_1)] : List T_api_Addr), out_3_3, out_4_2, out_6_2, i_1 + 1), ⟨F_21, vout_1_2, v_6, vout_3_3, vout_4_2, vout_6_2, rfl, rfl, rfl, rfl, rfl, rfl, rfl, rfl, rfl, hK, hS, hL_s_On, hL_s_Off, hL_b, hL_1, hL_2, hL_3, hM.1⟩, hM.2⟩
                          · replace hM := hM.2 c_34
                            refine HW.skip (blockQ_normal (thenQ_normal (?_)))
                            refine HW.region ?_
                            refine HO.val (v := .int .i64 i_1) (want_none) rfl (q_move rfl) ?_
                            obtain ⟨ho_9, hM⟩ := hM
                            refine HO.val (v := .int .i64 (i_1 + 1)) (want_none) rfl (q_addN _ rfl rfl rfl ho_9.1 ho_9.2) ?_
                            refine HO.val (v := .int .i64 (i_1 + 1)) (want_none) rfl (q_assign rfl) ?_
                            refine HO.nil (thenQ_normal (?_))
                            replace hS : St F_21 (Ow.box b_1 35 #[.bool s_Exclude, vs_On, vs_Off] :: Ow.box b_2 37 #[.bool false, .slice none 0 0, .slice none 0 0, .slice none 0 0, .slice none 0 0, .bool false, .slice none 0 0, .bool false] :: Ow.box b_3 37 #[.bool out_0_1, vout_1_2, vout_2_1, vout_3_3, vout_4_2, .bool out_5_1, vout_6_2, .bool out_7_1] :: Ow.own 27 17 e_api_Addr vout_1_2 out_1_2 :: Ow.own 27 17 e_api_Addr vout_2_1 out_2_1 :: Ow.own 27 17 e_api_Addr vout_3_3 out_3_3 :: Ow.own 27 17 e_api_Addr vout_4_2 out_4_2 :: Ow.own 27 17 e_api_Addr vout_6_2 out_6_2 :: fr) h_46 := hS.perm2 [0, 1, 2, 3, 4, 5, 6, 7] 9 rfl rfl
                            rw [hKe_1] at hM
                            exact ⟨(out_1_2, out_2_1, out_3_3, out_4_2, out_6_2, i_1 + 1), ⟨F_21, vout_1_2, vout_2_1, vout_3_3, vout_4_2, vout_6_2, rfl, rfl, rfl, rfl, rfl, rfl, rfl, rfl, rfl, hK, hS, hL_s_On, hL_s_Off, hL_b, hL_1, hL_2, hL_3, hM.1⟩, hM.2⟩
        · replace hM := hM.2 (of_decide_eq_false c_8)
          refine HW.exit (thenQ_exit (thenQ_exit (blockQ_exit (thenQ_normal (?_)))))
          refine HW.seq ?_
          refine HW.region ?_
          refine HO.val (v := .agg #[.bool out_0_1, vout_1_1, vout_2_1, vout_3_1, vout_4_1, .bool out_5_1, vout_6_1, .bool out_7_1]) (want_none) rfl (q_loadAgg (cs := [.bool out_0_1, vout_1_1, vout_2_1, vout_3_1, vout_4_1, .bool out_5_1, vout_6_1, .bool out_7_1]) ta_37 rfl rfl (Blk.cells (k := 8) (hS.box 2 rfl) rfl)) ?_
          refine HO.sto (want_none) rfl (st_storeAgg (c' := #[.bool out_0_1, vout_1_1, vout_2_1, vout_3_1, vout_4_1, .bool out_5_1, vout_6_1, .bool out_7_1]) hS (i := 1) rfl ta_37 rfl rfl rfl (List.forall_mem_cons.2 ⟨rfl, (List.forall_mem_cons.2 ⟨(shp (hS.own 3 rfl).slice).one, (List.forall_mem_cons.2 ⟨(shp (hS.own 4 rfl).slice).one, (List.forall_mem_cons.2 ⟨(shp (hS.own 5 rfl).slice).one, (List.forall_mem_cons.2 ⟨(shp (hS.own 6 rfl).slice).one, (List.forall_mem_cons.2 ⟨rfl, (List.forall_mem_cons.2 ⟨(shp (hS.own 7 rfl).slice).one, (List.forall_mem_cons.2 ⟨rfl, (fun _ h => by cases h)⟩)⟩)⟩)⟩)⟩)⟩)⟩)⟩) (Nat.le_of_ble_eq_true rfl) rfl) ?_
          rintro h_50 ⟨hS, hk⟩
          replace hS : St F_7 (Ow.box b_1 35 #[.bool s_Exclude, vs_On, vs_Off] :: Ow.box b_2 37 #[.bool out_0_1, vout_1_1, vout_2_1, vout_3_1, vout_4_1, .bool out_5_1, vout_6_1, .bool out_7_1] :: Ow.box b_3 37 #[.bool out_0_1, vout_1_1, vout_2_1, vout_3_1, vout_4_1, .bool out_5_1, vout_6_1, .bool out_7_1] :: Ow.own 27 17 e_api_Addr vout_1_1 out_1_1 :: Ow.own 27 17 e_api_Addr vout_2_1 out_2_1 :: Ow.own 27 17 e_api_Addr vout_3_1 out_3_1 :: Ow.own 27 17 e_api_Addr vout_4_1 out_4_1 :: Ow.own 27 17 e_api_Addr vout_6_1 out_6_1 :: fr) h_50 := hS
          replace hK := hK.trans hk
          replace hL_s_On := hL_s_On.kp hk
          replace hL_s_Off := hL_s_Off.kp hk
          replace hL_b := hL_b.kp hk
          replace hL_1 := hL_1.kp hk
          replace hL_2 := hL_2.kp hk
          replace hL_3 := hL_3.kp hk
          refine HO.nil (thenQ_normal (?_))
          refine HW.ret (?_)
          refine ⟨.inr rfl, .agg #[.bool out_0_1, vout_1_1, vout_2_1, vout_3_1, vout_4_1, .bool out_5_1, vout_6_1, .bool out_7_1], res1 rfl (rca (cs := [.bool out_0_1, vout_1_1, vout_2_1, vout_3_1, vout_4_1, .bool out_5_1, vout_6_1, .bool out_7_1]) ta_37 rfl rfl (Blk.cells (k := 8) (hS.box 1 rfl) rfl)), ?_⟩
          replace hS : St F_7 (Ow.own 27 17 e_api_Addr vout_1_1 out_1_1 :: Ow.own 27 17 e_api_Addr vout_2_1 out_2_1 :: Ow.own 27 17 e_api_Addr vout_3_1 out_3_1 :: Ow.own 27 17 e_api_Addr vout_4_1 out_4_1 :: Ow.own 27 17 e_api_Addr vout_6_1 out_6_1 :: fr) h_50 := hS.perm2 [3, 4, 5, 6, 7] 8 rfl rfl
          exact ⟨F_7, out_0_1, out_1_1, out_2_1, out_3_1, out_4_1, out_5_1, out_6_1, out_7_1, vout_1_1, vout_2_1, vout_3_1, vout_4_1, vout_6_1, rfl, hK, hS, hL_s_On, hL_s_Off, hL_b, hM⟩

def ref15_Lets_W (s_Exclude : Bool) (s_On : List T_api_Addr) (s_Off : List T_api_Addr) (a : T_api_Addr) (Q : Bool → Prop) : Prop :=
  (s_Exclude = true → ref11_Has_W s_Off a (fun r_2 => ((!r_2) = true → Q true) ∧ ((!r_2) = false → Q false))) ∧ (s_Exclude = false → ref11_Has_W s_On a (fun r_3 => Q r_3))
set_option maxHeartbeats 40000000 in
set_option maxRecDepth 100000 in
theorem ref15_Lets_walk {F : Fz} {fr : List Ow} {h0 : Heap} (s_Exclude : Bool) (s_On : List T_api_Addr) (s_Off : List T_api_Addr) (a : T_api_Addr) (vs_On : Value) (vs_Off : Value) (hS : St F (fr) h0) (hL_s_On : SliceF F h0 17 e_api_Addr vs_On s_On) (hL_s_Off : SliceF F h0 17 e_api_Addr vs_Off s_Off) {Q : Bool → Prop} (hM : ref15_Lets_W s_Exclude s_On s_Off a Q) :
    HC Tryd.prog 15 #[.agg #[.bool s_Exclude, vs_On, vs_Off], .agg (e_api_Addr a).toArray] h0 fun u h' => ∃ (F' : Fz) (r_1 : Bool), u = .bool r_1 ∧ Kp F h0 F' h' ∧ St F' (fr) h' ∧ (SliceF F' h' 17 e_api_Addr vs_On s_On) ∧ (SliceF F' h' 17 e_api_Addr vs_Off s_Off) ∧ Q r_1 := by
  unfold ref15_Lets_W at hM
  have hK := Kp.refl F h0
  refine HC.of_HW (n := 25) Tryd.func15 rfl rfl (Nat.le_of_ble_eq_true rfl) ?_
  refine HW.seq ?_
  refine HW.region ?_
  refine HO.eff (want_none) rfl (st_box (c := #[.bool s_Exclude, vs_On, vs_Off]) (k' := 3) hS rfl rfl) ?_
  rintro _ h_1 ⟨b_1, rfl, hS, hk⟩
  replace hK := hK.trans hk
  replace hL_s_On := hL_s_On.kp hk
  replace hL_s_Off := hL_s_Off.kp hk
  refine HO.eff (want_none) rfl (st_box (c := (e_api_Addr a).toArray) (k' := 17) hS rfl rfl) ?_
  rintro _ h_2 ⟨b_2, rfl, hS, hk⟩
  replace hK := hK.trans hk
  replace hL_s_On := hL_s_On.kp hk
  replace hL_s_Off := hL_s_Off.kp hk
  refine HO.val (v := .bool false) (want_none) rfl (q_assign rfl) ?_
  refine HO.nil (thenQ_normal (?_))
  refine HW.seq ?_
  refine HW.region ?_
  refine HO.val (v := .pointer (some ⟨b_1, 0, none⟩)) (want_none) rfl (q_fieldAddr fa_35_0 rfl rfl) ?_
  refine HO.val (v := .bool s_Exclude) (want_none) rfl (q_load to_4 rfl (Blk.cell (hS.box 1 rfl) rfl)) ?_
  refine HO.val (v := .bool s_Exclude) (want_none) rfl (q_move rfl) ?_
  rcases Bool.eq_false_or_eq_true s_Exclude with c_1 | c_1
  · replace hM := hM.1 c_1
    refine HO.val (v := .pointer (some ⟨b_1, 2, none⟩)) (want_by rfl rfl c_1) rfl (q_fieldAddr fa_35_2 rfl rfl) ?_
    refine HO.val (v := vs_Off) (want_by rfl rfl c_1) rfl (q_load to_22 rfl (Blk.cell (hS.box 1 rfl) rfl)) ?_
    refine HO.val (v := .agg (e_api_Addr a).toArray) (want_by rfl rfl c_1) rfl (q_loadAgg (cs := (e_api_Addr a)) ta_27 rfl rfl (Blk.cells (k := 17) (hS.box 0 rfl) rfl)) ?_
    refine HO.call (want_by rfl rfl c_1) rfl (ec en_38 rfl rfl) (ref11_Has_walk (fr := (Ow.box b_2 27 (e_api_Addr a).toArray :: Ow.box b_1 35 #[.bool s_Exclude, vs_On, vs_Off] :: fr)) s_Off a vs_Off hS hL_s_Off hM) ?_
    rintro _ h_3 ⟨F_1, r_2, rfl, hk, hS, _, hM⟩
    replace hK := hK.trans hk
    replace hL_s_On := hL_s_On.kp hk
    replace hL_s_Off := hL_s_Off.kp hk
    refine HO.val (v := .bool (!r_2)) (want_by rfl rfl c_1) rfl (q_not rfl) ?_
    refine HO.val (v := .bool (!r_2)) (want_none) rfl (q_pickK true rfl c_1 rfl) ?_
    refine HO.val (v := .bool (!r_2)) (want_none) rfl (q_move rfl) ?_
    rcases Bool.eq_false_or_eq_true (!r_2) with c_2 | c_2
    · replace hM := hM.1 c_2
      refine HO.past (past_by rfl rfl c_2) rfl ?_
      refine HO.past (past_by rfl rfl c_2) rfl ?_
      refine HO.past (past_by rfl rfl c_2) rfl ?_
      refine HO.past (past_by rfl rfl c_2) rfl ?_
      refine HO.past (past_undef rfl rfl) rfl ?_
      refine HO.past (past_undef rfl rfl) rfl ?_
      refine HO.past (past_undef rfl rfl) rfl ?_
      refine HO.past (past_undef rfl rfl) rfl ?_
      refine HO.past (past_by rfl rfl c_2) rfl ?_
      refine HO.val (v := .bool true) (want_none) rfl (q_pickK true rfl c_2 rfl) ?_
      refine HO.val (v := .bool true) (want_none) rfl (q_assign rfl) ?_
      refine HO.nil (thenQ_normal (?_))
      refine HW.ret (?_)
      refine ⟨.inr rfl, .bool true, res1 rfl (rt rfl), ?_⟩
      replace hS : St F_1 (fr) h_3 := hS.perm2 [] 2 rfl rfl
      exact ⟨F_1, true, rfl, hK, hS, hL_s_On, hL_s_Off, hM⟩
    · replace hM := hM.2 c_2
      refine HO.val (v := .pointer (some ⟨b_1, 0, none⟩)) (want_by rfl rfl c_2) rfl (q_fieldAddr fa_35_0 rfl rfl) ?_
      refine HO.val (v := .bool s_Exclude) (want_by rfl rfl c_2) rfl (q_load to_4 rfl (Blk.cell (hS.box 1 rfl) rfl)) ?_
      refine HO.val (v := .bool (!s_Exclude)) (want_by rfl rfl c_2) rfl (q_not rfl) ?_
      refine HO.val (v := .bool (!s_Exclude)) (want_by rfl rfl c_2) rfl (q_move rfl) ?_
      refine HO.past (past_by rfl rfl (by rw [c_1] <;> rfl)) rfl ?_
      refine HO.past (past_by rfl rfl (by rw [c_1] <;> rfl)) rfl ?_
      refine HO.past (past_by rfl rfl (by rw [c_1] <;> rfl)) rfl ?_
      refine HO.past (past_by rfl rfl (by rw [c_1] <;> rfl)) rfl ?_
      refine HO.val (v := .bool false) (want_by rfl rfl c_2) rfl (q_pickK false rfl (by rw [c_1] <;> rfl) rfl) ?_
      refine HO.val (v := .bool false) (want_none) rfl (q_pickK false rfl c_2 rfl) ?_
      refine HO.val (v := .bool false) (want_none) rfl (q_assign rfl) ?_
      refine HO.nil (thenQ_normal (?_))
      refine HW.ret (?_)
      refine ⟨.inr rfl, .bool false, res1 rfl (rt rfl), ?_⟩
      replace hS : St F_1 (fr) h_3 := hS.perm2 [] 2 rfl rfl
      exact ⟨F_1, false, rfl, hK, hS, hL_s_On, hL_s_Off, hM⟩
  · replace hM := hM.2 c_1
    refine HO.past (past_by rfl rfl c_1) rfl ?_
    refine HO.past (past_by rfl rfl c_1) rfl ?_
    refine HO.past (past_by rfl rfl c_1) rfl ?_
    refine HO.past (past_by rfl rfl c_1) rfl ?_
    refine HO.past (past_by rfl rfl c_1) rfl ?_
    refine HO.val (v := .bool false) (want_none) rfl (q_pickK false rfl c_1 rfl) ?_
    refine HO.val (v := .bool false) (want_none) rfl (q_move rfl) ?_
    refine HO.val (v := .pointer (some ⟨b_1, 0, none⟩)) (want_some rfl rfl) rfl (q_fieldAddr fa_35_0 rfl rfl) ?_
    refine HO.val (v := .bool s_Exclude) (want_some rfl rfl) rfl (q_load to_4 rfl (Blk.cell (hS.box 1 rfl) rfl)) ?_
    refine HO.val (v := .bool (!s_Exclude)) (want_some rfl rfl) rfl (q_not rfl) ?_
    refine HO.val (v := .bool (!s_Exclude)) (want_some rfl rfl) rfl (q_move rfl) ?_
    refine HO.val (v := .pointer (some ⟨b_1, 1, none⟩)) (want_by rfl rfl (by rw [c_1] <;> rfl)) rfl (q_fieldAddr fa_35_1 rfl rfl) ?_
    refine HO.val (v := vs_On) (want_by rfl rfl (by rw [c_1] <;> rfl)) rfl (q_load to_22 rfl (Blk.cell (hS.box 1 rfl) rfl)) ?_
    refine HO.val (v := .agg (e_api_Addr a).toArray) (want_by rfl rfl (by rw [c_1] <;> rfl)) rfl (q_loadAgg (cs := (e_api_Addr a)) ta_27 rfl rfl (Blk.cells (k := 17) (hS.box 0 rfl) rfl)) ?_
    refine HO.call (want_by rfl rfl (by rw [c_1] <;> rfl)) rfl (ec en_38 rfl rfl) (ref11_Has_walk (fr := (Ow.box b_2 27 (e_api_Addr a).toArray :: Ow.box b_1 35 #[.bool s_Exclude, vs_On, vs_Off] :: fr)) s_On a vs_On hS hL_s_On hM) ?_
    rintro _ h_4 ⟨F_2, r_3, rfl, hk, hS, _, hM⟩
    replace hK := hK.trans hk
    replace hL_s_On := hL_s_On.kp hk
    replace hL_s_Off := hL_s_Off.kp hk
    refine HO.val (v := .bool r_3) (want_some rfl rfl) rfl (q_pickK true rfl (by rw [c_1] <;> rfl) rfl) ?_
    refine HO.val (v := .bool r_3) (want_none) rfl (q_pick rfl rfl) ?_
    refine HO.val (v := .bool r_3) (want_none) rfl (q_assign rfl) ?_
    refine HO.nil (thenQ_normal (?_))
    refine HW.ret (?_)
    refine ⟨.inr rfl, .bool r_3, res1 rfl (rt rfl), ?_⟩
    replace hS : St F_2 (fr) h_4 := hS.perm2 [] 2 rfl rfl
    exact ⟨F_2, r_3, rfl, hK, hS, hL_s_On, hL_s_Off, hM⟩

def law19_four_W (last : Int) (Q : T_api_Addr → Prop) : Prop :=
  ((0 : Int) ≤ last ∧ last < 256) ∧ (Q (false, mkB 16 [10, 0, 0, last, 0, 0, 0, 0, 0, 0, 0, 0, 0, 0, 0, 0]))
set_option maxHeartbeats 40000000 in
set_option maxRecDepth 100000 in
theorem law19_four_walk {F : Fz} {fr : List Ow} {h0 : Heap} (last : Int) (hS : St F (fr) h0)  {Q : T_api_Addr → Prop} (hM : law19_four_W last Q) :
    HC Tryd.prog 50 #[.int .u8 last] h0 fun u h' => ∃ (F' : Fz) (r_1 : T_api_Addr), u = .agg (e_api_Addr r_1).toArray ∧ Kp F h0 F' h' ∧ St F' (fr) h' ∧ Q r_1 := by
  unfold law19_four_W at hM
  have hK := Kp.refl F h0
  refine HC.of_HW (n := 6) Tryd.func50 rfl rfl (Nat.le_of_ble_eq_true rfl) ?_
  refine HW.seq ?_
  refine HW.region ?_
  refine HO.eff (want_none) rfl (st_alloc (c := (e_api_Addr (false, (default : Ba 16))).toArray) hS tz_27 rfl) ?_
  rintro _ h_1 ⟨b_1, rfl, hS, hk⟩
  replace hK := hK.trans hk
  refine HO.nil (thenQ_normal (?_))
  refine HW.seq ?_
  refine HW.region ?_
  refine HO.val (v := .int .u8 last) (want_none) rfl (q_move rfl) ?_
  obtain ⟨ho_1, hM⟩ := hM
  refine HO.val (v := .agg (arrCells (mkB 16 [10, 0, 0, last, 0, 0, 0, 0, 0, 0, 0, 0, 0, 0, 0, 0])).toArray) (want_none) rfl ((q_buildA (cells := #[.int .u8 10, .int .u8 0, .int .u8 0, .int .u8 last, .int .u8 0, .int .u8 0, .int .u8 0, .int .u8 0, .int .u8 0, .int .u8 0, .int .u8 0, .int .u8 0, .int .u8 0, .int .u8 0, .int .u8 0, .int .u8 0]) tb_25 rfl).of_eq (mkB_agg (n := 16) (l := [10, 0, 0, last, 0, 0, 0, 0, 0, 0, 0, 0, 0, 0, 0, 0]) rfl ⟨⟨by decide, by decide⟩, ⟨⟨by decide, by decide⟩, ⟨⟨by decide, by decide⟩, ⟨ho_1, ⟨⟨by decide, by decide⟩, ⟨⟨by decide, by decide⟩, ⟨⟨by decide, by decide⟩, ⟨⟨by decide, by decide⟩, ⟨⟨by decide, by decide⟩, ⟨⟨by decide, by decide⟩, ⟨⟨by decide, by decide⟩, ⟨⟨by decide, by decide⟩, ⟨⟨by decide, by decide⟩, ⟨⟨by decide, by decide⟩, ⟨⟨by decide, by decide⟩, ⟨⟨by decide, by decide⟩, trivial⟩⟩⟩⟩⟩⟩⟩⟩⟩⟩⟩⟩⟩⟩⟩⟩)) ?_
  refine HO.val (v := .agg (e_api_Addr (false, mkB 16 [10, 0, 0, last, 0, 0, 0, 0, 0, 0, 0, 0, 0, 0, 0, 0])).toArray) (want_none) rfl (q_build tp_27 (fill_cons (cs' := (e_api_Addr (false, mkB 16 [10, 0, 0, last, 0, 0, 0, 0, 0, 0, 0, 0, 0, 0, 0, 0])).toArray) (vc := (arrCells (mkB 16 [10, 0, 0, last, 0, 0, 0, 0, 0, 0, 0, 0, 0, 0, 0, 0])).toArray) rfl rfl rfl (Nat.le_of_ble_eq_true rfl) rfl rfl)) ?_
  refine HO.sto (want_none) rfl (st_storeAgg (c' := (e_api_Addr (false, mkB 16 [10, 0, 0, last, 0, 0, 0, 0, 0, 0, 0, 0, 0, 0, 0, 0])).toArray) hS (i := 0) rfl ta_27 rfl rfl rfl (one_e_api_Addr _) (Nat.le_of_ble_eq_true rfl) rfl) ?_
  rintro h_2 ⟨hS, hk⟩
  replace hS : St F (Ow.box b_1 27 (e_api_Addr (false, mkB 16 [10, 0, 0, last, 0, 0, 0, 0, 0, 0, 0, 0, 0, 0, 0, 0])).toArray :: fr) h_2 := hS
  replace hK := hK.trans hk
  refine HO.nil (thenQ_normal (?_))
  refine HW.ret (?_)
  refine ⟨.inr rfl, .agg (e_api_Addr (false, mkB 16 [10, 0, 0, last, 0, 0, 0, 0, 0, 0, 0, 0, 0, 0, 0, 0])).toArray, res1 rfl (rca (cs := (e_api_Addr (false, mkB 16 [10, 0, 0, last, 0, 0, 0, 0, 0, 0, 0, 0, 0, 0, 0, 0]))) ta_27 rfl rfl (Blk.cells (k := 17) (hS.box 0 rfl) rfl)), ?_⟩
  replace hS : St F (fr) h_2 := hS.perm2 [] 1 rfl rfl
  exact ⟨F, (false, mkB 16 [10, 0, 0, last, 0, 0, 0, 0, 0, 0, 0, 0, 0, 0, 0, 0]), rfl, hK, hS, hM⟩

def srcs_Or_W (a : List T_api_Addr) (b : List T_api_Addr) (Q : (List T_api_Addr) → Prop) : Prop :=
  ∃ cf_1 : T_api_Addr → T_api_Addr → Int, (∀ x0 x1, addr_Cmp_W x0 x1 (fun r => r = cf_1 x0 x1)) ∧ (srcs_walk_api_Addr_W a b cf_1 true true true (fun r_2 => Q r_2))
set_option maxHeartbeats 40000000 in
set_option maxRecDepth 100000 in
theorem srcs_Or_walk {F : Fz} {fr : List Ow} {h0 : Heap} (a : List T_api_Addr) (b : List T_api_Addr) (va : Value) (vb : Value) (hS : St F (fr) h0) (hL_a : SliceF F h0 17 e_api_Addr va a) (hL_b : SliceF F h0 17 e_api_Addr vb b) {Q : (List T_api_Addr) → Prop} (hM : srcs_Or_W a b Q) :
    HC Tryd.prog 42 #[va, vb] h0 fun u h' => ∃ (F' : Fz) (r_1 : List T_api_Addr) (vr_1 : Value), u = vr_1 ∧ Kp F h0 F' h' ∧ St F' (Ow.own 27 17 e_api_Addr vr_1 r_1 :: fr) h' ∧ (SliceF F' h' 17 e_api_Addr va a) ∧ (SliceF F' h' 17 e_api_Addr vb b) ∧ Q r_1 := by
  unfold srcs_Or_W at hM
  have hK := Kp.refl F h0
  refine HC.of_HW (n := 8) Tryd.func42 rfl rfl (Nat.le_of_ble_eq_true rfl) ?_
  refine HW.seq ?_
  refine HW.region ?_
  refine HO.val (v := .slice none 0 0) (want_none) rfl (q_assign rfl) ?_
  refine HO.nil (thenQ_normal (?_))
  refine HW.seq ?_
  refine HW.region ?_
  refine HO.val (v := va) (want_none) rfl (q_move rfl) ?_
  refine HO.val (v := vb) (want_none) rfl (q_move rfl) ?_
  obtain ⟨cf_1, hc_1, hM⟩ := hM
  have hF_1 : FnP Tryd.prog F h0 59 #[] #[] (fun x : T_api_Addr × T_api_Addr => [.agg (e_api_Addr x.1).toArray, .agg (e_api_Addr x.2).toArray]) (fun x => .int .i64 (cf_1 x.1 x.2)) := FnP.of en_59 (fun x h' hk_ => @HC.mono ⟨true⟩ _ _ _ _ _ _ (@addr_Cmp_walk ⟨true⟩ (allF h') [] h' x.1 x.2  (St.init h')  (fun r => r = cf_1 x.1 x.2) (hc_1 x.1 x.2)) (fun u h'' ⟨F', r, hu, k_, _, hr⟩ => ⟨by rw [hu, hr], F', k_⟩))
  refine HO.call (want_none) rfl (ec en_64 rfl rfl) (srcs_walk_api_Addr_walk (fr := (fr)) a b cf_1 true true true va vb 59 (#[]) (#[]) hS hL_a hL_b hF_1 hM) ?_
  rintro vr_2 h_1 ⟨F_1, r_2, _, rfl, hk, hS, _, _, _, hM⟩
  replace hK := hK.trans hk
  replace hL_a := hL_a.kp hk
  replace hL_b := hL_b.kp hk
  replace hF_1 := hF_1.kp hk
  refine HO.val (v := vr_2) (want_none) rfl (q_assign rfl) ?_
  refine HO.nil (thenQ_normal (?_))
  refine HW.ret (?_)
  refine ⟨.inr rfl, vr_2, res1 rfl (rt rfl), ?_⟩
  exact ⟨F_1, r_2, vr_2, rfl, hK, hS, hL_a, hL_b, hM⟩

def srcs_And_W (a : List T_api_Addr) (b : List T_api_Addr) (Q : (List T_api_Addr) → Prop) : Prop :=
  ∃ cf_1 : T_api_Addr → T_api_Addr → Int, (∀ x0 x1, addr_Cmp_W x0 x1 (fun r => r = cf_1 x0 x1)) ∧ (srcs_walk_api_Addr_W a b cf_1 false true false (fun r_2 => Q r_2))
set_option maxHeartbeats 40000000 in
set_option maxRecDepth 100000 in
theorem srcs_And_walk {F : Fz} {fr : List Ow} {h0 : Heap} (a : List T_api_Addr) (b : List T_api_Addr) (va : Value) (vb : Value) (hS : St F (fr) h0) (hL_a : SliceF F h0 17 e_api_Addr va a) (hL_b : SliceF F h0 17 e_api_Addr vb b) {Q : (List T_api_Addr) → Prop} (hM : srcs_And_W a b Q) :
    HC Tryd.prog 40 #[va, vb] h0 fun u h' => ∃ (F' : Fz) (r_1 : List T_api_Addr) (vr_1 : Value), u = vr_1 ∧ Kp F h0 F' h' ∧ St F' (Ow.own 27 17 e_api_Addr vr_1 r_1 :: fr) h' ∧ (SliceF F' h' 17 e_api_Addr va a) ∧ (SliceF F' h' 17 e_api_Addr vb b) ∧ Q r_1 := by
  unfold srcs_And_W at hM
  have hK := Kp.refl F h0
  refine HC.of_HW (n := 8) Tryd.func40 rfl rfl (Nat.le_of_ble_eq_true rfl) ?_
  refine HW.seq ?_
  refine HW.region ?_
  refine HO.val (v := .slice none 0 0) (want_none) rfl (q_assign rfl) ?_
  refine HO.nil (thenQ_normal (?_))
  refine HW.seq ?_
  refine HW.region ?_
  refine HO.val (v := va) (want_none) rfl (q_move rfl) ?_
  refine HO.val (v := vb) (want_none) rfl (q_move rfl) ?_
  obtain ⟨cf_1, hc_1, hM⟩ := hM
  have hF_1 : FnP Tryd.prog F h0 59 #[] #[] (fun x : T_api_Addr × T_api_Addr => [.agg (e_api_Addr x.1).toArray, .agg (e_api_Addr x.2).toArray]) (fun x => .int .i64 (cf_1 x.1 x.2)) := FnP.of en_59 (fun x h' hk_ => @HC.mono ⟨true⟩ _ _ _ _ _ _ (@addr_Cmp_walk ⟨true⟩ (allF h') [] h' x.1 x.2  (St.init h')  (fun r => r = cf_1 x.1 x.2) (hc_1 x.1 x.2)) (fun u h'' ⟨F', r, hu, k_, _, hr⟩ => ⟨by rw [hu, hr], F', k_⟩))
  refine HO.call (want_none) rfl (ec en_64 rfl rfl) (srcs_walk_api_Addr_walk (fr := (fr)) a b cf_1 false true false va vb 59 (#[]) (#[]) hS hL_a hL_b hF_1 hM) ?_
  rintro vr_2 h_1 ⟨F_1, r_2, _, rfl, hk, hS, _, _, _, hM⟩
  replace hK := hK.trans hk
  replace hL_a := hL_a.kp hk
  replace hL_b := hL_b.kp hk
  replace hF_1 := hF_1.kp hk
  refine HO.val (v := vr_2) (want_none) rfl (q_assign rfl) ?_
  refine HO.nil (thenQ_normal (?_))
  refine HW.ret (?_)
  refine ⟨.inr rfl, vr_2, res1 rfl (rt rfl), ?_⟩
  exact ⟨F_1, r_2, vr_2, rfl, hK, hS, hL_a, hL_b, hM⟩

def merge_All_l1 (l : List T_api_Filter) (Q : Bool → (List T_api_Addr) → Prop) (K_1 : (List T_api_Addr) → Bool → (List T_api_Addr) → Int → Prop) (some_1 : List T_api_Addr) (out_0_1 : Bool) (out_1_1 : List T_api_Addr) (n_1 : Int) : Prop :=
  (n_1 < (l.length : Int) → ((0 : Int) ≤ n_1 ∧ n_1 < (l.length : Int)) ∧ (((!((gi l n_1).1)) = true → srcs_Or_W some_1 (((gi l n_1).2).2) (fun r_1 => (I64 (n_1 + 1)) ∧ (K_1 r_1 out_0_1 out_1_1 (n_1 + 1)))) ∧ ((!((gi l n_1).1)) = false → ((!out_0_1) = true → (I64 (n_1 + 1)) ∧ (K_1 some_1 true (((gi l n_1).2).2) (n_1 + 1))) ∧ ((!out_0_1) = false → srcs_And_W out_1_1 (((gi l n_1).2).2) (fun r_2 => (I64 (n_1 + 1)) ∧ (K_1 some_1 out_0_1 r_2 (n_1 + 1))))))) ∧ (¬ (n_1 < (l.length : Int)) → ((!out_0_1) = true → Q false some_1) ∧ ((!out_0_1) = false → srcs_Minus_W out_1_1 some_1 (fun r_3 => Q out_0_1 r_3)))
def merge_All_W (l : List T_api_Filter) (Q : Bool → (List T_api_Addr) → Prop) : Prop :=
  loopW (fun (K_1 : (List T_api_Addr × Bool × List T_api_Addr × Int) → Prop) (s : List T_api_Addr × Bool × List T_api_Addr × Int) => merge_All_l1 l Q (fun some_1 out_0_1 out_1_1 n_1 => K_1 (some_1, out_0_1, out_1_1, n_1)) s.1 s.2.1 s.2.2.1 s.2.2.2) ([], false, [], 0)
set_option maxHeartbeats 40000000 in
set_option maxRecDepth 100000 in
theorem merge_All_walk {F : Fz} {fr : List Ow} {h0 : Heap} (l : List T_api_Filter) (vl : Value) (hS : St F (fr) h0) (hN_l : NfL nf_api_Filter F h0 l) (hL_l : SliceF F h0 2 e_api_Filter vl l) {Q : Bool → (List T_api_Addr) → Prop} (hM : merge_All_W l Q) :
    HC Tryd.prog 17 #[vl] h0 fun u h' => ∃ (F' : Fz) (r_0_1 : Bool) (r_1_1 : List T_api_Addr) (vr_1_1 : Value), u = .agg #[.bool r_0_1, vr_1_1] ∧ Kp F h0 F' h' ∧ St F' (Ow.own 27 17 e_api_Addr vr_1_1 r_1_1 :: fr) h' ∧ (NfL nf_api_Filter F' h' l) ∧ (SliceF F' h' 2 e_api_Filter vl l) ∧ Q r_0_1 r_1_1 := by
  unfold merge_All_W at hM
  have hK := Kp.refl F h0
  refine HC.of_HW (n := 46) Tryd.func17 rfl rfl (Nat.le_of_ble_eq_true rfl) ?_
  refine HW.seq ?_
  refine HW.region ?_
  refine HO.eff (want_none) rfl (st_alloc (c := #[.bool false, .slice none 0 0]) hS tz_24 rfl) ?_
  rintro _ h_1 ⟨b_1, rfl, hS, hk⟩
  replace hK := hK.trans hk
  replace hN_l := hN_l.kp hk
  replace hL_l := hL_l.kp hk
  refine HO.nil (thenQ_normal (?_))
  refine HW.seq ?_
  refine HW.region ?_
  refine HO.val (v := .slice none 0 0) (want_none) rfl (q_assign rfl) ?_
  refine HO.nil (thenQ_normal (?_))
  refine HW.seq ?_
  refine HW.region ?_
  refine HO.eff (want_none) rfl (st_alloc (c := #[.bool false, .slice none 0 0]) hS tz_24 rfl) ?_
  rintro _ h_2 ⟨b_2, rfl, hS, hk⟩
  replace hK := hK.trans hk
  replace hN_l := hN_l.kp hk
  replace hL_l := hL_l.kp hk
  refine HO.nil (thenQ_normal (?_))
  refine HW.seq ?_
  refine HW.seq ?_
  refine HW.region ?_
  refine HO.val (v := vl) (want_none) rfl (q_move rfl) ?_
  refine HO.val (v := .int .i64 (l.length : Int)) (want_none) rfl (q_len ts_45 (shp hL_l.is) rfl rfl) ?_
  refine HO.val (v := .int .i64 0) (want_none) rfl (q_move rfl) ?_
  refine HO.nil (thenQ_normal (?_))
  refine HW.block ?_
  obtain ⟨I_1, m_1, hI_1, hR_1⟩ := hM
  replace hS := hS.nilOwn 27 17 e_api_Addr
  replace hS : St F (Ow.box b_1 24 #[.bool false, .slice none 0 0] :: Ow.own 27 17 e_api_Addr (.slice none 0 0) ([] : List T_api_Addr) :: Ow.box b_2 24 #[.bool false, .slice none 0 0] :: fr) h_2 := hS.perm2 [2, 0, 1] 3 rfl rfl
  refine HW.loop (S := List T_api_Addr × Bool × List T_api_Addr × Int) (fun s f h => match s with | (some_1, out_0_1, out_1_1, n_1) => ∃ (F' : Fz) (vsome_1 : Value) (vout_1_1 : Value), f 2 = .pointer (some ⟨b_1, 0, none⟩) ∧ f 3 = vsome_1 ∧ f 4 = .pointer (some ⟨b_2, 0, none⟩) ∧ f 7 = vl ∧ f 8 = .int .i64 (l.length : Int) ∧ f 9 = .int .i64 n_1 ∧ Kp F h0 F' h ∧ St F' (Ow.box b_1 24 #[.bool false, .slice none 0 0] :: Ow.own 27 17 e_api_Addr vsome_1 some_1 :: Ow.box b_2 24 #[.bool out_0_1, vout_1_1] :: fr) h ∧ (NfL nf_api_Filter F' h l) ∧ (SliceF F' h 2 e_api_Filter vl l) ∧ (SliceF F' h 17 e_api_Addr vout_1_1 out_1_1) ∧ I_1 (some_1, out_0_1, out_1_1, n_1)) m_1 ([], false, [], 0) ⟨F, .slice none 0 0, .slice none 0 0, rfl, rfl, rfl, rfl, rfl, rfl, hK, hS, hN_l, hL_l, (SliceF.nil _ _ _ _), hI_1⟩ ?_
  rintro ⟨some_1, out_0_1, out_1_1, n_1⟩ f_1 h_3 ⟨F_1, vsome_1, vout_1_1, e2, e3, e4, e7, e8, e9, hK, hS, hN_l, hL_l, hL_1, hI0⟩
  obtain ⟨K_1, hKe_1⟩ : ∃ K : (List T_api_Addr) → Bool → (List T_api_Addr) → Int → Prop, K = fun some_1' out_0_1' out_1_1' n_1' => I_1 (some_1', out_0_1', out_1_1', n_1') ∧ m_1 (some_1', out_0_1', out_1_1', n_1') < m_1 (some_1, out_0_1, out_1_1, n_1) := ⟨_, rfl⟩
  have hM : merge_All_l1 l Q K_1 some_1 out_0_1 out_1_1 n_1 := by rw [hKe_1]; exact hR_1 (some_1, out_0_1, out_1_1, n_1) hI0
  unfold merge_All_l1 at hM
  refine HW.fr [(2, .pointer (some ⟨b_1, 0, none⟩)), (3, vsome_1), (4, .pointer (some ⟨b_2, 0, none⟩)), (7, vl), (8, .int .i64 (l.length : Int)), (9, .int .i64 n_1)] ⟨e2, e3, e4, e7, e8, e9, trivial⟩ ?_
  refine HW.seq ?_
  refine HW.region ?_
  refine HO.val (v := .bool (decide (n_1 < (l.length : Int)))) (want_none) rfl (q_lss rfl rfl) ?_
  refine HO.nil (thenQ_normal (?_))
  refine HW.seq ?_
  refine HW.cond (decide (n_1 < (l.length : Int))) rfl (fun c_1 => ?_) (fun c_1 => ?_)
  · replace hM := hM.1 (of_decide_eq_true c_1)
    refine HW.skip (thenQ_normal (?_))
    refine HW.seq ?_
    refine HW.block ?_
    refine HW.seq ?_
    refine HW.region ?_
    obtain ⟨ho_1, hM⟩ := hM
    refine HO.val (v := elemPtr 2 vl (n_1).toNat) (want_none) rfl (q_idx ts_45 hL_l.is rfl rfl ho_1) ?_
    refine HO.val (v := .agg #[.bool ((gi l n_1).1), ((gi l n_1).2).1]) (want_none) rfl (q_ldElemAgg (cs := [.bool ((gi l n_1).1), ((gi l n_1).2).1]) ta_24 hL_l.is rfl ho_1 rfl) ?_
    refine HO.eff (want_none) rfl (st_alloc (c := #[.bool false, .slice none 0 0]) hS tz_24 rfl) ?_
    rintro _ h_4 ⟨b_3, rfl, hS, hk⟩
    replace hK := hK.trans hk
    replace hN_l := hN_l.kp hk
    replace hL_l := hL_l.kp hk
    replace hL_1 := hL_1.kp hk
    refine HO.sto (want_none) rfl (st_storeAgg (c' := #[.bool ((gi l n_1).1), ((gi l n_1).2).1]) hS (i := 0) rfl ta_24 rfl rfl rfl (List.forall_mem_cons.2 ⟨rfl, (List.forall_mem_cons.2 ⟨(shp (nfi_api_Filter_1 (NfI.at hN_l.is ho_1))).one, (fun _ h => by cases h)⟩)⟩) (Nat.le_of_ble_eq_true rfl) rfl) ?_
    rintro h_5 ⟨hS, hk⟩
    replace hS : St F_1 (Ow.box b_3 24 #[.bool ((gi l n_1).1), ((gi l n_1).2).1] :: Ow.box b_1 24 #[.bool false, .slice none 0 0] :: Ow.own 27 17 e_api_Addr vsome_1 some_1 :: Ow.box b_2 24 #[.bool out_0_1, vout_1_1] :: fr) h_5 := hS
    replace hK := hK.trans hk
    replace hN_l := hN_l.kp hk
    replace hL_l := hL_l.kp hk
    replace hL_1 := hL_1.kp hk
    refine HO.nil (thenQ_normal (?_))
    refine HW.block ?_
    refine HW.seq ?_
    refine HW.region ?_
    refine HO.val (v := .pointer (some ⟨b_3, 0, none⟩)) (want_none) rfl (q_fieldAddr fa_24_0 rfl rfl) ?_
    refine HO.val (v := .bool ((gi l n_1).1)) (want_none) rfl (q_load to_4 rfl (Blk.cell (hS.box 0 rfl) rfl)) ?_
    refine HO.val (v := .bool (!((gi l n_1).1))) (want_none) rfl (q_not rfl) ?_
    refine HO.val (v := .bool (!((gi l n_1).1))) (want_none) rfl (q_assign rfl) ?_
    refine HO.nil (thenQ_normal (?_))
    refine HW.cond (!((gi l n_1).1)) rfl (fun c_2 => ?_) (fun c_2 => ?_)
    · replace hM := hM.1 c_2
      refine HW.region ?_
      refine HO.val (v := vsome_1) (want_none) rfl (q_move rfl) ?_
      refine HO.val (v := .pointer (some ⟨b_3, 1, none⟩)) (want_none) rfl (q_fieldAddr fa_24_1 rfl rfl) ?_
      refine HO.val (v := ((gi l n_1).2).1) (want_none) rfl (q_load to_22 rfl (Blk.cell (hS.box 0 rfl) rfl)) ?_
      replace hS : St F_1 (Ow.own 27 17 e_api_Addr vsome_1 some_1 :: Ow.box b_3 24 #[.bool ((gi l n_1).1), ((gi l n_1).2).1] :: Ow.box b_1 24 #[.bool false, .slice none 0 0] :: Ow.box b_2 24 #[.bool out_0_1, vout_1_1] :: fr) h_5 := hS.perm2 [2, 0, 1, 3] 4 rfl rfl
      have hZ_1 := hS
      have hkz_1 := (hS.freeze).2
      replace hS := hS.freeze.1
      have hL_2 : SliceF (fun b => F_1 b ∨ (Ow.own 27 17 e_api_Addr vsome_1 some_1).foot b) h_5 17 e_api_Addr vsome_1 some_1 := ⟨(hZ_1.own 0 rfl).slice, fun _ b hb => .inr hb⟩
      refine HO.call (want_none) rfl (ec en_42 rfl rfl) (srcs_Or_walk (fr := (Ow.box b_3 24 #[.bool ((gi l n_1).1), ((gi l n_1).2).1] :: Ow.box b_1 24 #[.bool false, .slice none 0 0] :: Ow.box b_2 24 #[.bool out_0_1, vout_1_1] :: fr)) some_1 (((gi l n_1).2).2) vsome_1 (((gi l n_1).2).1) hS hL_2 (SliceF.kp (nff_api_Filter_1 (NfL.at hN_l ho_1)) hkz_1) hM) ?_
      rintro vr_1 h_6 ⟨F_2, r_1, _, rfl, hk, hS, _, _, hM⟩
      obtain ⟨hS, hk⟩ := hZ_1.back hk hS
      generalize (fun b => F_2 b ∧ ¬ (Ow.own 27 17 e_api_Addr vsome_1 some_1).foot b) = F_3 at hS hk
      replace hK := hK.trans hk
      replace hN_l := hN_l.kp hk
      replace hL_l := hL_l.kp hk
      replace hL_1 := hL_1.kp hk
      refine HO.val (v := vr_1) (want_none) rfl (q_assign rfl) ?_
      refine HO.nil (blockQ_normal (blockQ_normal (thenQ_normal (?_))))
      refine HW.region ?_
      obtain ⟨ho_2, hM⟩ := hM
      refine HO.val (v := .int .i64 (n_1 + 1)) (want_none) rfl (q_addN _ rfl rfl rfl ho_2.1 ho_2.2) ?_
      refine HO.val (v := .int .i64 (n_1 + 1)) (want_none) rfl (q_move rfl) ?_
      refine HO.nil (thenQ_normal (?_))
      replace hS : St F_3 (Ow.box b_1 24 #[.bool false, .slice none 0 0] :: Ow.own 27 17 e_api_Addr vr_1 r_1 :: Ow.box b_2 24 #[.bool out_0_1, vout_1_1] :: fr) h_6 := hS.perm2 [3, 1, 4] 5 rfl rfl
      rw [hKe_1] at hM
      exact ⟨(r_1, out_0_1, out_1_1, n_1 + 1), ⟨F_3, vr_1, vout_1_1, rfl, rfl, rfl, rfl, rfl, rfl, hK, hS, hN_l, hL_l, hL_1, hM.1⟩, hM.2⟩
    · replace hM := hM.2 c_2
      refine HW.seq ?_
      refine HW.region ?_
      refine HO.val (v := .pointer (some ⟨b_2, 0, none⟩)) (want_none) rfl (q_fieldAddr fa_24_0 rfl rfl) ?_
      refine HO.val (v := .bool out_0_1) (want_none) rfl (q_load to_4 rfl (Blk.cell (hS.box 3 rfl) rfl)) ?_
      refine HO.val (v := .bool (!out_0_1)) (want_none) rfl (q_not rfl) ?_
      refine HO.val (v := .bool (!out_0_1)) (want_none) rfl (q_assign rfl) ?_
      refine HO.nil (thenQ_normal (?_))
      refine HW.cond (!out_0_1) rfl (fun c_3 => ?_) (fun c_3 => ?_)
      · replace hM := hM.1 c_3
        refine HW.region ?_
        refine HO.val (v := .pointer (some ⟨b_3, 1, none⟩)) (want_none) rfl (q_fieldAddr fa_24_1 rfl rfl) ?_
        refine HO.val (v := ((gi l n_1).2).1) (want_none) rfl (q_load to_22 rfl (Blk.cell (hS.box 0 rfl) rfl)) ?_
        refine HO.val (v := .agg #[.bool true, ((gi l n_1).2).1]) (want_none) rfl (q_build tp_24 (fill_cons (cs' := #[.bool true, .slice none 0 0]) (vc := #[.bool true]) rfl rfl rfl (Nat.le_of_ble_eq_true rfl) rfl (fill_cons (cs' := #[.bool true, ((gi l n_1).2).1]) (vc := #[((gi l n_1).2).1]) rfl (shp (nfi_api_Filter_1 (NfI.at hN_l.is ho_1))).cells rfl (Nat.le_of_ble_eq_true rfl) rfl rfl))) ?_
        refine HO.sto (want_none) rfl (st_storeAgg (c' := #[.bool true, ((gi l n_1).2).1]) hS (i := 3) rfl ta_24 rfl rfl rfl (List.forall_mem_cons.2 ⟨rfl, (List.forall_mem_cons.2 ⟨(shp (nfi_api_Filter_1 (NfI.at hN_l.is ho_1))).one, (fun _ h => by cases h)⟩)⟩) (Nat.le_of_ble_eq_true rfl) rfl) ?_
        rintro h_7 ⟨hS, hk⟩
        replace hS : St F_1 (Ow.box b_3 24 #[.bool ((gi l n_1).1), ((gi l n_1).2).1] :: Ow.box b_1 24 #[.bool false, .slice none 0 0] :: Ow.own 27 17 e_api_Addr vsome_1 some_1 :: Ow.box b_2 24 #[.bool true, ((gi l n_1).2).1] :: fr) h_7 := hS
        replace hK := hK.trans hk
        replace hN_l := hN_l.kp hk
        replace hL_l := hL_l.kp hk
        replace hL_1 := hL_1.kp hk
        refine HO.nil (blockQ_normal (blockQ_normal (thenQ_normal (?_))))
        refine HW.region ?_
        obtain ⟨ho_3, hM⟩ := hM
        refine HO.val (v := .int .i64 (n_1 + 1)) (want_none) rfl (q_addN _ rfl rfl rfl ho_3.1 ho_3.2) ?_
        refine HO.val (v := .int .i64 (n_1 + 1)) (want_none) rfl (q_move rfl) ?_
        refine HO.nil (thenQ_normal (?_))
        replace hS : St F_1 (Ow.box b_1 24 #[.bool false, .slice none 0 0] :: Ow.own 27 17 e_api_Addr vsome_1 some_1 :: Ow.box b_2 24 #[.bool true, ((gi l n_1).2).1] :: fr) h_7 := hS.perm2 [1, 2, 3] 4 rfl rfl
        rw [hKe_1] at hM
        exact ⟨(some_1, true, ((gi l n_1).2).2, n_1 + 1), ⟨F_1, vsome_1, ((gi l n_1).2).1, rfl, rfl, rfl, rfl, rfl, rfl, hK, hS, hN_l, hL_l, (nff_api_Filter_1 (NfL.at hN_l ho_1)), hM.1⟩, hM.2⟩
      · replace hM := hM.2 c_3
        refine HW.region ?_
        refine HO.val (v := .pointer (some ⟨b_2, 1, none⟩)) (want_none) rfl (q_fieldAddr fa_24_1 rfl rfl) ?_
        refine HO.val (v := vout_1_1) (want_none) rfl (q_load to_22 rfl (Blk.cell (hS.box 3 rfl) rfl)) ?_
        refine HO.val (v := .pointer (some ⟨b_3, 1, none⟩)) (want_none) rfl (q_fieldAddr fa_24_1 rfl rfl) ?_
        refine HO.val (v := ((gi l n_1).2).1) (want_none) rfl (q_load to_22 rfl (Blk.cell (hS.box 0 rfl) rfl)) ?_
        refine HO.call (want_none) rfl (ec en_40 rfl rfl) (srcs_And_walk (fr := (Ow.box b_3 24 #[.bool ((gi l n_1).1), ((gi l n_1).2).1] :: Ow.box b_1 24 #[.bool false, .slice none 0 0] :: Ow.own 27 17 e_api_Addr vsome_1 some_1 :: Ow.box b_2 24 #[.bool out_0_1, vout_1_1] :: fr)) out_1_1 (((gi l n_1).2).2) vout_1_1 (((gi l n_1).2).1) hS hL_1 (nff_api_Filter_1 (NfL.at hN_l ho_1)) hM) ?_
        rintro vr_2 h_8 ⟨F_4, r_2, _, rfl, hk, hS, _, _, hM⟩
        replace hK := hK.trans hk
        replace hN_l := hN_l.kp hk
        replace hL_l := hL_l.kp hk
        replace hL_1 := hL_1.kp hk
        refine HO.val (v := .pointer (some ⟨b_2, 1, none⟩)) (want_none) rfl (q_fieldAddr fa_24_1 rfl rfl) ?_
        refine HO.sto (want_none) rfl (st_store (c' := #[.bool out_0_1, vr_2]) hS (i := 4) rfl to_22 rfl rfl (shp (hS.own 0 rfl).slice).cells (shp (hS.own 0 rfl).slice).one (Nat.le_of_ble_eq_true rfl) rfl) ?_
        rintro h_9 ⟨hS, hk⟩
        replace hS : St F_4 (Ow.own 27 17 e_api_Addr vr_2 r_2 :: Ow.box b_3 24 #[.bool ((gi l n_1).1), ((gi l n_1).2).1] :: Ow.box b_1 24 #[.bool false, .slice none 0 0] :: Ow.own 27 17 e_api_Addr vsome_1 some_1 :: Ow.box b_2 24 #[.bool out_0_1, vr_2] :: fr) h_9 := hS
        replace hK := hK.trans hk
        replace hN_l := hN_l.kp hk
        replace hL_l := hL_l.kp hk
        replace hL_1 := hL_1.kp hk
        refine HO.nil (blockQ_normal (blockQ_normal (thenQ_normal (?_))))
        refine HW.region ?_
        obtain ⟨ho_4, hM⟩ := hM
        refine HO.val (v := .int .i64 (n_1 + 1)) (want_none) rfl (q_addN _ rfl rfl rfl ho_4.1 ho_4.2) ?_
        refine HO.val (v := .int .i64 (n_1 + 1)) (want_none) rfl (q_move rfl) ?_
        refine HO.nil (thenQ_normal (?_))
        obtain ⟨F_5, hS, hk, hL_3⟩ := hS.freezeOwn
        replace hK := hK.trans hk
        replace hN_l := hN_l.kp hk
        replace hL_l := hL_l.kp hk
        replace hL_1 := hL_1.kp hk
        replace hS : St F_5 (Ow.box b_1 24 #[.bool false, .slice none 0 0] :: Ow.own 27 17 e_api_Addr vsome_1 some_1 :: Ow.box b_2 24 #[.bool out_0_1, vr_2] :: fr) h_9 := hS.perm2 [1, 2, 3] 4 rfl rfl
        rw [hKe_1] at hM
        exact ⟨(some_1, out_0_1, r_2, n_1 + 1), ⟨F_5, vsome_1, vr_2, rfl, rfl, rfl, rfl, rfl, rfl, hK, hS, hN_l, hL_l, hL_3, hM.1⟩, hM.2⟩
  · replace hM := hM.2 (of_decide_eq_false c_1)
    refine HW.exit (thenQ_exit (thenQ_exit (blockQ_exit (thenQ_normal (?_)))))
    refine HW.seq ?_
    refine HW.seq ?_
    refine HW.region ?_
    refine HO.val (v := .pointer (some ⟨b_2, 0, none⟩)) (want_none) rfl (q_fieldAddr fa_24_0 rfl rfl) ?_
    refine HO.val (v := .bool out_0_1) (want_none) rfl (q_load to_4 rfl (Blk.cell (hS.box 2 rfl) rfl)) ?_
    refine HO.val (v := .bool (!out_0_1)) (want_none) rfl (q_not rfl) ?_
    refine HO.nil (thenQ_normal (?_))
    refine HW.cond (!out_0_1) rfl (fun c_4 => ?_) (fun c_4 => ?_)
    · replace hM := hM.1 c_4
      refine HW.seq ?_
      refine HW.region ?_
      refine HO.val (v := vsome_1) (want_none) rfl (q_move rfl) ?_
      refine HO.val (v := .agg #[.bool false, vsome_1]) (want_none) rfl (q_build tp_24 (fill_cons (cs' := #[.bool false, vsome_1]) (vc := #[vsome_1]) rfl (shp (hS.own 1 rfl).slice).cells rfl (Nat.le_of_ble_eq_true rfl) rfl rfl)) ?_
      refine HO.sto (want_none) rfl (st_storeAgg (c' := #[.bool false, vsome_1]) hS (i := 0) rfl ta_24 rfl rfl rfl (List.forall_mem_cons.2 ⟨rfl, (List.forall_mem_cons.2 ⟨(shp (hS.own 1 rfl).slice).one, (fun _ h => by cases h)⟩)⟩) (Nat.le_of_ble_eq_true rfl) rfl) ?_
      rintro h_10 ⟨hS, hk⟩
      replace hS : St F_1 (Ow.box b_1 24 #[.bool false, vsome_1] :: Ow.own 27 17 e_api_Addr vsome_1 some_1 :: Ow.box b_2 24 #[.bool out_0_1, vout_1_1] :: fr) h_10 := hS
      replace hK := hK.trans hk
      replace hN_l := hN_l.kp hk
      replace hL_l := hL_l.kp hk
      replace hL_1 := hL_1.kp hk
      refine HO.nil (thenQ_normal (?_))
      refine HW.ret (thenQ_ret (?_))
      refine ⟨.inr rfl, .agg #[.bool false, vsome_1], res1 rfl (rca (cs := [.bool false, vsome_1]) ta_24 rfl rfl (Blk.cells (k := 2) (hS.box 0 rfl) rfl)), ?_⟩
      replace hS : St F_1 (Ow.own 27 17 e_api_Addr vsome_1 some_1 :: fr) h_10 := hS.perm2 [1] 3 rfl rfl
      exact ⟨F_1, false, some_1, vsome_1, rfl, hK, hS, hN_l, hL_l, hM⟩
    · replace hM := hM.2 c_4
      refine HW.skip (thenQ_normal (?_))
      refine HW.seq ?_
      refine HW.region ?_
      refine HO.val (v := .pointer (some ⟨b_2, 1, none⟩)) (want_none) rfl (q_fieldAddr fa_24_1 rfl rfl) ?_
      refine HO.val (v := vout_1_1) (want_none) rfl (q_load to_22 rfl (Blk.cell (hS.box 2 rfl) rfl)) ?_
      refine HO.val (v := vsome_1) (want_none) rfl (q_move rfl) ?_
      replace hS : St F_1 (Ow.own 27 17 e_api_Addr vsome_1 some_1 :: Ow.box b_1 24 #[.bool false, .slice none 0 0] :: Ow.box b_2 24 #[.bool out_0_1, vout_1_1] :: fr) h_3 := hS.perm2 [1, 0, 2] 3 rfl rfl
      have hZ_2 := hS
      have hkz_2 := (hS.freeze).2
      replace hS := hS.freeze.1
      have hL_4 : SliceF (fun b => F_1 b ∨ (Ow.own 27 17 e_api_Addr vsome_1 some_1).foot b) h_3 17 e_api_Addr vsome_1 some_1 := ⟨(hZ_2.own 0 rfl).slice, fun _ b hb => .inr hb⟩
      refine HO.call (want_none) rfl (ec en_41 rfl rfl) (srcs_Minus_walk (fr := (Ow.box b_1 24 #[.bool false, .slice none 0 0] :: Ow.box b_2 24 #[.bool out_0_1, vout_1_1] :: fr)) out_1_1 some_1 vout_1_1 vsome_1 hS (hL_1.kp hkz_2) hL_4 hM) ?_
      rintro vr_3 h_11 ⟨F_6, r_3, _, rfl, hk, hS, _, _, hM⟩
      obtain ⟨hS, hk⟩ := hZ_2.back hk hS
      generalize (fun b => F_6 b ∧ ¬ (Ow.own 27 17 e_api_Addr vsome_1 some_1).foot b) = F_7 at hS hk
      replace hK := hK.trans hk
      replace hN_l := hN_l.kp hk
      replace hL_l := hL_l.kp hk
      replace hL_1 := hL_1.kp hk
      refine HO.val (v := .pointer (some ⟨b_2, 1, none⟩)) (want_none) rfl (q_fieldAddr fa_24_1 rfl rfl) ?_
      refine HO.sto (want_none) rfl (st_store (c' := #[.bool out_0_1, vr_3]) hS (i := 3) rfl to_22 rfl rfl (shp (hS.own 1 rfl).slice).cells (shp (hS.own 1 rfl).slice).one (Nat.le_of_ble_eq_true rfl) rfl) ?_
      rintro h_12 ⟨hS, hk⟩
      replace hS : St F_7 (Ow.own 27 17 e_api_Addr vsome_1 some_1 :: Ow.own 27 17 e_api_Addr vr_3 r_3 :: Ow.box b_1 24 #[.bool false, .slice none 0 0] :: Ow.box b_2 24 #[.bool out_0_1, vr_3] :: fr) h_12 := hS
      replace hK := hK.trans hk
      replace hN_l := hN_l.kp hk
      replace hL_l := hL_l.kp hk
      replace hL_1 := hL_1.kp hk
      refine HO.nil (thenQ_normal (?_))
      refine HW.seq ?_
      refine HW.region ?_
      refine HO.val (v := .agg #[.bool out_0_1, vr_3]) (want_none) rfl (q_loadAgg (cs := [.bool out_0_1, vr_3]) ta_24 rfl rfl (Blk.cells (k := 2) (hS.box 3 rfl) rfl)) ?_
      refine HO.sto (want_none) rfl (st_storeAgg (c' := #[.bool out_0_1, vr_3]) hS (i := 2) rfl ta_24 rfl rfl rfl (List.forall_mem_cons.2 ⟨rfl, (List.forall_mem_cons.2 ⟨(shp (hS.own 1 rfl).slice).one, (fun _ h => by cases h)⟩)⟩) (Nat.le_of_ble_eq_true rfl) rfl) ?_
      rintro h_13 ⟨hS, hk⟩
      replace hS : St F_7 (Ow.own 27 17 e_api_Addr vsome_1 some_1 :: Ow.own 27 17 e_api_Addr vr_3 r_3 :: Ow.box b_1 24 #[.bool out_0_1, vr_3] :: Ow.box b_2 24 #[.bool out_0_1, vr_3] :: fr) h_13 := hS
      replace hK := hK.trans hk
      replace hN_l := hN_l.kp hk
      replace hL_l := hL_l.kp hk
      replace hL_1 := hL_1.kp hk
      refine HO.nil (thenQ_normal (?_))
      refine HW.ret (?_)
      refine ⟨.inr rfl, .agg #[.bool out_0_1, vr_3], res1 rfl (rca (cs := [.bool out_0_1, vr_3]) ta_24 rfl rfl (Blk.cells (k := 2) (hS.box 2 rfl) rfl)), ?_⟩
      replace hS : St F_7 (Ow.own 27 17 e_api_Addr vr_3 r_3 :: fr) h_13 := hS.perm2 [1] 4 rfl rfl
      exact ⟨F_7, out_0_1, r_3, vr_3, rfl, hK, hS, hN_l, hL_l, hM⟩

def addr_word_W (a : T_api_Addr) (i : Int) (Q : Int → Prop) : Prop :=
  (I64 (2 * i)) ∧ (((0 : Int) ≤ 2 * i ∧ 2 * i < 16) ∧ ((I64 ((2 * i) + 1)) ∧ (((0 : Int) ≤ (2 * i) + 1 ∧ (2 * i) + 1 < 16) ∧ (Q (bits .or .u64 (IntKind.u64.wrap ((IntKind.u64.wrap (b8 a.2 (2 * i))) * 2 ^ (min (8 : Int).toNat IntKind.u64.bits))) (IntKind.u64.wrap (b8 a.2 ((2 * i) + 1))))))))
set_option maxHeartbeats 40000000 in
set_option maxRecDepth 100000 in
theorem addr_word_walk {F : Fz} {fr : List Ow} {h0 : Heap} (a : T_api_Addr) (i : Int) (hS : St F (fr) h0)  {Q : Int → Prop} (hM : addr_word_W a i Q) :
    HC Tryd.prog 108 #[.agg (e_api_Addr a).toArray, .int .i64 i] h0 fun u h' => ∃ (F' : Fz) (r_1 : Int), u = .int .u64 r_1 ∧ Kp F h0 F' h' ∧ St F' (fr) h' ∧ Q r_1 := by
  unfold addr_word_W at hM
  have hK := Kp.refl F h0
  refine HC.of_HW (n := 20) Tryd.func108 rfl rfl (Nat.le_of_ble_eq_true rfl) ?_
  refine HW.seq ?_
  refine HW.region ?_
  refine HO.eff (want_none) rfl (st_box (c := (e_api_Addr a).toArray) (k' := 17) hS rfl rfl) ?_
  rintro _ h_1 ⟨b_1, rfl, hS, hk⟩
  replace hK := hK.trans hk
  refine HO.val (v := .int .u64 0) (want_none) rfl (q_assign rfl) ?_
  refine HO.nil (thenQ_normal (?_))
  refine HW.seq ?_
  refine HW.regionA 16 mixed (fun h => (Blk h b_1 (.cells (e_api_Addr a).toArray 27 (0, 0)))) [] (by kernel_rfl) ?_
  refine HA.val (k := 0) (v := .int .i64 i) rfl rfl (by kernel_rfl) (by kernel_rfl) (want_none) rfl (fun _ c201 => q_move rfl) ?_
  obtain ⟨ho_1, hM⟩ := hM
  refine HA.val (k := 1) (v := .int .i64 (2 * i)) rfl rfl (by kernel_rfl) (by kernel_rfl) (want_none) rfl (fun _ c201 => q_mulN _ rfl rfl rfl ho_1.1 ho_1.2) ?_
  refine HA.val (k := 2) (v := .pointer (some ⟨b_1, 1, none⟩)) rfl rfl (by kernel_rfl) (by kernel_rfl) (want_none) rfl (fun _ c201 => q_fieldAddr fa_27_1 rfl rfl) ?_
  obtain ⟨ho_2, hM⟩ := hM
  refine HA.val (k := 3) (v := .pointer (some ⟨b_1, 1 + (2 * i).toNat, none⟩)) rfl rfl (by kernel_rfl) (by kernel_rfl) (want_none) rfl (fun _ c201 => q_idxA (o := 1) (t := 2 * i) tr_25 rfl rfl ho_2) ?_
  refine HA.val (k := 4) (v := .int .u8 (b8 a.2 (2 * i))) rfl rfl (by kernel_rfl) (by kernel_rfl) (want_none) rfl (fun _ c201 => q_ldArr (o := 1) (t := 2 * i) (X := a.2) to_5 rfl c201 rfl ho_2) ?_
  refine HA.val (k := 5) (v := .int .u64 (IntKind.u64.wrap (b8 a.2 (2 * i)))) rfl rfl (by kernel_rfl) (by kernel_rfl) (want_none) rfl (fun _ c201 => q_convInt Tryd.underlying5 Tryd.underlying95 rfl rfl) ?_
  refine HA.val (k := 6) (v := .int .u64 (IntKind.u64.wrap ((IntKind.u64.wrap (b8 a.2 (2 * i))) * 2 ^ (min (8 : Int).toNat IntKind.u64.bits)))) rfl rfl (by kernel_rfl) (by kernel_rfl) (want_none) rfl (fun _ c201 => q_shl rfl rfl (by decide) rfl) ?_
  refine HA.val (k := 7) (v := .int .i64 i) rfl rfl (by kernel_rfl) (by kernel_rfl) (want_none) rfl (fun _ c201 => q_move rfl) ?_
  refine HA.val (k := 8) (v := .int .i64 (2 * i)) rfl rfl (by kernel_rfl) (by kernel_rfl) (want_none) rfl (fun _ c201 => q_mulN _ rfl rfl rfl ho_1.1 ho_1.2) ?_
  obtain ⟨ho_3, hM⟩ := hM
  refine HA.val (k := 9) (v := .int .i64 ((2 * i) + 1)) rfl rfl (by kernel_rfl) (by kernel_rfl) (want_none) rfl (fun _ c201 => q_addN _ rfl rfl rfl ho_3.1 ho_3.2) ?_
  refine HA.val (k := 10) (v := .pointer (some ⟨b_1, 1, none⟩)) rfl rfl (by kernel_rfl) (by kernel_rfl) (want_none) rfl (fun _ c201 => q_fieldAddr fa_27_1 rfl rfl) ?_
  obtain ⟨ho_4, hM⟩ := hM
  refine HA.val (k := 11) (v := .pointer (some ⟨b_1, 1 + ((2 * i) + 1).toNat, none⟩)) rfl rfl (by kernel_rfl) (by kernel_rfl) (want_none) rfl (fun _ c201 => q_idxA (o := 1) (t := (2 * i) + 1) tr_25 rfl rfl ho_4) ?_
  refine HA.val (k := 12) (v := .int .u8 (b8 a.2 ((2 * i) + 1))) rfl rfl (by kernel_rfl) (by kernel_rfl) (want_none) rfl (fun _ c201 => q_ldArr (o := 1) (t := (2 * i) + 1) (X := a.2) to_5 rfl c201 rfl ho_4) ?_
  refine HA.val (k := 13) (v := .int .u64 (IntKind.u64.wrap (b8 a.2 ((2 * i) + 1)))) rfl rfl (by kernel_rfl) (by kernel_rfl) (want_none) rfl (fun _ c201 => q_convInt Tryd.underlying5 Tryd.underlying95 rfl rfl) ?_
  refine HA.val (k := 14) (v := .int .u64 (bits .or .u64 (IntKind.u64.wrap ((IntKind.u64.wrap (b8 a.2 (2 * i))) * 2 ^ (min (8 : Int).toNat IntKind.u64.bits))) (IntKind.u64.wrap (b8 a.2 ((2 * i) + 1))))) rfl rfl (by kernel_rfl) (by kernel_rfl) (want_none) rfl (fun _ c201 => q_bits (by simp) rfl rfl) ?_
  refine HA.val (k := 15) (v := .int .u64 (bits .or .u64 (IntKind.u64.wrap ((IntKind.u64.wrap (b8 a.2 (2 * i))) * 2 ^ (min (8 : Int).toNat IntKind.u64.bits))) (IntKind.u64.wrap (b8 a.2 ((2 * i) + 1))))) rfl rfl (by kernel_rfl) (by kernel_rfl) (want_none) rfl (fun _ c201 => q_assign rfl) ?_
  refine HA.nil ⟨(hS.box 0 rfl), (Go.Wk.at_nil _ _)⟩ (by kernel_rfl) (thenQ_normal (?_))
  refine HW.ret (?_)
  refine ⟨.inr rfl, .int .u64 (bits .or .u64 (IntKind.u64.wrap ((IntKind.u64.wrap (b8 a.2 (2 * i))) * 2 ^ (min (8 : Int).toNat IntKind.u64.bits))) (IntKind.u64.wrap (b8 a.2 ((2 * i) + 1)))), res1 rfl (rt rfl), ?_⟩
  replace hS : St F (fr) h_1 := hS.perm2 [] 1 rfl rfl
  exact ⟨F, bits .or .u64 (IntKind.u64.wrap ((IntKind.u64.wrap (b8 a.2 (2 * i))) * 2 ^ (min (8 : Int).toNat IntKind.u64.bits))) (IntKind.u64.wrap (b8 a.2 ((2 * i) + 1))), rfl, hK, hS, hM⟩

def addr_row_j1 (n_1 : Int) (most_1 : Int) (i_1 : Int) (K_1 : Int → Int → Int → Prop) (n_2 : Int) : Prop :=
  (most_1 < n_2 → (I64 (n_2 + 1)) ∧ ((I64 (i_1 + (n_2 + 1))) ∧ (K_1 i_1 n_2 (i_1 + (n_2 + 1))))) ∧ (¬ (most_1 < n_2) → (I64 (n_2 + 1)) ∧ ((I64 (i_1 + (n_2 + 1))) ∧ (K_1 n_1 most_1 (i_1 + (n_2 + 1)))))
def addr_row_l2 (a : T_api_Addr) (n_1 : Int) (most_1 : Int) (i_1 : Int) (K_1 : Int → Int → Int → Prop) (K_2 : Int → Prop) (n_3 : Int) : Prop :=
  (I64 (i_1 + n_3)) ∧ (((i_1 + n_3) < 8 → addr_word_W a (i_1 + n_3) (fun r_1 => (r_1 = 0 → (I64 (n_3 + 1)) ∧ (K_2 (n_3 + 1))) ∧ (¬ (r_1 = 0) → addr_row_j1 n_1 most_1 i_1 K_1 n_3))) ∧ (¬ ((i_1 + n_3) < 8) → addr_row_j1 n_1 most_1 i_1 K_1 n_3))
def addr_row_l1 (a : T_api_Addr) (Q : Int → Int → Prop) (K_1 : Int → Int → Int → Prop) (n_1 : Int) (most_1 : Int) (i_1 : Int) : Prop :=
  (i_1 < 8 → loopW (fun (K_2 : Int → Prop) (s : Int) => addr_row_l2 a n_1 most_1 i_1 K_1 K_2 s) 0) ∧ (¬ (i_1 < 8) → Q n_1 most_1)
def addr_row_W (a : T_api_Addr) (Q : Int → Int → Prop) : Prop :=
  loopW (fun (K_1 : (Int × Int × Int) → Prop) (s : Int × Int × Int) => addr_row_l1 a Q (fun n_1 most_1 i_1 => K_1 (n_1, most_1, i_1)) s.1 s.2.1 s.2.2) (0, 1, 0)
set_option maxHeartbeats 40000000 in
set_option maxRecDepth 100000 in
theorem addr_row_walk {F : Fz} {fr : List Ow} {h0 : Heap} (a : T_api_Addr) (hS : St F (fr) h0)  {Q : Int → Int → Prop} (hM : addr_row_W a Q) :
    HC Tryd.prog 103 #[.agg (e_api_Addr a).toArray] h0 fun u h' => ∃ (F' : Fz) (r0_1 : Int) (r1_1 : Int), u = .tuple #[.int .i64 r0_1, .int .i64 r1_1] ∧ Kp F h0 F' h' ∧ St F' (fr) h' ∧ Q r0_1 r1_1 := by
  unfold addr_row_W at hM
  have hK := Kp.refl F h0
  refine HC.of_HW (n := 35) Tryd.func103 rfl rfl (Nat.le_of_ble_eq_true rfl) ?_
  refine HW.seq ?_
  refine HW.region ?_
  refine HO.eff (want_none) rfl (st_box (c := (e_api_Addr a).toArray) (k' := 17) hS rfl rfl) ?_
  rintro _ h_1 ⟨b_1, rfl, hS, hk⟩
  replace hK := hK.trans hk
  refine HO.val (v := .int .i64 0) (want_none) rfl (q_assign rfl) ?_
  refine HO.val (v := .int .i64 0) (want_none) rfl (q_assign rfl) ?_
  refine HO.nil (thenQ_normal (?_))
  refine HW.seq ?_
  refine HW.region ?_
  refine HO.val (v := .int .i64 0) (want_none) rfl (q_assign rfl) ?_
  refine HO.val (v := .int .i64 1) (want_none) rfl (q_assign rfl) ?_
  refine HO.nil (thenQ_normal (?_))
  refine HW.seq ?_
  refine HW.seq ?_
  refine HW.region ?_
  refine HO.val (v := .int .i64 0) (want_none) rfl (q_assign rfl) ?_
  refine HO.nil (thenQ_normal (?_))
  refine HW.block ?_
  obtain ⟨I_1, m_1, hI_1, hR_1⟩ := hM
  refine HW.loop (S := Int × Int × Int) (fun s f h => match s with | (n_1, most_1, i_1) => ∃ (F' : Fz), f 1 = .pointer (some ⟨b_1, 0, none⟩) ∧ f 2 = .int .i64 0 ∧ f 3 = .int .i64 0 ∧ f 4 = .int .i64 n_1 ∧ f 5 = .int .i64 most_1 ∧ f 6 = .int .i64 i_1 ∧ Kp F h0 F' h ∧ St F' (Ow.box b_1 27 (e_api_Addr a).toArray :: fr) h ∧ I_1 (n_1, most_1, i_1)) m_1 (0, 1, 0) ⟨F, rfl, rfl, rfl, rfl, rfl, rfl, hK, hS, hI_1⟩ ?_
  rintro ⟨n_1, most_1, i_1⟩ f_1 h_2 ⟨F_1, e1, e2, e3, e4, e5, e6, hK, hS, hI0⟩
  obtain ⟨K_1, hKe_1⟩ : ∃ K : Int → Int → Int → Prop, K = fun n_1' most_1' i_1' => I_1 (n_1', most_1', i_1') ∧ m_1 (n_1', most_1', i_1') < m_1 (n_1, most_1, i_1) := ⟨_, rfl⟩
  have hM : addr_row_l1 a Q K_1 n_1 most_1 i_1 := by rw [hKe_1]; exact hR_1 (n_1, most_1, i_1) hI0
  unfold addr_row_l1 at hM
  refine HW.fr [(1, .pointer (some ⟨b_1, 0, none⟩)), (2, .int .i64 0), (3, .int .i64 0), (4, .int .i64 n_1), (5, .int .i64 most_1), (6, .int .i64 i_1)] ⟨e1, e2, e3, e4, e5, e6, trivial⟩ ?_
  refine HW.seq ?_
  refine HW.seq ?_
  refine HW.region ?_
  refine HO.val (v := .int .i64 i_1) (want_none) rfl (q_move rfl) ?_
  refine HO.val (v := .bool (decide (i_1 < 8))) (want_none) rfl (q_lss rfl rfl) ?_
  refine HO.nil (thenQ_normal (?_))
  refine HW.cond (decide (i_1 < 8)) rfl (fun c_1 => ?_) (fun c_1 => ?_)
  · replace hM := hM.1 (of_decide_eq_true c_1)
    refine HW.skip (thenQ_normal (?_))
    refine HW.block ?_
    refine HW.seq ?_
    refine HW.region ?_
    refine HO.val (v := .int .i64 0) (want_none) rfl (q_assign rfl) ?_
    refine HO.nil (thenQ_normal (?_))
    refine HW.seq_mid (fun f h => ∃ (F' : Fz) (n_2 : Int), f 1 = .pointer (some ⟨b_1, 0, none⟩) ∧ f 2 = .int .i64 0 ∧ f 3 = .int .i64 0 ∧ f 4 = .int .i64 n_1 ∧ f 5 = .int .i64 most_1 ∧ f 6 = .int .i64 i_1 ∧ f 7 = .int .i64 n_2 ∧ Kp F h0 F' h ∧ St F' (Ow.box b_1 27 (e_api_Addr a).toArray :: fr) h ∧ addr_row_j1 n_1 most_1 i_1 K_1 n_2) ?_ ?_
    · refine HW.block ?_
      obtain ⟨I_2, m_2, hI_2, hR_2⟩ := hM
      refine HW.loop (S := Int) (fun n_3 f h => ∃ (F' : Fz), f 1 = .pointer (some ⟨b_1, 0, none⟩) ∧ f 2 = .int .i64 0 ∧ f 3 = .int .i64 0 ∧ f 4 = .int .i64 n_1 ∧ f 5 = .int .i64 most_1 ∧ f 6 = .int .i64 i_1 ∧ f 7 = .int .i64 n_3 ∧ Kp F h0 F' h ∧ St F' (Ow.box b_1 27 (e_api_Addr a).toArray :: fr) h ∧ I_2 n_3) m_2 0 ⟨F_1, rfl, rfl, rfl, rfl, rfl, rfl, rfl, hK, hS, hI_2⟩ ?_
      rintro n_3 f_2 h_3 ⟨F_2, e1, e2, e3, e4, e5, e6, e7, hK, hS, hI0⟩
      obtain ⟨K_2, hKe_2⟩ : ∃ K : Int → Prop, K = fun n_3' => I_2 n_3' ∧ m_2 n_3' < m_2 n_3 := ⟨_, rfl⟩
      have hM : addr_row_l2 a n_1 most_1 i_1 K_1 K_2 n_3 := by rw [hKe_2]; exact hR_2 n_3 hI0
      unfold addr_row_l2 at hM
      refine HW.fr [(1, .pointer (some ⟨b_1, 0, none⟩)), (2, .int .i64 0), (3, .int .i64 0), (4, .int .i64 n_1), (5, .int .i64 most_1), (6, .int .i64 i_1), (7, .int .i64 n_3)] ⟨e1, e2, e3, e4, e5, e6, e7, trivial⟩ ?_
      refine HW.seq ?_
      refine HW.seq ?_
      refine HW.region ?_
      refine HO.val (v := .int .i64 i_1) (want_none) rfl (q_move rfl) ?_
      refine HO.val (v := .int .i64 n_3) (want_none) rfl (q_move rfl) ?_
      obtain ⟨ho_1, hM⟩ := hM
      refine HO.val (v := .int .i64 (i_1 + n_3)) (want_none) rfl (q_addN _ rfl rfl rfl ho_1.1 ho_1.2) ?_
      refine HO.val (v := .bool (decide ((i_1 + n_3) < 8))) (want_none) rfl (q_lss rfl rfl) ?_
      refine HO.val (v := .bool (decide ((i_1 + n_3) < 8))) (want_none) rfl (q_move rfl) ?_
      rcases Bool.eq_false_or_eq_true (decide ((i_1 + n_3) < 8)) with c_2 | c_2
      · replace hM := hM.1 (of_decide_eq_true c_2)
        refine HO.val (v := .agg (e_api_Addr a).toArray) (want_by rfl rfl c_2) rfl (q_loadAgg (cs := (e_api_Addr a)) ta_27 rfl rfl (Blk.cells (k := 17) (hS.box 0 rfl) rfl)) ?_
        refine HO.val (v := .int .i64 i_1) (want_by rfl rfl c_2) rfl (q_move rfl) ?_
        refine HO.val (v := .int .i64 n_3) (want_by rfl rfl c_2) rfl (q_move rfl) ?_
        refine HO.val (v := .int .i64 (i_1 + n_3)) (want_by rfl rfl c_2) rfl (q_addN _ rfl rfl rfl ho_1.1 ho_1.2) ?_
        refine HO.call (want_by rfl rfl c_2) rfl (ec en_108 rfl rfl) (addr_word_walk (fr := (Ow.box b_1 27 (e_api_Addr a).toArray :: fr)) a (i_1 + n_3) hS hM) ?_
        rintro _ h_4 ⟨F_3, r_1, rfl, hk, hS, hM⟩
        replace hK := hK.trans hk
        refine HO.val (v := .bool (decide (r_1 = 0))) (want_by rfl rfl c_2) rfl (q_eql rfl rfl) ?_
        refine HO.val (v := .bool (decide (r_1 = 0))) (want_none) rfl (q_pickK true rfl c_2 rfl) ?_
        refine HO.nil (thenQ_normal (?_))
        refine HW.cond (decide (r_1 = 0)) rfl (fun c_3 => ?_) (fun c_3 => ?_)
        · replace hM := hM.1 (of_decide_eq_true c_3)
          refine HW.skip (thenQ_normal (?_))
          refine HW.block ?_
          refine HW.region ?_
          refine HO.val (v := .int .i64 n_3) (want_none) rfl (q_move rfl) ?_
          obtain ⟨ho_2, hM⟩ := hM
          refine HO.val (v := .int .i64 (n_3 + 1)) (want_none) rfl (q_addN _ rfl rfl rfl ho_2.1 ho_2.2) ?_
          refine HO.val (v := .int .i64 (n_3 + 1)) (want_none) rfl (q_assign rfl) ?_
          refine HO.nil (blockQ_normal (thenQ_normal (?_)))
          rw [hKe_2] at hM
          exact ⟨n_3 + 1, ⟨F_3, rfl, rfl, rfl, rfl, rfl, rfl, rfl, hK, hS, hM.1⟩, hM.2⟩
        · replace hM := hM.2 (of_decide_eq_false c_3)
          refine HW.exit (thenQ_exit (thenQ_exit (blockQ_exit (thenQ_normal (?_)))))
          exact ⟨F_3, n_3, rfl, rfl, rfl, rfl, rfl, rfl, rfl, hK, hS, hM⟩
      · replace hM := hM.2 (of_decide_eq_false c_2)
        refine HO.past (past_by rfl rfl c_2) rfl ?_
        refine HO.past (past_by rfl rfl c_2) rfl ?_
        refine HO.past (past_by rfl rfl c_2) rfl ?_
        refine HO.past (past_by rfl rfl c_2) rfl ?_
        refine HO.past (past_by rfl rfl c_2) rfl ?_
        refine HO.past (past_by rfl rfl c_2) rfl ?_
        refine HO.val (v := .bool false) (want_none) rfl (q_pickK false rfl c_2 rfl) ?_
        refine HO.nil (thenQ_normal (?_))
        refine HW.condF rfl ?_
        refine HW.exit (thenQ_exit (thenQ_exit (blockQ_exit (thenQ_normal (?_)))))
        exact ⟨F_2, n_3, rfl, rfl, rfl, rfl, rfl, rfl, rfl, hK, hS, hM⟩
    · rintro f_3 h_5 ⟨F_4, n_2, e1, e2, e3, e4, e5, e6, e7, hK, hS, hM⟩
      unfold addr_row_j1 at hM
      refine HW.fr [(1, .pointer (some ⟨b_1, 0, none⟩)), (2, .int .i64 0), (3, .int .i64 0), (4, .int .i64 n_1), (5, .int .i64 most_1), (6, .int .i64 i_1), (7, .int .i64 n_2)] ⟨e1, e2, e3, e4, e5, e6, e7, trivial⟩ ?_
      refine HW.seq ?_
      refine HW.seq ?_
      refine HW.region ?_
      refine HO.val (v := .int .i64 n_2) (want_none) rfl (q_move rfl) ?_
      refine HO.val (v := .int .i64 most_1) (want_none) rfl (q_move rfl) ?_
      refine HO.val (v := .bool (decide (most_1 < n_2))) (want_none) rfl (q_gtr rfl rfl) ?_
      refine HO.nil (thenQ_normal (?_))
      refine HW.cond (decide (most_1 < n_2)) rfl (fun c_4 => ?_) (fun c_4 => ?_)
      · replace hM := hM.1 (of_decide_eq_true c_4)
        refine HW.region ?_
        refine HO.val (v := .int .i64 i_1) (want_none) rfl (q_move rfl) ?_
        refine HO.val (v := .int .i64 n_2) (want_none) rfl (q_move rfl) ?_
        refine HO.val (v := .int .i64 i_1) (want_none) rfl (q_assign rfl) ?_
        refine HO.val (v := .int .i64 n_2) (want_none) rfl (q_assign rfl) ?_
        refine HO.nil (thenQ_normal (?_))
        refine HW.region ?_
        refine HO.val (v := .int .i64 i_1) (want_none) rfl (q_move rfl) ?_
        refine HO.val (v := .int .i64 n_2) (want_none) rfl (q_move rfl) ?_
        obtain ⟨ho_3, hM⟩ := hM
        refine HO.val (v := .int .i64 (n_2 + 1)) (want_none) rfl (q_addN _ rfl rfl rfl ho_3.1 ho_3.2) ?_
        obtain ⟨ho_4, hM⟩ := hM
        refine HO.val (v := .int .i64 (i_1 + (n_2 + 1))) (want_none) rfl (q_addN _ rfl rfl rfl ho_4.1 ho_4.2) ?_
        refine HO.val (v := .int .i64 (i_1 + (n_2 + 1))) (want_none) rfl (q_assign rfl) ?_
        refine HO.nil (blockQ_normal (thenQ_normal (?_)))
        rw [hKe_1] at hM
        exact ⟨(i_1, n_2, i_1 + (n_2 + 1)), ⟨F_4, rfl, rfl, rfl, rfl, rfl, rfl, hK, hS, hM.1⟩, hM.2⟩
      · replace hM := hM.2 (of_decide_eq_false c_4)
        refine HW.skip (thenQ_normal (?_))
        refine HW.region ?_
        refine HO.val (v := .int .i64 i_1) (want_none) rfl (q_move rfl) ?_
        refine HO.val (v := .int .i64 n_2) (want_none) rfl (q_move rfl) ?_
        obtain ⟨ho_5, hM⟩ := hM
        refine HO.val (v := .int .i64 (n_2 + 1)) (want_none) rfl (q_addN _ rfl rfl rfl ho_5.1 ho_5.2) ?_
        obtain ⟨ho_6, hM⟩ := hM
        refine HO.val (v := .int .i64 (i_1 + (n_2 + 1))) (want_none) rfl (q_addN _ rfl rfl rfl ho_6.1 ho_6.2) ?_
        refine HO.val (v := .int .i64 (i_1 + (n_2 + 1))) (want_none) rfl (q_assign rfl) ?_
        refine HO.nil (blockQ_normal (thenQ_normal (?_)))
        rw [hKe_1] at hM
        exact ⟨(n_1, most_1, i_1 + (n_2 + 1)), ⟨F_4, rfl, rfl, rfl, rfl, rfl, rfl, hK, hS, hM.1⟩, hM.2⟩
  · replace hM := hM.2 (of_decide_eq_false c_1)
    refine HW.exit (thenQ_exit (thenQ_exit (blockQ_exit (thenQ_normal (?_)))))
    refine HW.seq ?_
    refine HW.region ?_
    refine HO.val (v := .int .i64 n_1) (want_none) rfl (q_move rfl) ?_
    refine HO.val (v := .int .i64 most_1) (want_none) rfl (q_move rfl) ?_
    refine HO.val (v := .int .i64 n_1) (want_none) rfl (q_assign rfl) ?_
    refine HO.val (v := .int .i64 most_1) (want_none) rfl (q_assign rfl) ?_
    refine HO.nil (thenQ_normal (?_))
    refine HW.ret (?_)
    refine ⟨.inr rfl, .tuple #[.int .i64 n_1, .int .i64 most_1], res2 rfl (rt rfl) (rt rfl), ?_⟩
    replace hS : St F_1 (fr) h_2 := hS.perm2 [] 1 rfl rfl
    exact ⟨F_1, n_1, most_1, rfl, hK, hS, hM⟩

def addr_list_l1 (a : T_api_Addr) (from1 : Int) (to : Int) (Q : Str → Prop) (K_1 : Prop) : Prop :=
  (from1 < to → addr_word_W a from1 (fun r_2 => False)) ∧ (¬ (from1 < to) → ((([] : List Str)).length ≤ 140737488355328 ∧ (joinS ([] : List Str) ([58] : Str)).length ≤ 140737488355328) ∧ (Q (joinS ([] : List Str) ([58] : Str))))
def addr_list_W (a : T_api_Addr) (from1 : Int) (to : Int) (Q : Str → Prop) : Prop :=
  loopW (fun (K_1 : Unit → Prop) (s : Unit) => addr_list_l1 a from1 to Q (K_1 ())) ()
set_option maxHeartbeats 40000000 in
set_option maxRecDepth 100000 in
theorem addr_list_walk {F : Fz} {fr : List Ow} {h0 : Heap} (a : T_api_Addr) (from1 : Int) (to : Int) (hS : St F (fr) h0)  (hD : DM.on = false) {Q : Str → Prop} (hM : addr_list_W a from1 to Q) :
    HC Tryd.prog 104 #[.agg (e_api_Addr a).toArray, .int .i64 from1, .int .i64 to] h0 fun u h' => ∃ (F' : Fz) (r_1 : Str), u = .string (bs r_1) ∧ Kp F h0 F' h' ∧ St F' (fr) h' ∧ Q r_1 := by
  unfold addr_list_W at hM
  have hK := Kp.refl F h0
  refine HC.of_HW (n := 24) Tryd.func104 rfl rfl (Nat.le_of_ble_eq_true rfl) ?_
  refine HW.seq ?_
  refine HW.region ?_
  refine HO.eff (want_none) rfl (st_box (c := (e_api_Addr a).toArray) (k' := 17) hS rfl rfl) ?_
  rintro _ h_1 ⟨b_1, rfl, hS, hk⟩
  replace hK := hK.trans hk
  refine HO.val (v := .string (bs [])) (want_none) rfl (q_assign rfl) ?_
  refine HO.nil (thenQ_normal (?_))
  refine HW.seq ?_
  refine HW.region ?_
  refine HO.val (v := .slice none 0 0) (want_none) rfl (q_assign rfl) ?_
  refine HO.nil (thenQ_normal (?_))
  refine HW.seq ?_
  refine HW.seq ?_
  refine HW.region ?_
  refine HO.val (v := .int .i64 from1) (want_none) rfl (q_move rfl) ?_
  refine HO.val (v := .int .i64 from1) (want_none) rfl (q_assign rfl) ?_
  refine HO.nil (thenQ_normal (?_))
  refine HW.block ?_
  obtain ⟨I_1, m_1, hI_1, hR_1⟩ := hM
  refine HW.loop (S := Unit) (fun _ f h => ∃ (F' : Fz), f 2 = .int .i64 to ∧ f 3 = .pointer (some ⟨b_1, 0, none⟩) ∧ f 6 = .string (bs []) ∧ f 7 = .slice none 0 0 ∧ f 8 = .int .i64 from1 ∧ Kp F h0 F' h ∧ St F' (Ow.box b_1 27 (e_api_Addr a).toArray :: fr) h ∧ I_1 ()) m_1 () ⟨F, rfl, rfl, rfl, rfl, rfl, hK, hS, hI_1⟩ ?_
  rintro _ f_1 h_2 ⟨F_1, e2, e3, e6, e7, e8, hK, hS, hI0⟩
  obtain ⟨K_1, hKe_1⟩ : ∃ K : Prop, K = (I_1 () ∧ m_1 () < m_1 ()) := ⟨_, rfl⟩
  have hM : addr_list_l1 a from1 to Q K_1 := by rw [hKe_1]; exact hR_1 () hI0
  unfold addr_list_l1 at hM
  refine HW.fr [(2, .int .i64 to), (3, .pointer (some ⟨b_1, 0, none⟩)), (6, .string (bs [])), (7, .slice none 0 0), (8, .int .i64 from1)] ⟨e2, e3, e6, e7, e8, trivial⟩ ?_
  refine HW.seq ?_
  refine HW.seq ?_
  refine HW.region ?_
  refine HO.val (v := .int .i64 from1) (want_none) rfl (q_move rfl) ?_
  refine HO.val (v := .int .i64 to) (want_none) rfl (q_move rfl) ?_
  refine HO.val (v := .bool (decide (from1 < to))) (want_none) rfl (q_lss rfl rfl) ?_
  refine HO.nil (thenQ_normal (?_))
  refine HW.cond (decide (from1 < to)) rfl (fun c_1 => ?_) (fun c_1 => ?_)
  · replace hM := hM.1 (of_decide_eq_true c_1)
    refine HW.skip (thenQ_normal (?_))
    refine HW.seq ?_
    refine HW.block ?_
    refine HW.region ?_
    refine HO.val (v := .slice none 0 0) (want_none) rfl (q_move rfl) ?_
    refine HO.val (v := .agg (e_api_Addr a).toArray) (want_none) rfl (q_loadAgg (cs := (e_api_Addr a)) ta_27 rfl rfl (Blk.cells (k := 17) (hS.box 0 rfl) rfl)) ?_
    refine HO.val (v := .int .i64 from1) (want_none) rfl (q_move rfl) ?_
    refine HO.call (want_none) rfl (ec en_108 rfl rfl) (addr_word_walk (fr := (Ow.box b_1 27 (e_api_Addr a).toArray :: fr)) a from1 hS hM) ?_
    rintro _ h_3 ⟨F_2, r_2, rfl, hk, hS, hM⟩
    replace hK := hK.trans hk
    exact hM.elim
  · replace hM := hM.2 (of_decide_eq_false c_1)
    refine HW.exit (thenQ_exit (thenQ_exit (blockQ_exit (thenQ_normal (?_)))))
    refine HW.seq ?_
    refine HW.region ?_
    refine HO.val (v := .slice none 0 0) (want_none) rfl (q_move rfl) ?_
    obtain ⟨ho_1, hM⟩ := hM
    refine HO.call (want_none) rfl (ec en_90 rfl rfl) (strJoin_hc hD Tryd.join Tryd.joinX ([58] : Str) hS (SliceIs.nil _ _ _) ho_1.1 ho_1.2) ?_
    rintro _ h_4 ⟨rfl, hS, hk⟩
    replace hK := hK.trans hk
    refine HO.val (v := .string (bs (joinS ([] : List Str) ([58] : Str)))) (want_none) rfl (q_assign rfl) ?_
    refine HO.nil (thenQ_normal (?_))
    refine HW.ret (?_)
    refine ⟨.inr rfl, .string (bs (joinS ([] : List Str) ([58] : Str))), res1 rfl (rt rfl), ?_⟩
    replace hS : St F_1 (fr) h_4 := hS.perm2 [] 1 rfl rfl
    exact ⟨F_1, joinS ([] : List Str) ([58] : Str), rfl, hK, hS, hM⟩

def addr_text_l2 (a : T_api_Addr) (Q : Str → Prop) (K_1 : (List Str) → Int → Prop) (l_1 : List Str) (n_1 : Int) : Prop :=
  (n_1 < ((cut a.2.1 0 4).length : Int) → ((0 : Int) ≤ n_1 ∧ n_1 < ((cut a.2.1 0 4).length : Int)) ∧ ((I64 ((gi (cut a.2.1 0 4) n_1).toNat : Int)) ∧ (((0 : Int) ≤ ((gi (cut a.2.1 0 4) n_1).toNat : Int) ∧ ((gi (cut a.2.1 0 4) n_1).toNat : Int) < 100) ∧ (((l_1.length + ([dec ((gi (cut a.2.1 0 4) n_1).toNat : Int)] : List Str).length) * 16 ≤ 140737488355328) ∧ ((I64 (n_1 + 1)) ∧ (K_1 (l_1 ++ ([dec ((gi (cut a.2.1 0 4) n_1).toNat : Int)] : List Str)) (n_1 + 1))))))) ∧ (¬ (n_1 < ((cut a.2.1 0 4).length : Int)) → ((l_1).length ≤ 140737488355328 ∧ (joinS l_1 ([46] : Str)).length ≤ 140737488355328) ∧ (Q (joinS l_1 ([46] : Str))))
def addr_text_W (a : T_api_Addr) (Q : Str → Prop) : Prop :=
  ((!a.1) = true → loopW (fun (K_1 : (List Str × Int) → Prop) (s : List Str × Int) => addr_text_l2 a Q (fun l_1 n_1 => K_1 (l_1, n_1)) s.1 s.2) ([], 0)) ∧ ((!a.1) = false → addr_row_W a (fun r0_1 r1_1 => (r1_1 < 2 → addr_list_W a 0 8 (fun r_2 => Q r_2)) ∧ (¬ (r1_1 < 2) → (I64 (r0_1 + r1_1)) ∧ (addr_list_W a 0 r0_1 (fun r_3 => ((r_3.length : Int) + ((([58, 58] : Str)).length : Int) ≤ 9223372036854775807) ∧ (addr_list_W a (r0_1 + r1_1) 8 (fun r_4 => (((r_3 ++ ([58, 58] : Str)).length : Int) + (r_4.length : Int) ≤ 9223372036854775807) ∧ (Q ((r_3 ++ ([58, 58] : Str)) ++ r_4)))))))))
set_option maxHeartbeats 40000000 in
set_option maxRecDepth 100000 in
theorem addr_text_walk {F : Fz} {fr : List Ow} {h0 : Heap} (a : T_api_Addr) (hS : St F (fr) h0)  (hD : DM.on = false) {Q : Str → Prop} (hM : addr_text_W a Q) :
    HC Tryd.prog 97 #[.agg (e_api_Addr a).toArray] h0 fun u h' => ∃ (F' : Fz) (r_1 : Str), u = .string (bs r_1) ∧ Kp F h0 F' h' ∧ St F' (fr) h' ∧ Q r_1 := by
  unfold addr_text_W at hM
  have hK := Kp.refl F h0
  refine HC.of_HW (n := 46) Tryd.func97 rfl rfl (Nat.le_of_ble_eq_true rfl) ?_
  refine HW.seq ?_
  refine HW.region ?_
  refine HO.eff (want_none) rfl (st_box (c := (e_api_Addr a).toArray) (k' := 17) hS rfl rfl) ?_
  rintro _ h_1 ⟨b_1, rfl, hS, hk⟩
  replace hK := hK.trans hk
  refine HO.val (v := .string (bs [])) (want_none) rfl (q_assign rfl) ?_
  refine HO.nil (thenQ_normal (?_))
  refine HW.seq ?_
  refine HW.seq ?_
  refine HW.region ?_
  refine HO.val (v := .pointer (some ⟨b_1, 0, none⟩)) (want_none) rfl (q_fieldAddr fa_27_0 rfl rfl) ?_
  refine HO.val (v := .bool a.1) (want_none) rfl (q_load to_4 rfl (Blk.cell (hS.box 0 rfl) rfl)) ?_
  refine HO.val (v := .bool (!a.1)) (want_none) rfl (q_not rfl) ?_
  refine HO.nil (thenQ_normal (?_))
  refine HW.cond (!a.1) rfl (fun c_1 => ?_) (fun c_1 => ?_)
  · replace hM := hM.1 c_1
    refine HW.seq ?_
    refine HW.region ?_
    refine HO.val (v := .slice none 0 0) (want_none) rfl (q_assign rfl) ?_
    refine HO.nil (thenQ_normal (?_))
    refine HW.seq ?_
    refine HW.seq ?_
    refine HW.region ?_
    refine HO.val (v := .pointer (some ⟨b_1, 1, none⟩)) (want_none) rfl (q_fieldAddr fa_27_1 rfl rfl) ?_
    refine HO.val (v := arrV b_1 1 16 0 4) (want_none) rfl (q_sliceA (o := 1) (lo := 0) (hi := 4) (kl := .i64) tr_25 rfl (.inl ⟨rfl, rfl⟩) (.inr ⟨_, rfl, rfl⟩) ⟨by decide, by decide, by decide⟩) ?_
    refine HO.val (v := .int .i64 ((cut a.2.1 0 4).length : Int)) (want_none) rfl (q_len ts_96 (shp (arrSl (o := 1) (n := 16) (X := a.2) (lo := 0) (hi := 4) (hS.box 0 rfl) rfl ⟨by decide, by decide, by decide⟩ (by decide))) rfl rfl) ?_
    refine HO.val (v := .int .i64 0) (want_none) rfl (q_move rfl) ?_
    refine HO.nil (thenQ_normal (?_))
    refine HW.block ?_
    obtain ⟨I_1, m_1, hI_1, hR_1⟩ := hM
    replace hS := hS.nilOwn 9 1 encT
    replace hS : St F (Ow.box b_1 27 (e_api_Addr a).toArray :: Ow.own 9 1 encT (.slice none 0 0) ([] : List Str) :: fr) h_1 := hS.perm2 [1, 0] 2 rfl rfl
    refine HW.loop (S := List Str × Int) (fun s f h => match s with | (l_1, n_1) => ∃ (F' : Fz) (vl_1 : Value), f 1 = .pointer (some ⟨b_1, 0, none⟩) ∧ f 2 = .string (bs []) ∧ f 3 = vl_1 ∧ f 12 = arrV b_1 1 16 0 4 ∧ f 13 = .int .i64 ((cut a.2.1 0 4).length : Int) ∧ f 14 = .int .i64 n_1 ∧ Kp F h0 F' h ∧ St F' (Ow.box b_1 27 (e_api_Addr a).toArray :: Ow.own 9 1 encT vl_1 l_1 :: fr) h ∧ I_1 (l_1, n_1)) m_1 ([], 0) ⟨F, .slice none 0 0, rfl, rfl, rfl, rfl, rfl, rfl, hK, hS, hI_1⟩ ?_
    rintro ⟨l_1, n_1⟩ f_1 h_2 ⟨F_1, vl_1, e1, e2, e3, e12, e13, e14, hK, hS, hI0⟩
    obtain ⟨K_1, hKe_1⟩ : ∃ K : (List Str) → Int → Prop, K = fun l_1' n_1' => I_1 (l_1', n_1') ∧ m_1 (l_1', n_1') < m_1 (l_1, n_1) := ⟨_, rfl⟩
    have hM : addr_text_l2 a Q K_1 l_1 n_1 := by rw [hKe_1]; exact hR_1 (l_1, n_1) hI0
    unfold addr_text_l2 at hM
    refine HW.fr [(1, .pointer (some ⟨b_1, 0, none⟩)), (2, .string (bs [])), (3, vl_1), (12, arrV b_1 1 16 0 4), (13, .int .i64 ((cut a.2.1 0 4).length : Int)), (14, .int .i64 n_1)] ⟨e1, e2, e3, e12, e13, e14, trivial⟩ ?_
    refine HW.seq ?_
    refine HW.region ?_
    refine HO.val (v := .bool (decide (n_1 < ((cut a.2.1 0 4).length : Int)))) (want_none) rfl (q_lss rfl rfl) ?_
    refine HO.nil (thenQ_normal (?_))
    refine HW.seq ?_
    refine HW.cond (decide (n_1 < ((cut a.2.1 0 4).length : Int))) rfl (fun c_2 => ?_) (fun c_2 => ?_)
    · replace hM := hM.1 (of_decide_eq_true c_2)
      refine HW.skip (thenQ_normal (?_))
      refine HW.seq ?_
      refine HW.block ?_
      refine HW.seq ?_
      refine HW.region ?_
      obtain ⟨ho_1, hM⟩ := hM
      refine HO.val (v := elemPtr 1 (arrV b_1 1 16 0 4) (n_1).toNat) (want_none) rfl (q_idx ts_96 (arrSl (o := 1) (n := 16) (X := a.2) (lo := 0) (hi := 4) (hS.box 0 rfl) rfl ⟨by decide, by decide, by decide⟩ (by decide)) rfl rfl ho_1) ?_
      refine HO.val (v := .int .u8 ((gi (cut a.2.1 0 4) n_1).toNat : Int)) (want_none) rfl (q_ldElem to_5 (arrSl (o := 1) (n := 16) (X := a.2) (lo := 0) (hi := 4) (hS.box 0 rfl) rfl ⟨by decide, by decide, by decide⟩ (by decide)) rfl ho_1 rfl) ?_
      refine HO.val (v := .int .u8 ((gi (cut a.2.1 0 4) n_1).toNat : Int)) (want_none) rfl (q_assign rfl) ?_
      refine HO.nil (thenQ_normal (?_))
      refine HW.region ?_
      refine HO.val (v := vl_1) (want_none) rfl (q_move rfl) ?_
      refine HO.val (v := .int .u8 ((gi (cut a.2.1 0 4) n_1).toNat : Int)) (want_none) rfl (q_move rfl) ?_
      obtain ⟨ho_2, hM⟩ := hM
      refine HO.val (v := .int .i64 ((gi (cut a.2.1 0 4) n_1).toNat : Int)) (want_none) rfl (q_convInt Tryd.underlying5 Tryd.underlying3 rfl (wrap_i64 ho_2.1 ho_2.2)) ?_
      obtain ⟨ho_3, hM⟩ := hM
      refine HO.call (want_none) rfl (ec en_102 rfl rfl) (itoa_hc Tryd.itoa ((gi (cut a.2.1 0 4) n_1).toNat : Int) ho_3 _) ?_
      rintro _ h_3 ⟨rfl, hEq⟩
      rw [hEq]
      refine HO.eff (want_none) rfl (st_lit (enc := encT) (cells := #[.string (bs (dec ((gi (cut a.2.1 0 4) n_1).toNat : Int)))]) #[.string (bs [])] ([dec ((gi (cut a.2.1 0 4) n_1).toNat : Int)] : List Str) hS tl_97 (by decide) (by decide) (by kernel_rfl) (by kernel_rfl) rfl (by intro x hx; rfl) rfl) ?_
      rintro _ h_4 ⟨b_2, rfl, hS, hk⟩
      replace hK := hK.trans hk
      obtain ⟨ho_4, hM⟩ := hM
      refine HO.eff (want_none) rfl (st_append te_97 hS (i := 2) rfl (hS.own 0 rfl).slice rfl rfl rfl (by intro a _ u hu; simp [encT, encI, encN, encB, encT] at hu; subst hu; rfl) ho_4 (by omega)) ?_
      rintro v_1 h_5 ⟨hS, hk⟩
      replace hS : St F_1 (Ow.own 9 1 encT (.slice (some ⟨b_2, 0, none⟩) 1 1) ([dec ((gi (cut a.2.1 0 4) n_1).toNat : Int)] : List Str) :: Ow.box b_1 27 (e_api_Addr a).toArray :: Ow.own 9 1 encT v_1 (l_1 ++ ([dec ((gi (cut a.2.1 0 4) n_1).toNat : Int)] : List Str)) :: fr) h_5 := hS
      replace hK := hK.trans hk
      refine HO.val (v := v_1) (want_none) rfl (q_assign rfl) ?_
      refine HO.nil (blockQ_normal (thenQ_normal (?_)))
      refine HW.region ?_
      obtain ⟨ho_5, hM⟩ := hM
      refine HO.val (v := .int .i64 (n_1 + 1)) (want_none) rfl (q_addN _ rfl rfl rfl ho_5.1 ho_5.2) ?_
      refine HO.val (v := .int .i64 (n_1 + 1)) (want_none) rfl (q_move rfl) ?_
      refine HO.nil (thenQ_normal (?_))
      replace hS : St F_1 (Ow.box b_1 27 (e_api_Addr a).toArray :: Ow.own 9 1 encT v_1 (l_1 ++ ([dec ((gi (cut a.2.1 0 4) n_1).toNat : Int)] : List Str)) :: fr) h_5 := hS.perm2 [1, 2] 3 rfl rfl
      rw [hKe_1] at hM
      exact ⟨(l_1 ++ ([dec ((gi (cut a.2.1 0 4) n_1).toNat : Int)] : List Str), n_1 + 1), ⟨F_1, v_1, rfl, rfl, rfl, rfl, rfl, rfl, hK, hS, hM.1⟩, hM.2⟩
    · replace hM := hM.2 (of_decide_eq_false c_2)
      refine HW.exit (thenQ_exit (thenQ_exit (blockQ_exit (thenQ_normal (?_)))))
      refine HW.seq ?_
      refine HW.region ?_
      refine HO.val (v := vl_1) (want_none) rfl (q_move rfl) ?_
      obtain ⟨ho_6, hM⟩ := hM
      refine HO.call (want_none) rfl (ec en_90 rfl rfl) (strJoin_hc hD Tryd.join Tryd.joinX ([46] : Str) hS (hS.own 1 rfl).slice ho_6.1 ho_6.2) ?_
      rintro _ h_6 ⟨rfl, hS, hk⟩
      replace hK := hK.trans hk
      refine HO.val (v := .string (bs (joinS l_1 ([46] : Str)))) (want_none) rfl (q_assign rfl) ?_
      refine HO.nil (thenQ_normal (?_))
      refine HW.ret (thenQ_ret (?_))
      refine ⟨.inr rfl, .string (bs (joinS l_1 ([46] : Str))), res1 rfl (rt rfl), ?_⟩
      replace hS : St F_1 (fr) h_6 := hS.perm2 [] 2 rfl rfl
      exact ⟨F_1, joinS l_1 ([46] : Str), rfl, hK, hS, hM⟩
  · replace hM := hM.2 c_1
    refine HW.skip (thenQ_normal (?_))
    refine HW.seq ?_
    refine HW.region ?_
    refine HO.val (v := .agg (e_api_Addr a).toArray) (want_none) rfl (q_loadAgg (cs := (e_api_Addr a)) ta_27 rfl rfl (Blk.cells (k := 17) (hS.box 0 rfl) rfl)) ?_
    refine HO.call (want_none) rfl (ec en_103 rfl rfl) (addr_row_walk (fr := (Ow.box b_1 27 (e_api_Addr a).toArray :: fr)) a hS hM) ?_
    rintro _ h_7 ⟨F_2, r0_1, r1_1, rfl, hk, hS, hM⟩
    replace hK := hK.trans hk
    refine HO.val (v := .tuple #[.int .i64 r0_1, .int .i64 r1_1]) (want_none) rfl (q_move rfl) ?_
    refine HO.val (v := .int .i64 r0_1) (want_none) rfl (q_extract rfl rfl) ?_
    refine HO.val (v := .int .i64 r1_1) (want_none) rfl (q_extract rfl rfl) ?_
    refine HO.val (v := .int .i64 r0_1) (want_none) rfl (q_assign rfl) ?_
    refine HO.val (v := .int .i64 r1_1) (want_none) rfl (q_assign rfl) ?_
    refine HO.nil (thenQ_normal (?_))
    refine HW.seq ?_
    refine HW.seq ?_
    refine HW.region ?_
    refine HO.val (v := .int .i64 r1_1) (want_none) rfl (q_move rfl) ?_
    refine HO.val (v := .bool (decide (r1_1 < 2))) (want_none) rfl (q_lss rfl rfl) ?_
    refine HO.nil (thenQ_normal (?_))
    refine HW.cond (decide (r1_1 < 2)) rfl (fun c_3 => ?_) (fun c_3 => ?_)
    · replace hM := hM.1 (of_decide_eq_true c_3)
      refine HW.seq ?_
      refine HW.region ?_
      refine HO.val (v := .agg (e_api_Addr a).toArray) (want_none) rfl (q_loadAgg (cs := (e_api_Addr a)) ta_27 rfl rfl (Blk.cells (k := 17) (hS.box 0 rfl) rfl)) ?_
      refine HO.call (want_none) rfl (ec en_104 rfl rfl) (addr_list_walk (fr := (Ow.box b_1 27 (e_api_Addr a).toArray :: fr)) a 0 8 hS hD hM) ?_
      rintro _ h_8 ⟨F_3, r_2, rfl, hk, hS, hM⟩
      replace hK := hK.trans hk
      refine HO.val (v := .string (bs r_2)) (want_none) rfl (q_assign rfl) ?_
      refine HO.nil (thenQ_normal (?_))
      refine HW.ret (thenQ_ret (?_))
      refine ⟨.inr rfl, .string (bs r_2), res1 rfl (rt rfl), ?_⟩
      replace hS : St F_3 (fr) h_8 := hS.perm2 [] 1 rfl rfl
      exact ⟨F_3, r_2, rfl, hK, hS, hM⟩
    · replace hM := hM.2 (of_decide_eq_false c_3)
      refine HW.skip (thenQ_normal (?_))
      refine HW.seq ?_
      refine HW.regionA 11 mixed (fun h => (Blk h b_1 (.cells (e_api_Addr a).toArray 27 (0, 0)))) [] (by kernel_rfl) ?_
      refine HA.val (k := 0) (v := .agg (e_api_Addr a).toArray) rfl rfl (by kernel_rfl) (by kernel_rfl) (want_none) rfl (fun _ c201 => q_loadAgg (cs := (e_api_Addr a)) ta_27 rfl rfl (Blk.cells (k := 17) c201 rfl)) ?_
      refine HA.val (k := 1) (v := .int .i64 r0_1) rfl rfl (by kernel_rfl) (by kernel_rfl) (want_none) rfl (fun _ c201 => q_move rfl) ?_
      refine HA.val (k := 4) (v := .agg (e_api_Addr a).toArray) rfl rfl (by kernel_rfl) (by kernel_rfl) (want_none) rfl (fun _ c201 => q_loadAgg (cs := (e_api_Addr a)) ta_27 rfl rfl (Blk.cells (k := 17) c201 rfl)) ?_
      refine HA.val (k := 5) (v := .int .i64 r0_1) rfl rfl (by kernel_rfl) (by kernel_rfl) (want_none) rfl (fun _ c201 => q_move rfl) ?_
      refine HA.val (k := 6) (v := .int .i64 r1_1) rfl rfl (by kernel_rfl) (by kernel_rfl) (want_none) rfl (fun _ c201 => q_move rfl) ?_
      obtain ⟨ho_7, hM⟩ := hM
      refine HA.val (k := 7) (v := .int .i64 (r0_1 + r1_1)) rfl rfl (by kernel_rfl) (by kernel_rfl) (want_none) rfl (fun _ c201 => q_addN _ rfl rfl rfl ho_7.1 ho_7.2) ?_
      refine HA.one (k := 2) ⟨(hS.box 0 rfl), (Go.Wk.at_nil _ _)⟩ (by kernel_rfl) ?_
      refine HS.call rfl (want_none) rfl (ec en_104 rfl rfl) (addr_list_walk (fr := (Ow.box b_1 27 (e_api_Addr a).toArray :: fr)) a 0 r0_1 hS hD hM) ?_
      rintro _ h_9 ⟨F_4, r_3, rfl, hk, hS, hM⟩
      replace hK := hK.trans hk
      obtain ⟨ho_8, hM⟩ := hM
      refine HA.val (k := 3) (v := .string (bs (r_3 ++ ([58, 58] : Str)))) rfl rfl (by kernel_rfl) (by kernel_rfl) (want_none) rfl (fun _ c201 => q_addT rfl rfl ho_8) ?_
      refine HA.one (k := 8) ⟨(hS.box 0 rfl), (Go.Wk.at_nil _ _)⟩ (by kernel_rfl) ?_
      refine HS.call rfl (want_none) rfl (ec en_104 rfl rfl) (addr_list_walk (fr := (Ow.box b_1 27 (e_api_Addr a).toArray :: fr)) a (r0_1 + r1_1) 8 hS hD hM) ?_
      rintro _ h_10 ⟨F_5, r_4, rfl, hk, hS, hM⟩
      replace hK := hK.trans hk
      obtain ⟨ho_9, hM⟩ := hM
      refine HA.val (k := 9) (v := .string (bs ((r_3 ++ ([58, 58] : Str)) ++ r_4))) rfl rfl (by kernel_rfl) (by kernel_rfl) (want_none) rfl (fun _ c201 => q_addT rfl rfl ho_9) ?_
      refine HA.val (k := 10) (v := .string (bs ((r_3 ++ ([58, 58] : Str)) ++ r_4))) rfl rfl (by kernel_rfl) (by kernel_rfl) (want_none) rfl (fun _ c201 => q_assign rfl) ?_
      refine HA.nil ⟨(hS.box 0 rfl), (Go.Wk.at_nil _ _)⟩ (by kernel_rfl) (thenQ_normal (?_))
      refine HW.ret (?_)
      refine ⟨.inr rfl, .string (bs ((r_3 ++ ([58, 58] : Str)) ++ r_4)), res1 rfl (rt rfl), ?_⟩
      replace hS : St F_5 (fr) h_10 := hS.perm2 [] 1 rfl rfl
      exact ⟨F_5, (r_3 ++ ([58, 58] : Str)) ++ r_4, rfl, hK, hS, hM⟩

def addr_Print_W (a : T_api_Addr) (Q : Str → Prop) : Prop :=
  addr_text_W a (fun r_2 => Q r_2)
set_option maxHeartbeats 40000000 in
set_option maxRecDepth 100000 in
theorem addr_Print_walk {F : Fz} {fr : List Ow} {h0 : Heap} (a : T_api_Addr) (hS : St F (fr) h0)  (hD : DM.on = false) {Q : Str → Prop} (hM : addr_Print_W a Q) :
    HC Tryd.prog 89 #[.agg (e_api_Addr a).toArray] h0 fun u h' => ∃ (F' : Fz) (r_1 : Str), u = .string (bs r_1) ∧ Kp F h0 F' h' ∧ St F' (fr) h' ∧ Q r_1 := by
  unfold addr_Print_W at hM
  have hK := Kp.refl F h0
  refine HC.of_HW (n := 5) Tryd.func89 rfl rfl (Nat.le_of_ble_eq_true rfl) ?_
  refine HW.seq ?_
  refine HW.region ?_
  refine HO.eff (want_none) rfl (st_box (c := (e_api_Addr a).toArray) (k' := 17) hS rfl rfl) ?_
  rintro _ h_1 ⟨b_1, rfl, hS, hk⟩
  replace hK := hK.trans hk
  refine HO.val (v := .string (bs [])) (want_none) rfl (q_assign rfl) ?_
  refine HO.nil (thenQ_normal (?_))
  refine HW.seq ?_
  refine HW.region ?_
  refine HO.val (v := .agg (e_api_Addr a).toArray) (want_none) rfl (q_loadAgg (cs := (e_api_Addr a)) ta_27 rfl rfl (Blk.cells (k := 17) (hS.box 0 rfl) rfl)) ?_
  refine HO.call (want_none) rfl (ec en_97 rfl rfl) (addr_text_walk (fr := (Ow.box b_1 27 (e_api_Addr a).toArray :: fr)) a hS hD hM) ?_
  rintro _ h_2 ⟨F_1, r_2, rfl, hk, hS, hM⟩
  replace hK := hK.trans hk
  refine HO.val (v := .string (bs r_2)) (want_none) rfl (q_assign rfl) ?_
  refine HO.nil (thenQ_normal (?_))
  refine HW.ret (?_)
  refine ⟨.inr rfl, .string (bs r_2), res1 rfl (rt rfl), ?_⟩
  replace hS : St F_1 (fr) h_2 := hS.perm2 [] 1 rfl rfl
  exact ⟨F_1, r_2, rfl, hK, hS, hM⟩
end Go.Wk
