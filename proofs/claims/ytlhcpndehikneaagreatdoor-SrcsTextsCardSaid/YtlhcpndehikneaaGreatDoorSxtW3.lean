/- Walks of texts of sets and filters. -/
import Derived.Test.YtlhcpndehikneaaGreatDoorSxtW2
set_option linter.unusedSimpArgs false
set_option linter.unusedVariables false
set_option linter.unusedSectionVars false
namespace Go.Wk
open Go.HL
open Go.Proofs hiding encI
variable [DM]

def slices_Compact_s_api_Addr_api_Addr_l3 (s1 : List T_api_Addr) (Q : (List T_api_Addr) → Prop) (k_1 : Int) (K_2 : (List T_api_Addr) → Int → Int → Prop) (l_2 : List T_api_Addr) (k_2 : Int) (k2_1 : Int) : Prop :=
  ((0 : Int) ≤ k_1 ∧ k_1 ≤ (s1.length : Int) ∧ (s1.length : Int) ≤ (l_2.length : Int)) ∧ ((k2_1 < ((cut l_2 k_1 (s1.length : Int)).length : Int) → ((0 : Int) ≤ k2_1 ∧ k2_1 < ((cut l_2 k_1 (s1.length : Int)).length : Int)) ∧ ((I64 (k2_1 - 1)) ∧ (((0 : Int) ≤ k2_1 - 1 ∧ k2_1 - 1 < ((cut l_2 k_1 (s1.length : Int)).length : Int)) ∧ ((¬ ((((gi (cut l_2 k_1 (s1.length : Int)) k2_1).1, ((gi (cut l_2 k_1 (s1.length : Int)) k2_1).2)) : T_api_Addr) = ((gi (cut l_2 k_1 (s1.length : Int)) (k2_1 - 1)).1, ((gi (cut l_2 k_1 (s1.length : Int)) (k2_1 - 1)).2))) → ((0 : Int) ≤ k_2 ∧ k_2 < (l_2.length : Int)) ∧ ((I64 (k_2 + 1)) ∧ ((I64 (k2_1 + 1)) ∧ (K_2 (l_2.set (k_2).toNat ((gi (cut l_2 k_1 (s1.length : Int)) k2_1).1, ((gi (cut l_2 k_1 (s1.length : Int)) k2_1).2))) (k_2 + 1) (k2_1 + 1))))) ∧ ((((gi (cut l_2 k_1 (s1.length : Int)) k2_1).1, ((gi (cut l_2 k_1 (s1.length : Int)) k2_1).2)) : T_api_Addr) = ((gi (cut l_2 k_1 (s1.length : Int)) (k2_1 - 1)).1, ((gi (cut l_2 k_1 (s1.length : Int)) (k2_1 - 1)).2)) → (I64 (k2_1 + 1)) ∧ (K_2 l_2 k_2 (k2_1 + 1))))))) ∧ (¬ (k2_1 < ((cut l_2 k_1 (s1.length : Int)).length : Int)) → ((0 : Int) ≤ k_2 ∧ k_2 ≤ (l_2.length : Int)) ∧ (((0 : Int) ≤ k_2 ∧ k_2 ≤ (l_2.length : Int) ∧ (l_2.length : Int) ≤ (l_2.length : Int)) ∧ (((0 : Int) ≤ k_2 ∧ k_2 ≤ ((clr l_2 k_2 (l_2.length : Int)).length : Int)) ∧ (Q (cut (clr l_2 k_2 (l_2.length : Int)) 0 k_2))))))
def slices_Compact_s_api_Addr_api_Addr_l1 (s1 : List T_api_Addr) (Q : (List T_api_Addr) → Prop) (K_1 : Int → Prop) (k_1 : Int) : Prop :=
  (k_1 < (s1.length : Int) → ((0 : Int) ≤ k_1 ∧ k_1 < (s1.length : Int)) ∧ ((I64 (k_1 - 1)) ∧ (((0 : Int) ≤ k_1 - 1 ∧ k_1 - 1 < (s1.length : Int)) ∧ ((((gi s1 k_1) : T_api_Addr) = (gi s1 (k_1 - 1)) → ((0 : Int) ≤ k_1 ∧ k_1 ≤ (s1.length : Int)) ∧ (loopW (fun (K_2 : (List T_api_Addr × Int × Int) → Prop) (s : List T_api_Addr × Int × Int) => slices_Compact_s_api_Addr_api_Addr_l3 s1 Q k_1 (fun l_2 k_2 k2_1 => K_2 (l_2, k_2, k2_1)) s.1 s.2.1 s.2.2) (s1, k_1, 1))) ∧ (¬ (((gi s1 k_1) : T_api_Addr) = (gi s1 (k_1 - 1))) → (I64 (k_1 + 1)) ∧ (K_1 (k_1 + 1))))))) ∧ (¬ (k_1 < (s1.length : Int)) → Q s1)
def slices_Compact_s_api_Addr_api_Addr_W (s1 : List T_api_Addr) (Q : (List T_api_Addr) → Prop) : Prop :=
  ((s1.length : Int) < 2 → Q s1) ∧ (¬ ((s1.length : Int) < 2) → loopW (fun (K_1 : Int → Prop) (s : Int) => slices_Compact_s_api_Addr_api_Addr_l1 s1 Q K_1 s) 1)
set_option maxHeartbeats 40000000 in
set_option maxRecDepth 100000 in
theorem slices_Compact_s_api_Addr_api_Addr_walk {F : Fz} {fr : List Ow} {h0 : Heap} (s1 : List T_api_Addr) (vs : Value) (hS : St F (Ow.own 44 17 e_api_Addr vs s1 :: fr) h0)  {Q : (List T_api_Addr) → Prop} (hM : slices_Compact_s_api_Addr_api_Addr_W s1 Q) :
    HC Tryz.prog 52 #[vs] h0 fun u h' => ∃ (F' : Fz) (r_1 : List T_api_Addr) (vr_1 : Value), u = vr_1 ∧ Kp F h0 F' h' ∧ St F' (Ow.own 44 17 e_api_Addr vr_1 r_1 :: fr) h' ∧ Q r_1 := by
  unfold slices_Compact_s_api_Addr_api_Addr_W at hM
  have hK := Kp.refl F h0
  refine HC.of_HW (n := 61) Tryz.func52 rfl rfl (Nat.le_of_ble_eq_true rfl) ?_
  refine HW.seq ?_
  refine HW.region ?_
  refine HO.val (v := .slice none 0 0) (want_none) rfl (q_assign rfl) ?_
  refine HO.nil (thenQ_normal (?_))
  refine HW.seq ?_
  refine HW.seq ?_
  refine HW.region ?_
  refine HO.val (v := vs) (want_none) rfl (q_move rfl) ?_
  refine HO.val (v := .int .i64 (s1.length : Int)) (want_none) rfl (q_len ts_22 (shp (hS.own 0 rfl).slice) rfl rfl) ?_
  refine HO.val (v := .bool (decide ((s1.length : Int) < 2))) (want_none) rfl (q_lss rfl rfl) ?_
  refine HO.nil (thenQ_normal (?_))
  refine HW.cond (decide ((s1.length : Int) < 2)) rfl (fun c_1 => ?_) (fun c_1 => ?_)
  · replace hM := hM.1 (of_decide_eq_true c_1)
    refine HW.seq ?_
    refine HW.region ?_
    refine HO.val (v := vs) (want_none) rfl (q_move rfl) ?_
    refine HO.val (v := vs) (want_none) rfl (q_assign rfl) ?_
    refine HO.nil (thenQ_normal (?_))
    refine HW.ret (thenQ_ret (?_))
    refine ⟨.inr rfl, vs, res1 rfl (rt rfl), ?_⟩
    exact ⟨F, s1, vs, rfl, hK, hS, hM⟩
  · replace hM := hM.2 (of_decide_eq_false c_1)
    refine HW.skip (thenQ_normal (?_))
    refine HW.seq ?_
    refine HW.seq ?_
    refine HW.region ?_
    refine HO.val (v := .int .i64 1) (want_none) rfl (q_assign rfl) ?_
    refine HO.nil (thenQ_normal (?_))
    refine HW.block ?_
    obtain ⟨I_1, m_1, hI_1, hR_1⟩ := hM
    refine HW.loop (S := Int) (fun k_1 f h => ∃ (F' : Fz), f 0 = vs ∧ f 2 = .slice none 0 0 ∧ f 3 = .int .i64 k_1 ∧ Kp F h0 F' h ∧ St F' (Ow.own 44 17 e_api_Addr vs s1 :: fr) h ∧ I_1 k_1) m_1 1 ⟨F, rfl, rfl, rfl, hK, hS, hI_1⟩ ?_
    rintro k_1 f_1 h_1 ⟨F_1, e0, e2, e3, hK, hS, hI0⟩
    obtain ⟨K_1, hKe_1⟩ : ∃ K : Int → Prop, K = fun k_1' => I_1 k_1' ∧ m_1 k_1' < m_1 k_1 := ⟨_, rfl⟩
    have hM : slices_Compact_s_api_Addr_api_Addr_l1 s1 Q K_1 k_1 := by rw [hKe_1]; exact hR_1 k_1 hI0
    unfold slices_Compact_s_api_Addr_api_Addr_l1 at hM
    refine HW.fr [(0, vs), (2, .slice none 0 0), (3, .int .i64 k_1)] ⟨e0, e2, e3, trivial⟩ ?_
    refine HW.seq ?_
    refine HW.seq ?_
    refine HW.region ?_
    refine HO.val (v := .int .i64 k_1) (want_none) rfl (q_move rfl) ?_
    refine HO.val (v := vs) (want_none) rfl (q_move rfl) ?_
    refine HO.val (v := .int .i64 (s1.length : Int)) (want_none) rfl (q_len ts_22 (shp (hS.own 0 rfl).slice) rfl rfl) ?_
    refine HO.val (v := .bool (decide (k_1 < (s1.length : Int)))) (want_none) rfl (q_lss rfl rfl) ?_
    refine HO.nil (thenQ_normal (?_))
    refine HW.cond (decide (k_1 < (s1.length : Int))) rfl (fun c_2 => ?_) (fun c_2 => ?_)
    · replace hM := hM.1 (of_decide_eq_true c_2)
      refine HW.skip (thenQ_normal (?_))
      refine HW.seq ?_
      refine HW.block ?_
      refine HW.seq ?_
      refine HW.regionA 10 mixed (fun h => (OwnIs h 0 44 17 e_api_Addr vs s1)) [] (by kernel_rfl) ?_
      refine HA.val (k := 0) (v := vs) rfl rfl (by kernel_rfl) (by kernel_rfl) (want_none) rfl (fun _ c303 => q_move rfl) ?_
      refine HA.val (k := 1) (v := .int .i64 k_1) rfl rfl (by kernel_rfl) (by kernel_rfl) (want_none) rfl (fun _ c303 => q_move rfl) ?_
      obtain ⟨ho_1, hM⟩ := hM
      refine HA.val (k := 2) (v := elemPtr 17 vs (k_1).toNat) rfl rfl (by kernel_rfl) (by kernel_rfl) (want_none) rfl (fun _ c303 => q_idx ts_22 c303.slice rfl rfl ho_1) ?_
      refine HA.val (k := 3) (v := .agg (e_api_Addr (gi s1 k_1)).toArray) rfl rfl (by kernel_rfl) (by kernel_rfl) (want_none) rfl (fun _ c303 => q_ldElemAgg (cs := (e_api_Addr (gi s1 k_1))) ta_44 c303.slice rfl ho_1 rfl) ?_
      refine HA.val (k := 4) (v := vs) rfl rfl (by kernel_rfl) (by kernel_rfl) (want_none) rfl (fun _ c303 => q_move rfl) ?_
      refine HA.val (k := 5) (v := .int .i64 k_1) rfl rfl (by kernel_rfl) (by kernel_rfl) (want_none) rfl (fun _ c303 => q_move rfl) ?_
      obtain ⟨ho_2, hM⟩ := hM
      refine HA.val (k := 6) (v := .int .i64 (k_1 - 1)) rfl rfl (by kernel_rfl) (by kernel_rfl) (want_none) rfl (fun _ c303 => q_subN _ rfl rfl rfl ho_2.1 ho_2.2) ?_
      obtain ⟨ho_3, hM⟩ := hM
      refine HA.val (k := 7) (v := elemPtr 17 vs (k_1 - 1).toNat) rfl rfl (by kernel_rfl) (by kernel_rfl) (want_none) rfl (fun _ c303 => q_idx ts_22 c303.slice rfl rfl ho_3) ?_
      refine HA.val (k := 8) (v := .agg (e_api_Addr (gi s1 (k_1 - 1))).toArray) rfl rfl (by kernel_rfl) (by kernel_rfl) (want_none) rfl (fun _ c303 => q_ldElemAgg (cs := (e_api_Addr (gi s1 (k_1 - 1)))) ta_44 c303.slice rfl ho_3 rfl) ?_
      refine HA.val (k := 9) (v := .bool (decide (((gi s1 k_1) : T_api_Addr) = (gi s1 (k_1 - 1))))) rfl rfl (by kernel_rfl) (by kernel_rfl) (want_none) rfl (fun _ c303 => q_eqlAgg (a := (gi s1 k_1)) (b := (gi s1 (k_1 - 1))) (fun a b w => teq_44 9997 a b w) (by kernel_rfl) rfl rfl rfl rfl) ?_
      refine HA.nil ⟨(hS.own 0 rfl), (Go.Wk.at_nil _ _)⟩ (by kernel_rfl) (thenQ_normal (?_))
      refine HW.cond (decide (((gi s1 k_1) : T_api_Addr) = (gi s1 (k_1 - 1)))) rfl (fun c_3 => ?_) (fun c_3 => ?_)
      · replace hM := hM.1 (of_decide_eq_true c_3)
        refine HW.seq ?_
        refine HW.region ?_
        refine HO.val (v := vs) (want_none) rfl (q_move rfl) ?_
        refine HO.val (v := .int .i64 k_1) (want_none) rfl (q_move rfl) ?_
        obtain ⟨ho_4, hM⟩ := hM
        refine HO.val (v := cutV 17 vs (k_1).toNat ((s1.length : Int)).toNat) (want_none) rfl (q_slL ts_22 (hS.own 0 rfl).slice rfl rfl ho_4) ?_
        refine HO.val (v := cutV 17 vs (k_1).toNat ((s1.length : Int)).toNat) (want_none) rfl (q_assign rfl) ?_
        refine HO.nil (thenQ_normal (?_))
        refine HW.seq ?_
        refine HW.seq ?_
        refine HW.region ?_
        refine HO.val (v := .int .i64 1) (want_none) rfl (q_assign rfl) ?_
        refine HO.nil (thenQ_normal (?_))
        refine HW.block ?_
        obtain ⟨I_2, m_2, hI_2, hR_2⟩ := hM
        refine HW.loop (S := List T_api_Addr × Int × Int) (fun s f h => match s with | (l_2, k_2, k2_1) => ∃ (F' : Fz), f 0 = vs ∧ f 2 = .slice none 0 0 ∧ f 3 = .int .i64 k_2 ∧ f 4 = cutV 17 vs (k_1).toNat ((s1.length : Int)).toNat ∧ f 5 = .int .i64 k2_1 ∧ Kp F h0 F' h ∧ St F' (Ow.own 44 17 e_api_Addr vs l_2 :: fr) h ∧ I_2 (l_2, k_2, k2_1)) m_2 (s1, k_1, 1) ⟨F_1, rfl, rfl, rfl, rfl, rfl, hK, hS, hI_2⟩ ?_
        rintro ⟨l_2, k_2, k2_1⟩ f_2 h_2 ⟨F_2, e0, e2, e3, e4, e5, hK, hS, hI0⟩
        obtain ⟨K_2, hKe_2⟩ : ∃ K : (List T_api_Addr) → Int → Int → Prop, K = fun l_2' k_2' k2_1' => I_2 (l_2', k_2', k2_1') ∧ m_2 (l_2', k_2', k2_1') < m_2 (l_2, k_2, k2_1) := ⟨_, rfl⟩
        have hM : slices_Compact_s_api_Addr_api_Addr_l3 s1 Q k_1 K_2 l_2 k_2 k2_1 := by rw [hKe_2]; exact hR_2 (l_2, k_2, k2_1) hI0
        unfold slices_Compact_s_api_Addr_api_Addr_l3 at hM
        refine HW.fr [(0, vs), (2, .slice none 0 0), (3, .int .i64 k_2), (4, cutV 17 vs (k_1).toNat ((s1.length : Int)).toNat), (5, .int .i64 k2_1)] ⟨e0, e2, e3, e4, e5, trivial⟩ ?_
        refine HW.seq ?_
        refine HW.seq ?_
        refine HW.region ?_
        refine HO.val (v := .int .i64 k2_1) (want_none) rfl (q_move rfl) ?_
        refine HO.val (v := cutV 17 vs (k_1).toNat ((s1.length : Int)).toNat) (want_none) rfl (q_move rfl) ?_
        obtain ⟨ho_5, hM⟩ := hM
        refine HO.val (v := .int .i64 ((cut l_2 k_1 (s1.length : Int)).length : Int)) (want_none) rfl (q_len ts_22 (shp (cutIs (hS.own 0 rfl).slice k_1 (s1.length : Int) ho_5.1 ho_5.2.1 ho_5.2.2)) rfl rfl) ?_
        refine HO.val (v := .bool (decide (k2_1 < ((cut l_2 k_1 (s1.length : Int)).length : Int)))) (want_none) rfl (q_lss rfl rfl) ?_
        refine HO.nil (thenQ_normal (?_))
        refine HW.cond (decide (k2_1 < ((cut l_2 k_1 (s1.length : Int)).length : Int))) rfl (fun c_4 => ?_) (fun c_4 => ?_)
        · replace hM := hM.1 (of_decide_eq_true c_4)
          refine HW.skip (thenQ_normal (?_))
          refine HW.seq ?_
          refine HW.block ?_
          refine HW.seq ?_
          refine HW.regionA 10 mixed (fun h => (OwnIs h 0 44 17 e_api_Addr vs l_2)) [] (by kernel_rfl) ?_
          refine HA.val (k := 0) (v := cutV 17 vs (k_1).toNat ((s1.length : Int)).toNat) rfl rfl (by kernel_rfl) (by kernel_rfl) (want_none) rfl (fun _ c520 => q_move rfl) ?_
          refine HA.val (k := 1) (v := .int .i64 k2_1) rfl rfl (by kernel_rfl) (by kernel_rfl) (want_none) rfl (fun _ c520 => q_move rfl) ?_
          obtain ⟨ho_6, hM⟩ := hM
          refine HA.val (k := 2) (v := elemPtr 17 (cutV 17 vs (k_1).toNat ((s1.length : Int)).toNat) (k2_1).toNat) rfl rfl (by kernel_rfl) (by kernel_rfl) (want_none) rfl (fun _ c520 => q_idx ts_22 (cutIs c520.slice k_1 (s1.length : Int) ho_5.1 ho_5.2.1 ho_5.2.2) rfl rfl ho_6) ?_
          refine HA.val (k := 3) (v := .agg (e_api_Addr ((gi (cut l_2 k_1 (s1.length : Int)) k2_1).1, ((gi (cut l_2 k_1 (s1.length : Int)) k2_1).2))).toArray) rfl rfl (by kernel_rfl) (by kernel_rfl) (want_none) rfl (fun _ c520 => q_ldElemAgg (cs := (e_api_Addr ((gi (cut l_2 k_1 (s1.length : Int)) k2_1).1, ((gi (cut l_2 k_1 (s1.length : Int)) k2_1).2)))) ta_44 (cutIs c520.slice k_1 (s1.length : Int) ho_5.1 ho_5.2.1 ho_5.2.2) rfl ho_6 rfl) ?_
          refine HA.val (k := 4) (v := cutV 17 vs (k_1).toNat ((s1.length : Int)).toNat) rfl rfl (by kernel_rfl) (by kernel_rfl) (want_none) rfl (fun _ c520 => q_move rfl) ?_
          refine HA.val (k := 5) (v := .int .i64 k2_1) rfl rfl (by kernel_rfl) (by kernel_rfl) (want_none) rfl (fun _ c520 => q_move rfl) ?_
          obtain ⟨ho_7, hM⟩ := hM
          refine HA.val (k := 6) (v := .int .i64 (k2_1 - 1)) rfl rfl (by kernel_rfl) (by kernel_rfl) (want_none) rfl (fun _ c520 => q_subN _ rfl rfl rfl ho_7.1 ho_7.2) ?_
          obtain ⟨ho_8, hM⟩ := hM
          refine HA.val (k := 7) (v := elemPtr 17 (cutV 17 vs (k_1).toNat ((s1.length : Int)).toNat) (k2_1 - 1).toNat) rfl rfl (by kernel_rfl) (by kernel_rfl) (want_none) rfl (fun _ c520 => q_idx ts_22 (cutIs c520.slice k_1 (s1.length : Int) ho_5.1 ho_5.2.1 ho_5.2.2) rfl rfl ho_8) ?_
          refine HA.val (k := 8) (v := .agg (e_api_Addr ((gi (cut l_2 k_1 (s1.length : Int)) (k2_1 - 1)).1, ((gi (cut l_2 k_1 (s1.length : Int)) (k2_1 - 1)).2))).toArray) rfl rfl (by kernel_rfl) (by kernel_rfl) (want_none) rfl (fun _ c520 => q_ldElemAgg (cs := (e_api_Addr ((gi (cut l_2 k_1 (s1.length : Int)) (k2_1 - 1)).1, ((gi (cut l_2 k_1 (s1.length : Int)) (k2_1 - 1)).2)))) ta_44 (cutIs c520.slice k_1 (s1.length : Int) ho_5.1 ho_5.2.1 ho_5.2.2) rfl ho_8 rfl) ?_
          refine HA.val (k := 9) (v := .bool (!decide ((((gi (cut l_2 k_1 (s1.length : Int)) k2_1).1, ((gi (cut l_2 k_1 (s1.length : Int)) k2_1).2)) : T_api_Addr) = ((gi (cut l_2 k_1 (s1.length : Int)) (k2_1 - 1)).1, ((gi (cut l_2 k_1 (s1.length : Int)) (k2_1 - 1)).2))))) rfl rfl (by kernel_rfl) (by kernel_rfl) (want_none) rfl (fun _ c520 => q_neqAgg (a := ((gi (cut l_2 k_1 (s1.length : Int)) k2_1).1, ((gi (cut l_2 k_1 (s1.length : Int)) k2_1).2))) (b := ((gi (cut l_2 k_1 (s1.length : Int)) (k2_1 - 1)).1, ((gi (cut l_2 k_1 (s1.length : Int)) (k2_1 - 1)).2))) (fun a b w => teq_44 9997 a b w) (by kernel_rfl) rfl rfl rfl rfl) ?_
          refine HA.nil ⟨(hS.own 0 rfl), (Go.Wk.at_nil _ _)⟩ (by kernel_rfl) (thenQ_normal (?_))
          refine HW.cond (!decide ((((gi (cut l_2 k_1 (s1.length : Int)) k2_1).1, ((gi (cut l_2 k_1 (s1.length : Int)) k2_1).2)) : T_api_Addr) = ((gi (cut l_2 k_1 (s1.length : Int)) (k2_1 - 1)).1, ((gi (cut l_2 k_1 (s1.length : Int)) (k2_1 - 1)).2)))) rfl (fun c_5 => ?_) (fun c_5 => ?_)
          · replace hM := hM.1 (nd_true c_5)
            refine HW.seq ?_
            refine HW.region ?_
            refine HO.val (v := vs) (want_none) rfl (q_move rfl) ?_
            refine HO.val (v := .int .i64 k_2) (want_none) rfl (q_move rfl) ?_
            refine HO.val (v := cutV 17 vs (k_1).toNat ((s1.length : Int)).toNat) (want_none) rfl (q_move rfl) ?_
            refine HO.val (v := .int .i64 k2_1) (want_none) rfl (q_move rfl) ?_
            refine HO.val (v := elemPtr 17 (cutV 17 vs (k_1).toNat ((s1.length : Int)).toNat) (k2_1).toNat) (want_none) rfl (q_idx ts_22 (cutIs (hS.own 0 rfl).slice k_1 (s1.length : Int) ho_5.1 ho_5.2.1 ho_5.2.2) rfl rfl ho_6) ?_
            refine HO.val (v := .agg (e_api_Addr ((gi (cut l_2 k_1 (s1.length : Int)) k2_1).1, ((gi (cut l_2 k_1 (s1.length : Int)) k2_1).2))).toArray) (want_none) rfl (q_ldElemAgg (cs := (e_api_Addr ((gi (cut l_2 k_1 (s1.length : Int)) k2_1).1, ((gi (cut l_2 k_1 (s1.length : Int)) k2_1).2)))) ta_44 (cutIs (hS.own 0 rfl).slice k_1 (s1.length : Int) ho_5.1 ho_5.2.1 ho_5.2.2) rfl ho_6 rfl) ?_
            obtain ⟨ho_9, hM⟩ := hM
            refine HO.val (v := elemPtr 17 vs (k_2).toNat) (want_none) rfl (q_idx ts_22 (hS.own 0 rfl).slice rfl rfl ho_9) ?_
            refine HO.sto (want_none) rfl (st_storeElem (a := ((gi (cut l_2 k_1 (s1.length : Int)) k2_1).1, ((gi (cut l_2 k_1 (s1.length : Int)) k2_1).2))) (t := k_2) hS (i := 0) rfl ta_44 rfl ho_9 rfl rfl rfl (one_e_api_Addr _)) ?_
            rintro h_3 ⟨hS, hk⟩
            replace hS : St F_2 (Ow.own 44 17 e_api_Addr vs (l_2.set (k_2).toNat ((gi (cut l_2 k_1 (s1.length : Int)) k2_1).1, ((gi (cut l_2 k_1 (s1.length : Int)) k2_1).2))) :: fr) h_3 := hS
            replace hK := hK.trans hk
            refine HO.nil (thenQ_normal (?_))
            refine HW.region ?_
            refine HO.val (v := .int .i64 k_2) (want_none) rfl (q_move rfl) ?_
            obtain ⟨ho_10, hM⟩ := hM
            refine HO.val (v := .int .i64 (k_2 + 1)) (want_none) rfl (q_addN _ rfl rfl rfl ho_10.1 ho_10.2) ?_
            refine HO.val (v := .int .i64 (k_2 + 1)) (want_none) rfl (q_assign rfl) ?_
            refine HO.nil (blockQ_normal (thenQ_normal (?_)))
            refine HW.region ?_
            refine HO.val (v := .int .i64 k2_1) (want_none) rfl (q_move rfl) ?_
            obtain ⟨ho_11, hM⟩ := hM
            refine HO.val (v := .int .i64 (k2_1 + 1)) (want_none) rfl (q_addN _ rfl rfl rfl ho_11.1 ho_11.2) ?_
            refine HO.val (v := .int .i64 (k2_1 + 1)) (want_none) rfl (q_assign rfl) ?_
            refine HO.nil (thenQ_normal (?_))
            rw [hKe_2] at hM
            exact ⟨(l_2.set (k_2).toNat ((gi (cut l_2 k_1 (s1.length : Int)) k2_1).1, ((gi (cut l_2 k_1 (s1.length : Int)) k2_1).2)), k_2 + 1, k2_1 + 1), ⟨F_2, rfl, rfl, rfl, rfl, rfl, hK, hS, hM.1⟩, hM.2⟩
          · replace hM := hM.2 (nd_false c_5)
            refine HW.skip (blockQ_normal (thenQ_normal (?_)))
            refine HW.region ?_
            refine HO.val (v := .int .i64 k2_1) (want_none) rfl (q_move rfl) ?_
            obtain ⟨ho_12, hM⟩ := hM
            refine HO.val (v := .int .i64 (k2_1 + 1)) (want_none) rfl (q_addN _ rfl rfl rfl ho_12.1 ho_12.2) ?_
            refine HO.val (v := .int .i64 (k2_1 + 1)) (want_none) rfl (q_assign rfl) ?_
            refine HO.nil (thenQ_normal (?_))
            rw [hKe_2] at hM
            exact ⟨(l_2, k_2, k2_1 + 1), ⟨F_2, rfl, rfl, rfl, rfl, rfl, hK, hS, hM.1⟩, hM.2⟩
        · replace hM := hM.2 (of_decide_eq_false c_4)
          refine HW.exit (thenQ_exit (thenQ_exit (blockQ_exit (thenQ_normal (?_)))))
          refine HW.seq ?_
          refine HW.region ?_
          refine HO.val (v := vs) (want_none) rfl (q_move rfl) ?_
          refine HO.val (v := .int .i64 k_2) (want_none) rfl (q_move rfl) ?_
          obtain ⟨ho_13, hM⟩ := hM
          refine HO.val (v := cutV 17 vs (k_2).toNat ((l_2.length : Int)).toNat) (want_none) rfl (q_slL ts_22 (hS.own 0 rfl).slice rfl rfl ho_13) ?_
          obtain ⟨ho_14, hM⟩ := hM
          refine HO.eff (want_none) rfl (st_clearS (lo := k_2) (hi := (l_2.length : Int)) (z := .agg #[.bool false, .int .u8 0, .int .u8 0, .int .u8 0, .int .u8 0, .int .u8 0, .int .u8 0, .int .u8 0, .int .u8 0, .int .u8 0, .int .u8 0, .int .u8 0, .int .u8 0, .int .u8 0, .int .u8 0, .int .u8 0, .int .u8 0]) hS (i := 0) rfl te_22 tz_44 rfl (by intro u hu; simp [e_api_Addr, encI, encN, encB, encT, default] at hu; rcases hu with rfl | rfl | rfl | rfl | rfl | rfl | rfl | rfl | rfl | rfl | rfl | rfl | rfl | rfl | rfl | rfl | rfl <;> rfl) rfl ho_14 rfl) ?_
          rintro _ h_4 ⟨rfl, hS, hk⟩
          replace hS : St F_2 (Ow.own 44 17 e_api_Addr vs (clr l_2 k_2 (l_2.length : Int)) :: fr) h_4 := hS
          replace hK := hK.trans hk
          refine HO.nil (thenQ_normal (?_))
          refine HW.seq ?_
          refine HW.region ?_
          refine HO.val (v := vs) (want_none) rfl (q_move rfl) ?_
          refine HO.val (v := .int .i64 k_2) (want_none) rfl (q_move rfl) ?_
          obtain ⟨ho_15, hM⟩ := hM
          refine HO.val (v := cutV 17 vs (0 : Int).toNat (k_2).toNat) (want_none) rfl (q_slH ts_22 (hS.own 0 rfl).slice rfl rfl ho_15) ?_
          refine HO.val (v := cutV 17 vs (0 : Int).toNat (k_2).toNat) (want_none) rfl (q_assign rfl) ?_
          refine HO.nil (thenQ_normal (?_))
          refine HW.ret (blockQ_ret (thenQ_ret (thenQ_ret (blockQ_ret (thenQ_ret (?_))))))
          refine ⟨.inr rfl, cutV 17 vs (0 : Int).toNat (k_2).toNat, res1 rfl (rt rfl), ?_⟩
          replace hS := hS.shrink 0 rfl k_2 ho_15.1 ho_15.2
          replace hS : St F_2 (Ow.own 44 17 e_api_Addr (cutV 17 vs (0 : Int).toNat (k_2).toNat) (cut (clr l_2 k_2 (l_2.length : Int)) 0 k_2) :: fr) h_4 := hS
          exact ⟨F_2, cut (clr l_2 k_2 (l_2.length : Int)) 0 k_2, cutV 17 vs (0 : Int).toNat (k_2).toNat, rfl, hK, hS, hM⟩
      · replace hM := hM.2 (of_decide_eq_false c_3)
        refine HW.skip (blockQ_normal (thenQ_normal (?_)))
        refine HW.region ?_
        refine HO.val (v := .int .i64 k_1) (want_none) rfl (q_move rfl) ?_
        obtain ⟨ho_16, hM⟩ := hM
        refine HO.val (v := .int .i64 (k_1 + 1)) (want_none) rfl (q_addN _ rfl rfl rfl ho_16.1 ho_16.2) ?_
        refine HO.val (v := .int .i64 (k_1 + 1)) (want_none) rfl (q_assign rfl) ?_
        refine HO.nil (thenQ_normal (?_))
        rw [hKe_1] at hM
        exact ⟨k_1 + 1, ⟨F_1, rfl, rfl, rfl, hK, hS, hM.1⟩, hM.2⟩
    · replace hM := hM.2 (of_decide_eq_false c_2)
      refine HW.exit (thenQ_exit (thenQ_exit (blockQ_exit (thenQ_normal (?_)))))
      refine HW.seq ?_
      refine HW.region ?_
      refine HO.val (v := vs) (want_none) rfl (q_move rfl) ?_
      refine HO.val (v := vs) (want_none) rfl (q_assign rfl) ?_
      refine HO.nil (thenQ_normal (?_))
      refine HW.ret (?_)
      refine ⟨.inr rfl, vs, res1 rfl (rt rfl), ?_⟩
      exact ⟨F_1, s1, vs, rfl, hK, hS, hM⟩

def srcs_Of_W (l : List T_api_Addr) (Q : (List T_api_Addr) → Prop) : Prop :=
  slices_Clone_s_api_Addr_api_Addr_W l (fun r_2 => ∃ cf_1 : T_api_Addr → Bool, (∀ x0, srcs_Of_1_W x0 (fun r => r = cf_1 x0)) ∧ (slices_DeleteFunc_s_api_Addr_api_Addr_W r_2 cf_1 (fun r_3 => ∃ cf_2 : T_api_Addr → T_api_Addr → Int, Swo cf_2 ∧ (∀ x y, addr_Cmp_W x y (fun r => r = cf_2 x y)) ∧ (r_3).length < 4611686018427387904 ∧ ∀ l_1 : List T_api_Addr, List.Perm l_1 r_3 → List.Pairwise (fun x y => ¬ cf_2 y x < 0) l_1 → (slices_Compact_s_api_Addr_api_Addr_W l_1 (fun r_4 => Q r_4)))))
set_option maxHeartbeats 40000000 in
set_option maxRecDepth 100000 in
theorem srcs_Of_walk {F : Fz} {fr : List Ow} {h0 : Heap} (l : List T_api_Addr) (vl : Value) (hS : St F (fr) h0) (hL_l : SliceF F h0 17 e_api_Addr vl l) {Q : (List T_api_Addr) → Prop} (hM : srcs_Of_W l Q) :
    HC Tryz.prog 25 #[vl] h0 fun u h' => ∃ (F' : Fz) (r_1 : List T_api_Addr) (vr_1 : Value), u = vr_1 ∧ Kp F h0 F' h' ∧ St F' (Ow.own 44 17 e_api_Addr vr_1 r_1 :: fr) h' ∧ (SliceF F' h' 17 e_api_Addr vl l) ∧ Q r_1 := by
  unfold srcs_Of_W at hM
  have hK := Kp.refl F h0
  refine HC.of_HW (n := 11) Tryz.func25 rfl rfl (Nat.le_of_ble_eq_true rfl) ?_
  refine HW.seq ?_
  refine HW.region ?_
  refine HO.val (v := .slice none 0 0) (want_none) rfl (q_assign rfl) ?_
  refine HO.nil (thenQ_normal (?_))
  refine HW.seq ?_
  refine HW.region ?_
  refine HO.val (v := vl) (want_none) rfl (q_move rfl) ?_
  refine HO.call (want_none) rfl (ec en_48 rfl rfl) (slices_Clone_s_api_Addr_api_Addr_walk (fr := (fr)) l vl hS hL_l hM) ?_
  rintro vr_2 h_1 ⟨F_1, r_2, _, rfl, hk, hS, _, hM⟩
  replace hK := hK.trans hk
  replace hL_l := hL_l.kp hk
  obtain ⟨cf_1, hc_1, hM⟩ := hM
  have hF_1 : FnP Tryz.prog F_1 h_1 49 #[] #[] (fun x : T_api_Addr => [.agg (e_api_Addr x).toArray]) (fun x => .bool (cf_1 x)) := FnP.of en_49 (fun x h' hk_ => @HC.mono ⟨true⟩ _ _ _ _ _ _ (@srcs_Of_1_walk ⟨true⟩ (allF h') [] h' x  (St.init h')  (fun r => r = cf_1 x) (hc_1 x)) (fun u h'' ⟨F', r, hu, k_, _, hr⟩ => ⟨by rw [hu, hr], F', k_⟩))
  refine HO.call (want_none) rfl (ec en_47 rfl rfl) (slices_DeleteFunc_s_api_Addr_api_Addr_walk (fr := (fr)) r_2 cf_1 vr_2 49 (#[]) (#[]) hS hF_1 hM) ?_
  rintro vr_3 h_2 ⟨F_2, r_3, _, rfl, hk, hS, _, hM⟩
  replace hK := hK.trans hk
  replace hL_l := hL_l.kp hk
  refine HO.val (v := vr_3) (want_none) rfl (q_assign rfl) ?_
  refine HO.nil (thenQ_normal (?_))
  refine HW.seq ?_
  refine HW.region ?_
  refine HO.val (v := vr_3) (want_none) rfl (q_move rfl) ?_
  obtain ⟨cf_2, ho_1, hc_2, hM⟩ := hM
  obtain ⟨ho_2, hM⟩ := hM
  refine HO.call (want_none) rfl (ec en_51 rfl rfl) (sortFunc_own Tryz.sortAddr (by decide) (fun w => by kernel_rfl) (fun w => by kernel_rfl) (enc := e_api_Addr) (fun _ => rfl) (by intro a u hu; simp [e_api_Addr, encI, encN, encB, encT] at hu; rcases hu with rfl | rfl | rfl | rfl | rfl | rfl | rfl | rfl | rfl | rfl | rfl | rfl | rfl | rfl | rfl | rfl | rfl <;> rfl) ho_1 hS (fnP2 (enc := e_api_Addr) en_22 (fun x y h' => @addr_Cmp_walk ⟨true⟩ (allF h') [] h' x y (St.init h') (fun r => r = cf_2 x y) (hc_2 x y))) ho_2) ?_
  rintro _ h_3 ⟨l_1, rfl, hk, hS, hp_1, hs_1⟩
  replace hM := hM l_1 hp_1 hs_1
  replace hS : St F_2 (Ow.own 44 17 e_api_Addr vr_3 l_1 :: fr) h_3 := hS
  replace hK := hK.trans hk
  replace hL_l := hL_l.kp hk
  refine HO.nil (thenQ_normal (?_))
  refine HW.seq ?_
  refine HW.region ?_
  refine HO.val (v := vr_3) (want_none) rfl (q_move rfl) ?_
  refine HO.call (want_none) rfl (ec en_52 rfl rfl) (slices_Compact_s_api_Addr_api_Addr_walk (fr := (fr)) l_1 vr_3 hS hM) ?_
  rintro vr_4 h_4 ⟨F_3, r_4, _, rfl, hk, hS, hM⟩
  replace hK := hK.trans hk
  replace hL_l := hL_l.kp hk
  refine HO.val (v := vr_4) (want_none) rfl (q_assign rfl) ?_
  refine HO.nil (thenQ_normal (?_))
  refine HW.ret (?_)
  refine ⟨.inr rfl, vr_4, res1 rfl (rt rfl), ?_⟩
  exact ⟨F_3, r_4, vr_4, rfl, hK, hS, hL_l, hM⟩

def slices_BinarySearchFunc_s_api_Addr_api_Addr_api_Addr_l1 (x : List T_api_Addr) (target : T_api_Addr) (cf_cmp : T_api_Addr → T_api_Addr → Int) (Q : Int → Bool → Prop) (K_1 : Int → Int → Prop) (i_1 : Int) (j_1 : Int) : Prop :=
  (i_1 < j_1 → (I64 (i_1 + j_1)) ∧ ((I64 ((IntKind.u64.wrap (i_1 + j_1)).fdiv (2 ^ (min (1 : Int).toNat IntKind.u64.bits)))) ∧ (((0 : Int) ≤ (IntKind.u64.wrap (i_1 + j_1)).fdiv (2 ^ (min (1 : Int).toNat IntKind.u64.bits)) ∧ (IntKind.u64.wrap (i_1 + j_1)).fdiv (2 ^ (min (1 : Int).toNat IntKind.u64.bits)) < (x.length : Int)) ∧ (((cf_cmp ((gi x ((IntKind.u64.wrap (i_1 + j_1)).fdiv (2 ^ (min (1 : Int).toNat IntKind.u64.bits)))).1, ((gi x ((IntKind.u64.wrap (i_1 + j_1)).fdiv (2 ^ (min (1 : Int).toNat IntKind.u64.bits)))).2)) target) < 0 → (I64 (((IntKind.u64.wrap (i_1 + j_1)).fdiv (2 ^ (min (1 : Int).toNat IntKind.u64.bits))) + 1)) ∧ (K_1 (((IntKind.u64.wrap (i_1 + j_1)).fdiv (2 ^ (min (1 : Int).toNat IntKind.u64.bits))) + 1) j_1)) ∧ (¬ ((cf_cmp ((gi x ((IntKind.u64.wrap (i_1 + j_1)).fdiv (2 ^ (min (1 : Int).toNat IntKind.u64.bits)))).1, ((gi x ((IntKind.u64.wrap (i_1 + j_1)).fdiv (2 ^ (min (1 : Int).toNat IntKind.u64.bits)))).2)) target) < 0) → K_1 i_1 ((IntKind.u64.wrap (i_1 + j_1)).fdiv (2 ^ (min (1 : Int).toNat IntKind.u64.bits)))))))) ∧ (¬ (i_1 < j_1) → (i_1 < (x.length : Int) → ((0 : Int) ≤ i_1 ∧ i_1 < (x.length : Int)) ∧ (Q i_1 (decide ((cf_cmp (gi x i_1) target) = 0)))) ∧ (¬ (i_1 < (x.length : Int)) → Q i_1 false))
def slices_BinarySearchFunc_s_api_Addr_api_Addr_api_Addr_W (x : List T_api_Addr) (target : T_api_Addr) (cf_cmp : T_api_Addr → T_api_Addr → Int) (Q : Int → Bool → Prop) : Prop :=
  loopW (fun (K_1 : (Int × Int) → Prop) (s : Int × Int) => slices_BinarySearchFunc_s_api_Addr_api_Addr_api_Addr_l1 x target cf_cmp Q (fun i_1 j_1 => K_1 (i_1, j_1)) s.1 s.2) (0, (x.length : Int))
set_option maxHeartbeats 40000000 in
set_option maxRecDepth 100000 in
theorem slices_BinarySearchFunc_s_api_Addr_api_Addr_api_Addr_walk {F : Fz} {fr : List Ow} {h0 : Heap} (x : List T_api_Addr) (target : T_api_Addr) (cf_cmp : T_api_Addr → T_api_Addr → Int) (vx : Value) (g_cmp : Nat) (fs_cmp : Array Value) (cs_cmp : Array Value) (hS : St F (fr) h0) (hL_x : SliceF F h0 17 e_api_Addr vx x) (hF_cf_cmp : FnP Tryz.prog F h0 g_cmp fs_cmp cs_cmp (fun x : T_api_Addr × T_api_Addr => [.agg (e_api_Addr x.1).toArray, .agg (e_api_Addr x.2).toArray]) (fun x => .int .i64 (cf_cmp x.1 x.2))) {Q : Int → Bool → Prop} (hM : slices_BinarySearchFunc_s_api_Addr_api_Addr_api_Addr_W x target cf_cmp Q) :
    HC Tryz.prog 53 #[vx, .agg (e_api_Addr target).toArray, .func (.func g_cmp) fs_cmp cs_cmp] h0 fun u h' => ∃ (F' : Fz) (r0_1 : Int) (r1_1 : Bool), u = .tuple #[.int .i64 r0_1, .bool r1_1] ∧ Kp F h0 F' h' ∧ St F' (fr) h' ∧ (SliceF F' h' 17 e_api_Addr vx x) ∧ (FnP Tryz.prog F' h' g_cmp fs_cmp cs_cmp (fun x : T_api_Addr × T_api_Addr => [.agg (e_api_Addr x.1).toArray, .agg (e_api_Addr x.2).toArray]) (fun x => .int .i64 (cf_cmp x.1 x.2))) ∧ Q r0_1 r1_1 := by
  unfold slices_BinarySearchFunc_s_api_Addr_api_Addr_api_Addr_W at hM
  have hK := Kp.refl F h0
  refine HC.of_HW (n := 49) Tryz.func53 rfl rfl (Nat.le_of_ble_eq_true rfl) ?_
  refine HW.seq ?_
  refine HW.region ?_
  refine HO.eff (want_none) rfl (st_box (c := (e_api_Addr target).toArray) (k' := 17) hS rfl rfl) ?_
  rintro _ h_1 ⟨b_1, rfl, hS, hk⟩
  replace hK := hK.trans hk
  replace hL_x := hL_x.kp hk
  replace hF_cf_cmp := hF_cf_cmp.kp hk
  refine HO.val (v := .int .i64 0) (want_none) rfl (q_assign rfl) ?_
  refine HO.val (v := .bool false) (want_none) rfl (q_assign rfl) ?_
  refine HO.nil (thenQ_normal (?_))
  refine HW.seq ?_
  refine HW.region ?_
  refine HO.val (v := vx) (want_none) rfl (q_move rfl) ?_
  refine HO.val (v := .int .i64 (x.length : Int)) (want_none) rfl (q_len ts_22 (shp hL_x.is) rfl rfl) ?_
  refine HO.val (v := .int .i64 (x.length : Int)) (want_none) rfl (q_assign rfl) ?_
  refine HO.nil (thenQ_normal (?_))
  refine HW.seq ?_
  refine HW.region ?_
  refine HO.val (v := .int .i64 (x.length : Int)) (want_none) rfl (q_move rfl) ?_
  refine HO.val (v := .int .i64 0) (want_none) rfl (q_assign rfl) ?_
  refine HO.val (v := .int .i64 (x.length : Int)) (want_none) rfl (q_assign rfl) ?_
  refine HO.nil (thenQ_normal (?_))
  refine HW.seq ?_
  refine HW.block ?_
  obtain ⟨I_1, m_1, hI_1, hR_1⟩ := hM
  refine HW.loop (S := Int × Int) (fun s f h => match s with | (i_1, j_1) => ∃ (F' : Fz), f 0 = vx ∧ f 2 = .func (.func g_cmp) fs_cmp cs_cmp ∧ f 4 = .pointer (some ⟨b_1, 0, none⟩) ∧ f 6 = .int .i64 0 ∧ f 7 = .bool false ∧ f 8 = .int .i64 (x.length : Int) ∧ f 9 = .int .i64 i_1 ∧ f 10 = .int .i64 j_1 ∧ Kp F h0 F' h ∧ St F' (Ow.box b_1 44 (e_api_Addr target).toArray :: fr) h ∧ (SliceF F' h 17 e_api_Addr vx x) ∧ (FnP Tryz.prog F' h g_cmp fs_cmp cs_cmp (fun x : T_api_Addr × T_api_Addr => [.agg (e_api_Addr x.1).toArray, .agg (e_api_Addr x.2).toArray]) (fun x => .int .i64 (cf_cmp x.1 x.2))) ∧ I_1 (i_1, j_1)) m_1 (0, (x.length : Int)) ⟨F, rfl, rfl, rfl, rfl, rfl, rfl, rfl, rfl, hK, hS, hL_x, hF_cf_cmp, hI_1⟩ ?_
  rintro ⟨i_1, j_1⟩ f_1 h_2 ⟨F_1, e0, e2, e4, e6, e7, e8, e9, e10, hK, hS, hL_x, hF_cf_cmp, hI0⟩
  obtain ⟨K_1, hKe_1⟩ : ∃ K : Int → Int → Prop, K = fun i_1' j_1' => I_1 (i_1', j_1') ∧ m_1 (i_1', j_1') < m_1 (i_1, j_1) := ⟨_, rfl⟩
  have hM : slices_BinarySearchFunc_s_api_Addr_api_Addr_api_Addr_l1 x target cf_cmp Q K_1 i_1 j_1 := by rw [hKe_1]; exact hR_1 (i_1, j_1) hI0
  unfold slices_BinarySearchFunc_s_api_Addr_api_Addr_api_Addr_l1 at hM
  refine HW.fr [(0, vx), (2, .func (.func g_cmp) fs_cmp cs_cmp), (4, .pointer (some ⟨b_1, 0, none⟩)), (6, .int .i64 0), (7, .bool false), (8, .int .i64 (x.length : Int)), (9, .int .i64 i_1), (10, .int .i64 j_1)] ⟨e0, e2, e4, e6, e7, e8, e9, e10, trivial⟩ ?_
  refine HW.seq ?_
  refine HW.seq ?_
  refine HW.region ?_
  refine HO.val (v := .int .i64 i_1) (want_none) rfl (q_move rfl) ?_
  refine HO.val (v := .int .i64 j_1) (want_none) rfl (q_move rfl) ?_
  refine HO.val (v := .bool (decide (i_1 < j_1))) (want_none) rfl (q_lss rfl rfl) ?_
  refine HO.nil (thenQ_normal (?_))
  refine HW.cond (decide (i_1 < j_1)) rfl (fun c_1 => ?_) (fun c_1 => ?_)
  · replace hM := hM.1 (of_decide_eq_true c_1)
    refine HW.skip (thenQ_normal (?_))
    refine HW.block ?_
    refine HW.seq ?_
    refine HW.region ?_
    refine HO.val (v := .int .i64 i_1) (want_none) rfl (q_move rfl) ?_
    refine HO.val (v := .int .i64 j_1) (want_none) rfl (q_move rfl) ?_
    obtain ⟨ho_1, hM⟩ := hM
    refine HO.val (v := .int .i64 (i_1 + j_1)) (want_none) rfl (q_addN _ rfl rfl rfl ho_1.1 ho_1.2) ?_
    refine HO.val (v := .int .u64 (IntKind.u64.wrap (i_1 + j_1))) (want_none) rfl (q_convInt (n := i_1 + j_1) Tryz.underlying3 Tryz.underlying96 rfl rfl) ?_
    refine HO.val (v := .int .u64 ((IntKind.u64.wrap (i_1 + j_1)).fdiv (2 ^ (min (1 : Int).toNat IntKind.u64.bits)))) (want_none) rfl (q_shr rfl rfl (by decide) rfl) ?_
    obtain ⟨ho_2, hM⟩ := hM
    refine HO.val (v := .int .i64 ((IntKind.u64.wrap (i_1 + j_1)).fdiv (2 ^ (min (1 : Int).toNat IntKind.u64.bits)))) (want_none) rfl (q_convInt Tryz.underlying96 Tryz.underlying3 rfl (wrap_i64 ho_2.1 ho_2.2)) ?_
    refine HO.val (v := .int .i64 ((IntKind.u64.wrap (i_1 + j_1)).fdiv (2 ^ (min (1 : Int).toNat IntKind.u64.bits)))) (want_none) rfl (q_assign rfl) ?_
    refine HO.nil (thenQ_normal (?_))
    refine HW.seq ?_
    refine HW.regionA 8 mixed (fun h => (SliceIs h 17 e_api_Addr vx x) ∧ (Blk h b_1 (.cells (e_api_Addr target).toArray 44 (0, 0)))) [] (by kernel_rfl) ?_
    refine HA.val (k := 0) (v := .func (.func g_cmp) fs_cmp cs_cmp) rfl rfl (by kernel_rfl) (by kernel_rfl) (want_none) rfl (fun _ ⟨hL_x, c302⟩ => q_move rfl) ?_
    refine HA.val (k := 1) (v := vx) rfl rfl (by kernel_rfl) (by kernel_rfl) (want_none) rfl (fun _ ⟨hL_x, c302⟩ => q_move rfl) ?_
    refine HA.val (k := 2) (v := .int .i64 ((IntKind.u64.wrap (i_1 + j_1)).fdiv (2 ^ (min (1 : Int).toNat IntKind.u64.bits)))) rfl rfl (by kernel_rfl) (by kernel_rfl) (want_none) rfl (fun _ ⟨hL_x, c302⟩ => q_move rfl) ?_
    obtain ⟨ho_3, hM⟩ := hM
    refine HA.val (k := 3) (v := elemPtr 17 vx ((IntKind.u64.wrap (i_1 + j_1)).fdiv (2 ^ (min (1 : Int).toNat IntKind.u64.bits))).toNat) rfl rfl (by kernel_rfl) (by kernel_rfl) (want_none) rfl (fun _ ⟨hL_x, c302⟩ => q_idx ts_22 hL_x rfl rfl ho_3) ?_
    refine HA.val (k := 4) (v := .agg (e_api_Addr ((gi x ((IntKind.u64.wrap (i_1 + j_1)).fdiv (2 ^ (min (1 : Int).toNat IntKind.u64.bits)))).1, ((gi x ((IntKind.u64.wrap (i_1 + j_1)).fdiv (2 ^ (min (1 : Int).toNat IntKind.u64.bits)))).2))).toArray) rfl rfl (by kernel_rfl) (by kernel_rfl) (want_none) rfl (fun _ ⟨hL_x, c302⟩ => q_ldElemAgg (cs := (e_api_Addr ((gi x ((IntKind.u64.wrap (i_1 + j_1)).fdiv (2 ^ (min (1 : Int).toNat IntKind.u64.bits)))).1, ((gi x ((IntKind.u64.wrap (i_1 + j_1)).fdiv (2 ^ (min (1 : Int).toNat IntKind.u64.bits)))).2)))) ta_44 hL_x rfl ho_3 rfl) ?_
    refine HA.val (k := 5) (v := .agg (e_api_Addr target).toArray) rfl rfl (by kernel_rfl) (by kernel_rfl) (want_none) rfl (fun _ ⟨hL_x, c302⟩ => q_loadAgg (cs := (e_api_Addr target)) ta_44 rfl rfl (Blk.cells (k := 17) c302 rfl)) ?_
    refine HA.one (k := 6) ⟨⟨hL_x.is, (hS.box 0 rfl)⟩, (Go.Wk.at_nil _ _)⟩ (by kernel_rfl) ?_
    refine HS.call rfl (want_none) rfl (hF_cf_cmp.ec (((gi x ((IntKind.u64.wrap (i_1 + j_1)).fdiv (2 ^ (min (1 : Int).toNat IntKind.u64.bits)))).1, ((gi x ((IntKind.u64.wrap (i_1 + j_1)).fdiv (2 ^ (min (1 : Int).toNat IntKind.u64.bits)))).2)), target) rfl rfl) (hF_cf_cmp.hc (((gi x ((IntKind.u64.wrap (i_1 + j_1)).fdiv (2 ^ (min (1 : Int).toNat IntKind.u64.bits)))).1, ((gi x ((IntKind.u64.wrap (i_1 + j_1)).fdiv (2 ^ (min (1 : Int).toNat IntKind.u64.bits)))).2)), target) hS) ?_
    rintro _ h_3 ⟨rfl, hS, hk⟩
    replace hK := hK.trans hk
    replace hL_x := hL_x.kp hk
    replace hF_cf_cmp := hF_cf_cmp.kp hk
    refine HA.val (k := 7) (v := .bool (decide ((cf_cmp ((gi x ((IntKind.u64.wrap (i_1 + j_1)).fdiv (2 ^ (min (1 : Int).toNat IntKind.u64.bits)))).1, ((gi x ((IntKind.u64.wrap (i_1 + j_1)).fdiv (2 ^ (min (1 : Int).toNat IntKind.u64.bits)))).2)) target) < 0))) rfl rfl (by kernel_rfl) (by kernel_rfl) (want_none) rfl (fun _ ⟨hL_x, c302⟩ => q_lss rfl rfl) ?_
    refine HA.nil ⟨⟨hL_x.is, (hS.box 0 rfl)⟩, (Go.Wk.at_nil _ _)⟩ (by kernel_rfl) (thenQ_normal (?_))
    refine HW.cond (decide ((cf_cmp ((gi x ((IntKind.u64.wrap (i_1 + j_1)).fdiv (2 ^ (min (1 : Int).toNat IntKind.u64.bits)))).1, ((gi x ((IntKind.u64.wrap (i_1 + j_1)).fdiv (2 ^ (min (1 : Int).toNat IntKind.u64.bits)))).2)) target) < 0)) rfl (fun c_2 => ?_) (fun c_2 => ?_)
    · replace hM := hM.1 (of_decide_eq_true c_2)
      refine HW.region ?_
      refine HO.val (v := .int .i64 ((IntKind.u64.wrap (i_1 + j_1)).fdiv (2 ^ (min (1 : Int).toNat IntKind.u64.bits)))) (want_none) rfl (q_move rfl) ?_
      obtain ⟨ho_4, hM⟩ := hM
      refine HO.val (v := .int .i64 (((IntKind.u64.wrap (i_1 + j_1)).fdiv (2 ^ (min (1 : Int).toNat IntKind.u64.bits))) + 1)) (want_none) rfl (q_addN _ rfl rfl rfl ho_4.1 ho_4.2) ?_
      refine HO.val (v := .int .i64 (((IntKind.u64.wrap (i_1 + j_1)).fdiv (2 ^ (min (1 : Int).toNat IntKind.u64.bits))) + 1)) (want_none) rfl (q_assign rfl) ?_
      refine HO.nil (blockQ_normal (thenQ_normal (?_)))
      rw [hKe_1] at hM
      exact ⟨(((IntKind.u64.wrap (i_1 + j_1)).fdiv (2 ^ (min (1 : Int).toNat IntKind.u64.bits))) + 1, j_1), ⟨F_1, rfl, rfl, rfl, rfl, rfl, rfl, rfl, rfl, hK, hS, hL_x, hF_cf_cmp, hM.1⟩, hM.2⟩
    · replace hM := hM.2 (of_decide_eq_false c_2)
      refine HW.region ?_
      refine HO.val (v := .int .i64 ((IntKind.u64.wrap (i_1 + j_1)).fdiv (2 ^ (min (1 : Int).toNat IntKind.u64.bits)))) (want_none) rfl (q_move rfl) ?_
      refine HO.val (v := .int .i64 ((IntKind.u64.wrap (i_1 + j_1)).fdiv (2 ^ (min (1 : Int).toNat IntKind.u64.bits)))) (want_none) rfl (q_assign rfl) ?_
      refine HO.nil (blockQ_normal (thenQ_normal (?_)))
      rw [hKe_1] at hM
      exact ⟨(i_1, (IntKind.u64.wrap (i_1 + j_1)).fdiv (2 ^ (min (1 : Int).toNat IntKind.u64.bits))), ⟨F_1, rfl, rfl, rfl, rfl, rfl, rfl, rfl, rfl, hK, hS, hL_x, hF_cf_cmp, hM.1⟩, hM.2⟩
  · replace hM := hM.2 (of_decide_eq_false c_1)
    refine HW.exit (thenQ_exit (thenQ_exit (blockQ_exit (thenQ_normal (?_)))))
    refine HW.seq ?_
    refine HW.regionA 16 mixed (fun h => (SliceIs h 17 e_api_Addr vx x) ∧ (Blk h b_1 (.cells (e_api_Addr target).toArray 44 (0, 0)))) [] (by kernel_rfl) ?_
    refine HA.val (k := 0) (v := .int .i64 i_1) rfl rfl (by kernel_rfl) (by kernel_rfl) (want_none) rfl (fun _ ⟨hL_x, c302⟩ => q_move rfl) ?_
    refine HA.val (k := 1) (v := .int .i64 i_1) rfl rfl (by kernel_rfl) (by kernel_rfl) (want_none) rfl (fun _ ⟨hL_x, c302⟩ => q_move rfl) ?_
    refine HA.val (k := 2) (v := .int .i64 (x.length : Int)) rfl rfl (by kernel_rfl) (by kernel_rfl) (want_none) rfl (fun _ ⟨hL_x, c302⟩ => q_move rfl) ?_
    refine HA.val (k := 3) (v := .bool (decide (i_1 < (x.length : Int)))) rfl rfl (by kernel_rfl) (by kernel_rfl) (want_none) rfl (fun _ ⟨hL_x, c302⟩ => q_lss rfl rfl) ?_
    refine HA.val (k := 4) (v := .bool (decide (i_1 < (x.length : Int)))) rfl rfl (by kernel_rfl) (by kernel_rfl) (want_none) rfl (fun _ ⟨hL_x, c302⟩ => q_move rfl) ?_
    rcases Bool.eq_false_or_eq_true (decide (i_1 < (x.length : Int))) with c_3 | c_3
    · replace hM := hM.1 (of_decide_eq_true c_3)
      refine HA.val (k := 5) (v := .func (.func g_cmp) fs_cmp cs_cmp) rfl rfl (by kernel_rfl) (by kernel_rfl) (want_by rfl rfl c_3) rfl (fun _ ⟨hL_x, c302⟩ => q_move rfl) ?_
      refine HA.val (k := 6) (v := vx) rfl rfl (by kernel_rfl) (by kernel_rfl) (want_by rfl rfl c_3) rfl (fun _ ⟨hL_x, c302⟩ => q_move rfl) ?_
      refine HA.val (k := 7) (v := .int .i64 i_1) rfl rfl (by kernel_rfl) (by kernel_rfl) (want_by rfl rfl c_3) rfl (fun _ ⟨hL_x, c302⟩ => q_move rfl) ?_
      obtain ⟨ho_5, hM⟩ := hM
      refine HA.val (k := 8) (v := elemPtr 17 vx (i_1).toNat) rfl rfl (by kernel_rfl) (by kernel_rfl) (want_by rfl rfl c_3) rfl (fun _ ⟨hL_x, c302⟩ => q_idx ts_22 hL_x rfl rfl ho_5) ?_
      refine HA.val (k := 9) (v := .agg (e_api_Addr (gi x i_1)).toArray) rfl rfl (by kernel_rfl) (by kernel_rfl) (want_by rfl rfl c_3) rfl (fun _ ⟨hL_x, c302⟩ => q_ldElemAgg (cs := (e_api_Addr (gi x i_1))) ta_44 hL_x rfl ho_5 rfl) ?_
      refine HA.val (k := 10) (v := .agg (e_api_Addr target).toArray) rfl rfl (by kernel_rfl) (by kernel_rfl) (want_by rfl rfl c_3) rfl (fun _ ⟨hL_x, c302⟩ => q_loadAgg (cs := (e_api_Addr target)) ta_44 rfl rfl (Blk.cells (k := 17) c302 rfl)) ?_
      refine HA.one (k := 11) ⟨⟨hL_x.is, (hS.box 0 rfl)⟩, (Go.Wk.at_nil _ _)⟩ (by kernel_rfl) ?_
      refine HS.call rfl (want_by rfl rfl c_3) rfl (hF_cf_cmp.ec ((gi x i_1), target) rfl rfl) (hF_cf_cmp.hc ((gi x i_1), target) hS) ?_
      rintro _ h_4 ⟨rfl, hS, hk⟩
      replace hK := hK.trans hk
      replace hL_x := hL_x.kp hk
      replace hF_cf_cmp := hF_cf_cmp.kp hk
      refine HA.val (k := 12) (v := .bool (decide ((cf_cmp (gi x i_1) target) = 0))) rfl rfl (by kernel_rfl) (by kernel_rfl) (want_by rfl rfl c_3) rfl (fun _ ⟨hL_x, c302⟩ => q_eql rfl rfl) ?_
      refine HA.val (k := 13) (v := .bool (decide ((cf_cmp (gi x i_1) target) = 0))) rfl rfl (by kernel_rfl) (by kernel_rfl) (want_none) rfl (fun _ ⟨hL_x, c302⟩ => q_pickK true rfl c_3 rfl) ?_
      refine HA.val (k := 14) (v := .int .i64 i_1) rfl rfl (by kernel_rfl) (by kernel_rfl) (want_none) rfl (fun _ ⟨hL_x, c302⟩ => q_assign rfl) ?_
      refine HA.val (k := 15) (v := .bool (decide ((cf_cmp (gi x i_1) target) = 0))) rfl rfl (by kernel_rfl) (by kernel_rfl) (want_none) rfl (fun _ ⟨hL_x, c302⟩ => q_assign rfl) ?_
      refine HA.nil ⟨⟨hL_x.is, (hS.box 0 rfl)⟩, (Go.Wk.at_nil _ _)⟩ (by kernel_rfl) (thenQ_normal (?_))
      refine HW.ret (?_)
      refine ⟨.inr rfl, .tuple #[.int .i64 i_1, .bool (decide ((cf_cmp (gi x i_1) target) = 0))], res2 rfl (rt rfl) (rt rfl), ?_⟩
      replace hS : St F_1 (fr) h_4 := hS.perm2 [] 1 rfl rfl
      exact ⟨F_1, i_1, decide ((cf_cmp (gi x i_1) target) = 0), rfl, hK, hS, hL_x, hF_cf_cmp, hM⟩
    · replace hM := hM.2 (of_decide_eq_false c_3)
      refine HA.past (k := 5) rfl rfl (by kernel_rfl) (by kernel_rfl) (past_by rfl rfl c_3) rfl ?_
      refine HA.past (k := 6) rfl rfl (by kernel_rfl) (by kernel_rfl) (past_by rfl rfl c_3) rfl ?_
      refine HA.past (k := 7) rfl rfl (by kernel_rfl) (by kernel_rfl) (past_by rfl rfl c_3) rfl ?_
      refine HA.past (k := 8) rfl rfl (by kernel_rfl) (by kernel_rfl) (past_by rfl rfl c_3) rfl ?_
      refine HA.past (k := 9) rfl rfl (by kernel_rfl) (by kernel_rfl) (past_by rfl rfl c_3) rfl ?_
      refine HA.past (k := 10) rfl rfl (by kernel_rfl) (by kernel_rfl) (past_by rfl rfl c_3) rfl ?_
      refine HA.one (k := 11) ⟨⟨hL_x.is, (hS.box 0 rfl)⟩, (Go.Wk.at_nil _ _)⟩ (by kernel_rfl) ?_
      refine HS.past rfl (past_by rfl rfl c_3) rfl ?_
      refine HA.past (k := 12) rfl rfl (by kernel_rfl) (by kernel_rfl) (past_by rfl rfl c_3) rfl ?_
      refine HA.val (k := 13) (v := .bool false) rfl rfl (by kernel_rfl) (by kernel_rfl) (want_none) rfl (fun _ ⟨hL_x, c302⟩ => q_pickK false rfl c_3 rfl) ?_
      refine HA.val (k := 14) (v := .int .i64 i_1) rfl rfl (by kernel_rfl) (by kernel_rfl) (want_none) rfl (fun _ ⟨hL_x, c302⟩ => q_assign rfl) ?_
      refine HA.val (k := 15) (v := .bool false) rfl rfl (by kernel_rfl) (by kernel_rfl) (want_none) rfl (fun _ ⟨hL_x, c302⟩ => q_assign rfl) ?_
      refine HA.nil ⟨⟨hL_x.is, (hS.box 0 rfl)⟩, (Go.Wk.at_nil _ _)⟩ (by kernel_rfl) (thenQ_normal (?_))
      refine HW.ret (?_)
      refine ⟨.inr rfl, .tuple #[.int .i64 i_1, .bool false], res2 rfl (rt rfl) (rt rfl), ?_⟩
      replace hS : St F_1 (fr) h_2 := hS.perm2 [] 1 rfl rfl
      exact ⟨F_1, i_1, false, rfl, hK, hS, hL_x, hF_cf_cmp, hM⟩

def srcs_Has_W (l : List T_api_Addr) (a : T_api_Addr) (Q : Bool → Prop) : Prop :=
  ∃ cf_1 : T_api_Addr → T_api_Addr → Int, (∀ x0 x1, addr_Cmp_W x0 x1 (fun r => r = cf_1 x0 x1)) ∧ (slices_BinarySearchFunc_s_api_Addr_api_Addr_api_Addr_W l a cf_1 (fun r0_1 r1_1 => (r1_1 = true → ((0 : Int) ≤ r0_1 ∧ r0_1 < (l.length : Int)) ∧ (Q (decide (((gi l r0_1) : T_api_Addr) = a)))) ∧ (r1_1 = false → Q false)))
set_option maxHeartbeats 40000000 in
set_option maxRecDepth 100000 in
theorem srcs_Has_walk {F : Fz} {fr : List Ow} {h0 : Heap} (l : List T_api_Addr) (a : T_api_Addr) (vl : Value) (hS : St F (fr) h0) (hL_l : SliceF F h0 17 e_api_Addr vl l) {Q : Bool → Prop} (hM : srcs_Has_W l a Q) :
    HC Tryz.prog 27 #[vl, .agg (e_api_Addr a).toArray] h0 fun u h' => ∃ (F' : Fz) (r_1 : Bool), u = .bool r_1 ∧ Kp F h0 F' h' ∧ St F' (fr) h' ∧ (SliceF F' h' 17 e_api_Addr vl l) ∧ Q r_1 := by
  unfold srcs_Has_W at hM
  have hK := Kp.refl F h0
  refine HC.of_HW (n := 22) Tryz.func27 rfl rfl (Nat.le_of_ble_eq_true rfl) ?_
  refine HW.seq ?_
  refine HW.region ?_
  refine HO.eff (want_none) rfl (st_box (c := (e_api_Addr a).toArray) (k' := 17) hS rfl rfl) ?_
  rintro _ h_1 ⟨b_1, rfl, hS, hk⟩
  replace hK := hK.trans hk
  replace hL_l := hL_l.kp hk
  refine HO.val (v := .bool false) (want_none) rfl (q_assign rfl) ?_
  refine HO.nil (thenQ_normal (?_))
  refine HW.seq ?_
  refine HW.region ?_
  refine HO.val (v := vl) (want_none) rfl (q_move rfl) ?_
  refine HO.val (v := .agg (e_api_Addr a).toArray) (want_none) rfl (q_loadAgg (cs := (e_api_Addr a)) ta_44 rfl rfl (Blk.cells (k := 17) (hS.box 0 rfl) rfl)) ?_
  obtain ⟨cf_1, hc_1, hM⟩ := hM
  have hF_1 : FnP Tryz.prog F h_1 22 #[] #[] (fun x : T_api_Addr × T_api_Addr => [.agg (e_api_Addr x.1).toArray, .agg (e_api_Addr x.2).toArray]) (fun x => .int .i64 (cf_1 x.1 x.2)) := FnP.of en_22 (fun x h' hk_ => @HC.mono ⟨true⟩ _ _ _ _ _ _ (@addr_Cmp_walk ⟨true⟩ (allF h') [] h' x.1 x.2  (St.init h')  (fun r => r = cf_1 x.1 x.2) (hc_1 x.1 x.2)) (fun u h'' ⟨F', r, hu, k_, _, hr⟩ => ⟨by rw [hu, hr], F', k_⟩))
  refine HO.call (want_none) rfl (ec en_53 rfl rfl) (slices_BinarySearchFunc_s_api_Addr_api_Addr_api_Addr_walk (fr := (Ow.box b_1 44 (e_api_Addr a).toArray :: fr)) l a cf_1 vl 22 (#[]) (#[]) hS hL_l hF_1 hM) ?_
  rintro _ h_2 ⟨F_1, r0_1, r1_1, rfl, hk, hS, _, _, hM⟩
  replace hK := hK.trans hk
  replace hL_l := hL_l.kp hk
  replace hF_1 := hF_1.kp hk
  refine HO.val (v := .tuple #[.int .i64 r0_1, .bool r1_1]) (want_none) rfl (q_move rfl) ?_
  refine HO.val (v := .int .i64 r0_1) (want_none) rfl (q_extract rfl rfl) ?_
  refine HO.val (v := .bool r1_1) (want_none) rfl (q_extract rfl rfl) ?_
  refine HO.val (v := .int .i64 r0_1) (want_none) rfl (q_assign rfl) ?_
  refine HO.val (v := .bool r1_1) (want_none) rfl (q_assign rfl) ?_
  refine HO.nil (thenQ_normal (?_))
  refine HW.seq ?_
  refine HW.regionA 10 mixed (fun h => (SliceIs h 17 e_api_Addr vl l) ∧ (True) ∧ (Blk h b_1 (.cells (e_api_Addr a).toArray 44 (0, 0)))) [] (by kernel_rfl) ?_
  refine HA.val (k := 0) (v := .bool r1_1) rfl rfl (by kernel_rfl) (by kernel_rfl) (want_none) rfl (fun _ ⟨hL_l, hF_1, c201⟩ => q_move rfl) ?_
  refine HA.val (k := 1) (v := .bool r1_1) rfl rfl (by kernel_rfl) (by kernel_rfl) (want_none) rfl (fun _ ⟨hL_l, hF_1, c201⟩ => q_move rfl) ?_
  rcases Bool.eq_false_or_eq_true r1_1 with c_1 | c_1
  · replace hM := hM.1 c_1
    refine HA.val (k := 2) (v := vl) rfl rfl (by kernel_rfl) (by kernel_rfl) (want_by rfl rfl c_1) rfl (fun _ ⟨hL_l, hF_1, c201⟩ => q_move rfl) ?_
    refine HA.val (k := 3) (v := .int .i64 r0_1) rfl rfl (by kernel_rfl) (by kernel_rfl) (want_by rfl rfl c_1) rfl (fun _ ⟨hL_l, hF_1, c201⟩ => q_move rfl) ?_
    obtain ⟨ho_1, hM⟩ := hM
    refine HA.val (k := 4) (v := elemPtr 17 vl (r0_1).toNat) rfl rfl (by kernel_rfl) (by kernel_rfl) (want_by rfl rfl c_1) rfl (fun _ ⟨hL_l, hF_1, c201⟩ => q_idx ts_22 hL_l rfl rfl ho_1) ?_
    refine HA.val (k := 5) (v := .agg (e_api_Addr (gi l r0_1)).toArray) rfl rfl (by kernel_rfl) (by kernel_rfl) (want_by rfl rfl c_1) rfl (fun _ ⟨hL_l, hF_1, c201⟩ => q_ldElemAgg (cs := (e_api_Addr (gi l r0_1))) ta_44 hL_l rfl ho_1 rfl) ?_
    refine HA.val (k := 6) (v := .agg (e_api_Addr a).toArray) rfl rfl (by kernel_rfl) (by kernel_rfl) (want_by rfl rfl c_1) rfl (fun _ ⟨hL_l, hF_1, c201⟩ => q_loadAgg (cs := (e_api_Addr a)) ta_44 rfl rfl (Blk.cells (k := 17) c201 rfl)) ?_
    refine HA.val (k := 7) (v := .bool (decide (((gi l r0_1) : T_api_Addr) = a))) rfl rfl (by kernel_rfl) (by kernel_rfl) (want_by rfl rfl c_1) rfl (fun _ ⟨hL_l, hF_1, c201⟩ => q_eqlAgg (a := (gi l r0_1)) (b := a) (fun a b w => teq_44 9997 a b w) (by kernel_rfl) rfl rfl rfl rfl) ?_
    refine HA.val (k := 8) (v := .bool (decide (((gi l r0_1) : T_api_Addr) = a))) rfl rfl (by kernel_rfl) (by kernel_rfl) (want_none) rfl (fun _ ⟨hL_l, hF_1, c201⟩ => q_pickK true rfl c_1 rfl) ?_
    refine HA.val (k := 9) (v := .bool (decide (((gi l r0_1) : T_api_Addr) = a))) rfl rfl (by kernel_rfl) (by kernel_rfl) (want_none) rfl (fun _ ⟨hL_l, hF_1, c201⟩ => q_assign rfl) ?_
    refine HA.nil ⟨⟨hL_l.is, trivial, (hS.box 0 rfl)⟩, (Go.Wk.at_nil _ _)⟩ (by kernel_rfl) (thenQ_normal (?_))
    refine HW.ret (?_)
    refine ⟨.inr rfl, .bool (decide (((gi l r0_1) : T_api_Addr) = a)), res1 rfl (rt rfl), ?_⟩
    replace hS : St F_1 (fr) h_2 := hS.perm2 [] 1 rfl rfl
    exact ⟨F_1, decide (((gi l r0_1) : T_api_Addr) = a), rfl, hK, hS, hL_l, hM⟩
  · replace hM := hM.2 c_1
    refine HA.past (k := 2) rfl rfl (by kernel_rfl) (by kernel_rfl) (past_by rfl rfl c_1) rfl ?_
    refine HA.past (k := 3) rfl rfl (by kernel_rfl) (by kernel_rfl) (past_by rfl rfl c_1) rfl ?_
    refine HA.past (k := 4) rfl rfl (by kernel_rfl) (by kernel_rfl) (past_by rfl rfl c_1) rfl ?_
    refine HA.past (k := 5) rfl rfl (by kernel_rfl) (by kernel_rfl) (past_by rfl rfl c_1) rfl ?_
    refine HA.past (k := 6) rfl rfl (by kernel_rfl) (by kernel_rfl) (past_by rfl rfl c_1) rfl ?_
    refine HA.past (k := 7) rfl rfl (by kernel_rfl) (by kernel_rfl) (past_by rfl rfl c_1) rfl ?_
    refine HA.val (k := 8) (v := .bool false) rfl rfl (by kernel_rfl) (by kernel_rfl) (want_none) rfl (fun _ ⟨hL_l, hF_1, c201⟩ => q_pickK false rfl c_1 rfl) ?_
    refine HA.val (k := 9) (v := .bool false) rfl rfl (by kernel_rfl) (by kernel_rfl) (want_none) rfl (fun _ ⟨hL_l, hF_1, c201⟩ => q_assign rfl) ?_
    refine HA.nil ⟨⟨hL_l.is, trivial, (hS.box 0 rfl)⟩, (Go.Wk.at_nil _ _)⟩ (by kernel_rfl) (thenQ_normal (?_))
    refine HW.ret (?_)
    refine ⟨.inr rfl, .bool false, res1 rfl (rt rfl), ?_⟩
    replace hS : St F_1 (fr) h_2 := hS.perm2 [] 1 rfl rfl
    exact ⟨F_1, false, rfl, hK, hS, hL_l, hM⟩

def law11_lives_W (Q : Bool → Prop) : Prop :=
  law11_four_W 2 (fun r_2 => law11_four_W 1 (fun r_3 => law11_four_W 2 (fun r_4 => srcs_Of_W ([r_2, r_3, r_4] : List T_api_Addr) (fun r_5 => ((r_5.length : Int) = 2 → ((0 : Int) ≤ 0 ∧ 0 < (r_5.length : Int)) ∧ (law11_four_W 1 (fun r_6 => (((gi r_5 0) : T_api_Addr) = r_6 → law11_four_W 2 (fun r_7 => srcs_Has_W r_5 r_7 (fun r_8 => (r_8 = true → law11_four_W 3 (fun r_9 => srcs_Has_W r_5 r_9 (fun r_10 => ((!r_10) = true → srcs_Print_W r_5 (fun r_11 => Q (decide ((r_11 : Str) = [49, 48, 46, 48, 46, 48, 46, 49, 44, 49, 48, 46, 48, 46, 48, 46, 50])))) ∧ ((!r_10) = false → Q false)))) ∧ (r_8 = false → Q false)))) ∧ (¬ (((gi r_5 0) : T_api_Addr) = r_6) → Q false)))) ∧ (¬ ((r_5.length : Int) = 2) → Q false)))))
set_option maxHeartbeats 40000000 in
set_option maxRecDepth 100000 in
theorem law11_lives_walk {F : Fz} {fr : List Ow} {h0 : Heap}  (hS : St F (fr) h0) (hG_5 : RoF (Ow.box 5 160 (tab10 ()).toArray) F h0) (hG_7 : RoF (Ow.box 7 164 (arrCells tab64).toArray) F h0) (hD : DM.on = false) {Q : Bool → Prop} (hM : law11_lives_W Q) :
    HC Tryz.prog 12 #[] h0 fun u h' => ∃ (F' : Fz) (r_1 : Bool), u = .bool r_1 ∧ Kp F h0 F' h' ∧ St F' (fr) h' ∧ (RoF (Ow.box 5 160 (tab10 ()).toArray) F' h') ∧ (RoF (Ow.box 7 164 (arrCells tab64).toArray) F' h') ∧ Q r_1 := by
  unfold law11_lives_W at hM
  have hK := Kp.refl F h0
  refine HC.of_HW (n := 33) Tryz.func12 rfl rfl (Nat.le_of_ble_eq_true rfl) ?_
  refine HW.seq ?_
  refine HW.region ?_
  refine HO.val (v := .bool false) (want_none) rfl (q_assign rfl) ?_
  refine HO.nil (thenQ_normal (?_))
  refine HW.seq ?_
  refine HW.region ?_
  refine HO.call (want_none) rfl (ec en_26 rfl rfl) (law11_four_walk (fr := (fr)) 2 hS hM) ?_
  rintro _ h_1 ⟨F_1, r_2, rfl, hk, hS, hM⟩
  replace hK := hK.trans hk
  replace hG_5 := hG_5.kp hk
  replace hG_7 := hG_7.kp hk
  refine HO.call (want_none) rfl (ec en_26 rfl rfl) (law11_four_walk (fr := (fr)) 1 hS hM) ?_
  rintro _ h_2 ⟨F_2, r_3, rfl, hk, hS, hM⟩
  replace hK := hK.trans hk
  replace hG_5 := hG_5.kp hk
  replace hG_7 := hG_7.kp hk
  refine HO.call (want_none) rfl (ec en_26 rfl rfl) (law11_four_walk (fr := (fr)) 2 hS hM) ?_
  rintro _ h_3 ⟨F_3, r_4, rfl, hk, hS, hM⟩
  replace hK := hK.trans hk
  replace hG_5 := hG_5.kp hk
  replace hG_7 := hG_7.kp hk
  refine HO.eff (want_none) rfl (st_lit (enc := e_api_Addr) (cells := #[.bool r_2.1, .int .u8 (b8 r_2.2 0), .int .u8 (b8 r_2.2 1), .int .u8 (b8 r_2.2 2), .int .u8 (b8 r_2.2 3), .int .u8 (b8 r_2.2 4), .int .u8 (b8 r_2.2 5), .int .u8 (b8 r_2.2 6), .int .u8 (b8 r_2.2 7), .int .u8 (b8 r_2.2 8), .int .u8 (b8 r_2.2 9), .int .u8 (b8 r_2.2 10), .int .u8 (b8 r_2.2 11), .int .u8 (b8 r_2.2 12), .int .u8 (b8 r_2.2 13), .int .u8 (b8 r_2.2 14), .int .u8 (b8 r_2.2 15), .bool r_3.1, .int .u8 (b8 r_3.2 0), .int .u8 (b8 r_3.2 1), .int .u8 (b8 r_3.2 2), .int .u8 (b8 r_3.2 3), .int .u8 (b8 r_3.2 4), .int .u8 (b8 r_3.2 5), .int .u8 (b8 r_3.2 6), .int .u8 (b8 r_3.2 7), .int .u8 (b8 r_3.2 8), .int .u8 (b8 r_3.2 9), .int .u8 (b8 r_3.2 10), .int .u8 (b8 r_3.2 11), .int .u8 (b8 r_3.2 12), .int .u8 (b8 r_3.2 13), .int .u8 (b8 r_3.2 14), .int .u8 (b8 r_3.2 15), .bool r_4.1, .int .u8 (b8 r_4.2 0), .int .u8 (b8 r_4.2 1), .int .u8 (b8 r_4.2 2), .int .u8 (b8 r_4.2 3), .int .u8 (b8 r_4.2 4), .int .u8 (b8 r_4.2 5), .int .u8 (b8 r_4.2 6), .int .u8 (b8 r_4.2 7), .int .u8 (b8 r_4.2 8), .int .u8 (b8 r_4.2 9), .int .u8 (b8 r_4.2 10), .int .u8 (b8 r_4.2 11), .int .u8 (b8 r_4.2 12), .int .u8 (b8 r_4.2 13), .int .u8 (b8 r_4.2 14), .int .u8 (b8 r_4.2 15)]) #[.bool false, .int .u8 0, .int .u8 0, .int .u8 0, .int .u8 0, .int .u8 0, .int .u8 0, .int .u8 0, .int .u8 0, .int .u8 0, .int .u8 0, .int .u8 0, .int .u8 0, .int .u8 0, .int .u8 0, .int .u8 0, .int .u8 0, .bool false, .int .u8 0, .int .u8 0, .int .u8 0, .int .u8 0, .int .u8 0, .int .u8 0, .int .u8 0, .int .u8 0, .int .u8 0, .int .u8 0, .int .u8 0, .int .u8 0, .int .u8 0, .int .u8 0, .int .u8 0, .int .u8 0, .bool false, .int .u8 0, .int .u8 0, .int .u8 0, .int .u8 0, .int .u8 0, .int .u8 0, .int .u8 0, .int .u8 0, .int .u8 0, .int .u8 0, .int .u8 0, .int .u8 0, .int .u8 0, .int .u8 0, .int .u8 0, .int .u8 0] ([r_2, r_3, r_4] : List T_api_Addr) hS tl_22 (by decide) (by decide) (by kernel_rfl) (by kernel_rfl) rfl (by intro x hx; rfl) rfl) ?_
  rintro _ h_4 ⟨b_1, rfl, hS, hk⟩
  replace hK := hK.trans hk
  replace hG_5 := hG_5.kp hk
  replace hG_7 := hG_7.kp hk
  have hZ_1 := hS
  have hkz_1 := (hS.freeze).2
  replace hS := hS.freeze.1
  have hL_1 : SliceF (fun b => F_3 b ∨ (Ow.own 44 17 e_api_Addr (.slice (some ⟨b_1, 0, none⟩) 3 3) ([r_2, r_3, r_4] : List T_api_Addr)).foot b) h_4 17 e_api_Addr (.slice (some ⟨b_1, 0, none⟩) 3 3) ([r_2, r_3, r_4] : List T_api_Addr) := ⟨(hZ_1.own 0 rfl).slice, fun _ b hb => .inr hb⟩
  refine HO.call (want_none) rfl (ec en_25 rfl rfl) (srcs_Of_walk (fr := (fr)) ([r_2, r_3, r_4] : List T_api_Addr) (.slice (some ⟨b_1, 0, none⟩) 3 3) hS hL_1 hM) ?_
  rintro vr_1 h_5 ⟨F_4, r_5, _, rfl, hk, hS, _, hM⟩
  obtain ⟨hS, hk⟩ := hZ_1.back hk hS
  generalize (fun b => F_4 b ∧ ¬ (Ow.own 44 17 e_api_Addr (.slice (some ⟨b_1, 0, none⟩) 3 3) ([r_2, r_3, r_4] : List T_api_Addr)).foot b) = F_5 at hS hk
  replace hK := hK.trans hk
  replace hG_5 := hG_5.kp hk
  replace hG_7 := hG_7.kp hk
  refine HO.val (v := vr_1) (want_none) rfl (q_assign rfl) ?_
  refine HO.nil (thenQ_normal (?_))
  refine HW.seq ?_
  refine HW.regionA 27 mixed (fun h => (OwnIs h 0 44 17 e_api_Addr vr_1 r_5)) [] (by kernel_rfl) ?_
  refine HA.val (k := 0) (v := vr_1) rfl rfl (by kernel_rfl) (by kernel_rfl) (want_none) rfl (fun _ c202 => q_move rfl) ?_
  refine HA.val (k := 1) (v := .int .i64 (r_5.length : Int)) rfl rfl (by kernel_rfl) (by kernel_rfl) (want_none) rfl (fun _ c202 => q_len ts_22 (shp c202.slice) rfl rfl) ?_
  refine HA.val (k := 2) (v := .bool (decide ((r_5.length : Int) = 2))) rfl rfl (by kernel_rfl) (by kernel_rfl) (want_none) rfl (fun _ c202 => q_eql rfl rfl) ?_
  refine HA.val (k := 3) (v := .bool (decide ((r_5.length : Int) = 2))) rfl rfl (by kernel_rfl) (by kernel_rfl) (want_none) rfl (fun _ c202 => q_move rfl) ?_
  rcases Bool.eq_false_or_eq_true (decide ((r_5.length : Int) = 2)) with c_1 | c_1
  · replace hM := hM.1 (of_decide_eq_true c_1)
    refine HA.val (k := 4) (v := vr_1) rfl rfl (by kernel_rfl) (by kernel_rfl) (want_by rfl rfl c_1) rfl (fun _ c202 => q_move rfl) ?_
    obtain ⟨ho_1, hM⟩ := hM
    refine HA.val (k := 5) (v := elemPtr 17 vr_1 (0 : Int).toNat) rfl rfl (by kernel_rfl) (by kernel_rfl) (want_by rfl rfl c_1) rfl (fun _ c202 => q_idx ts_22 c202.slice rfl rfl ho_1) ?_
    refine HA.val (k := 6) (v := .agg (e_api_Addr (gi r_5 0)).toArray) rfl rfl (by kernel_rfl) (by kernel_rfl) (want_by rfl rfl c_1) rfl (fun _ c202 => q_ldElemAgg (cs := (e_api_Addr (gi r_5 0))) ta_44 c202.slice rfl ho_1 rfl) ?_
    refine HA.one (k := 7) ⟨(hS.own 1 rfl), (Go.Wk.at_nil _ _)⟩ (by kernel_rfl) ?_
    refine HS.call rfl (want_by rfl rfl c_1) rfl (ec en_26 rfl rfl) (law11_four_walk (fr := (Ow.own 44 17 e_api_Addr (.slice (some ⟨b_1, 0, none⟩) 3 3) ([r_2, r_3, r_4] : List T_api_Addr) :: Ow.own 44 17 e_api_Addr vr_1 r_5 :: fr)) 1 hS hM) ?_
    rintro _ h_6 ⟨F_6, r_6, rfl, hk, hS, hM⟩
    replace hK := hK.trans hk
    replace hG_5 := hG_5.kp hk
    replace hG_7 := hG_7.kp hk
    refine HA.val (k := 8) (v := .bool (decide (((gi r_5 0) : T_api_Addr) = r_6))) rfl rfl (by kernel_rfl) (by kernel_rfl) (want_by rfl rfl c_1) rfl (fun _ c202 => q_eqlAgg (a := (gi r_5 0)) (b := r_6) (fun a b w => teq_44 9997 a b w) (by kernel_rfl) rfl rfl rfl rfl) ?_
    refine HA.val (k := 9) (v := .bool (decide (((gi r_5 0) : T_api_Addr) = r_6))) rfl rfl (by kernel_rfl) (by kernel_rfl) (want_none) rfl (fun _ c202 => q_pickK true rfl c_1 rfl) ?_
    refine HA.val (k := 10) (v := .bool (decide (((gi r_5 0) : T_api_Addr) = r_6))) rfl rfl (by kernel_rfl) (by kernel_rfl) (want_none) rfl (fun _ c202 => q_move rfl) ?_
    rcases Bool.eq_false_or_eq_true (decide (((gi r_5 0) : T_api_Addr) = r_6)) with c_2 | c_2
    · replace hM := hM.1 (of_decide_eq_true c_2)
      refine HA.val (k := 11) (v := vr_1) rfl rfl (by kernel_rfl) (by kernel_rfl) (want_by rfl rfl c_2) rfl (fun _ c202 => q_move rfl) ?_
      refine HA.one (k := 12) ⟨(hS.own 1 rfl), (Go.Wk.at_nil _ _)⟩ (by kernel_rfl) ?_
      refine HS.call rfl (want_by rfl rfl c_2) rfl (ec en_26 rfl rfl) (law11_four_walk (fr := (Ow.own 44 17 e_api_Addr (.slice (some ⟨b_1, 0, none⟩) 3 3) ([r_2, r_3, r_4] : List T_api_Addr) :: Ow.own 44 17 e_api_Addr vr_1 r_5 :: fr)) 2 hS hM) ?_
      rintro _ h_7 ⟨F_7, r_7, rfl, hk, hS, hM⟩
      replace hK := hK.trans hk
      replace hG_5 := hG_5.kp hk
      replace hG_7 := hG_7.kp hk
      refine HA.one (k := 13) ⟨(hS.own 1 rfl), (Go.Wk.at_nil _ _)⟩ (by kernel_rfl) ?_
      replace hS : St F_7 (Ow.own 44 17 e_api_Addr vr_1 r_5 :: Ow.own 44 17 e_api_Addr (.slice (some ⟨b_1, 0, none⟩) 3 3) ([r_2, r_3, r_4] : List T_api_Addr) :: fr) h_7 := hS.perm2 [1, 0] 2 rfl rfl
      have hZ_2 := hS
      have hkz_2 := (hS.freeze).2
      replace hS := hS.freeze.1
      have hL_2 : SliceF (fun b => F_7 b ∨ (Ow.own 44 17 e_api_Addr vr_1 r_5).foot b) h_7 17 e_api_Addr vr_1 r_5 := ⟨(hZ_2.own 0 rfl).slice, fun _ b hb => .inr hb⟩
      refine HS.call rfl (want_by rfl rfl c_2) rfl (ec en_27 rfl rfl) (srcs_Has_walk (fr := (Ow.own 44 17 e_api_Addr (.slice (some ⟨b_1, 0, none⟩) 3 3) ([r_2, r_3, r_4] : List T_api_Addr) :: fr)) r_5 r_7 vr_1 hS hL_2 hM) ?_
      rintro _ h_8 ⟨F_8, r_8, rfl, hk, hS, _, hM⟩
      obtain ⟨hS, hk⟩ := hZ_2.back hk hS
      generalize (fun b => F_8 b ∧ ¬ (Ow.own 44 17 e_api_Addr vr_1 r_5).foot b) = F_9 at hS hk
      replace hK := hK.trans hk
      replace hG_5 := hG_5.kp hk
      replace hG_7 := hG_7.kp hk
      refine HA.val (k := 14) (v := .bool r_8) rfl rfl (by kernel_rfl) (by kernel_rfl) (want_none) rfl (fun _ c202 => q_pickK true rfl c_2 rfl) ?_
      refine HA.val (k := 15) (v := .bool r_8) rfl rfl (by kernel_rfl) (by kernel_rfl) (want_none) rfl (fun _ c202 => q_move rfl) ?_
      rcases Bool.eq_false_or_eq_true r_8 with c_3 | c_3
      · replace hM := hM.1 c_3
        refine HA.val (k := 16) (v := vr_1) rfl rfl (by kernel_rfl) (by kernel_rfl) (want_by rfl rfl c_3) rfl (fun _ c202 => q_move rfl) ?_
        refine HA.one (k := 17) ⟨(hS.own 0 rfl), (Go.Wk.at_nil _ _)⟩ (by kernel_rfl) ?_
        refine HS.call rfl (want_by rfl rfl c_3) rfl (ec en_26 rfl rfl) (law11_four_walk (fr := (Ow.own 44 17 e_api_Addr vr_1 r_5 :: Ow.own 44 17 e_api_Addr (.slice (some ⟨b_1, 0, none⟩) 3 3) ([r_2, r_3, r_4] : List T_api_Addr) :: fr)) 3 hS hM) ?_
        rintro _ h_9 ⟨F_10, r_9, rfl, hk, hS, hM⟩
        replace hK := hK.trans hk
        replace hG_5 := hG_5.kp hk
        replace hG_7 := hG_7.kp hk
        refine HA.one (k := 18) ⟨(hS.own 0 rfl), (Go.Wk.at_nil _ _)⟩ (by kernel_rfl) ?_
        have hZ_3 := hS
        have hkz_3 := (hS.freeze).2
        replace hS := hS.freeze.1
        have hL_3 : SliceF (fun b => F_10 b ∨ (Ow.own 44 17 e_api_Addr vr_1 r_5).foot b) h_9 17 e_api_Addr vr_1 r_5 := ⟨(hZ_3.own 0 rfl).slice, fun _ b hb => .inr hb⟩
        refine HS.call rfl (want_by rfl rfl c_3) rfl (ec en_27 rfl rfl) (srcs_Has_walk (fr := (Ow.own 44 17 e_api_Addr (.slice (some ⟨b_1, 0, none⟩) 3 3) ([r_2, r_3, r_4] : List T_api_Addr) :: fr)) r_5 r_9 vr_1 hS hL_3 hM) ?_
        rintro _ h_10 ⟨F_11, r_10, rfl, hk, hS, _, hM⟩
        obtain ⟨hS, hk⟩ := hZ_3.back hk hS
        generalize (fun b => F_11 b ∧ ¬ (Ow.own 44 17 e_api_Addr vr_1 r_5).foot b) = F_12 at hS hk
        replace hK := hK.trans hk
        replace hG_5 := hG_5.kp hk
        replace hG_7 := hG_7.kp hk
        refine HA.val (k := 19) (v := .bool (!r_10)) rfl rfl (by kernel_rfl) (by kernel_rfl) (want_by rfl rfl c_3) rfl (fun _ c202 => q_not rfl) ?_
        refine HA.val (k := 20) (v := .bool (!r_10)) rfl rfl (by kernel_rfl) (by kernel_rfl) (want_none) rfl (fun _ c202 => q_pickK true rfl c_3 rfl) ?_
        refine HA.val (k := 21) (v := .bool (!r_10)) rfl rfl (by kernel_rfl) (by kernel_rfl) (want_none) rfl (fun _ c202 => q_move rfl) ?_
        rcases Bool.eq_false_or_eq_true (!r_10) with c_4 | c_4
        · replace hM := hM.1 c_4
          refine HA.val (k := 22) (v := vr_1) rfl rfl (by kernel_rfl) (by kernel_rfl) (want_by rfl rfl c_4) rfl (fun _ c202 => q_move rfl) ?_
          refine HA.one (k := 23) ⟨(hS.own 0 rfl), (Go.Wk.at_nil _ _)⟩ (by kernel_rfl) ?_
          have hZ_4 := hS
          have hkz_4 := (hS.freeze).2
          replace hS := hS.freeze.1
          have hL_4 : SliceF (fun b => F_12 b ∨ (Ow.own 44 17 e_api_Addr vr_1 r_5).foot b) h_10 17 e_api_Addr vr_1 r_5 := ⟨(hZ_4.own 0 rfl).slice, fun _ b hb => .inr hb⟩
          refine HS.call rfl (want_by rfl rfl c_4) rfl (ec en_10 rfl rfl) (srcs_Print_walk (fr := (Ow.own 44 17 e_api_Addr (.slice (some ⟨b_1, 0, none⟩) 3 3) ([r_2, r_3, r_4] : List T_api_Addr) :: fr)) r_5 vr_1 hS hL_4 (hG_5.kp hkz_4) (hG_7.kp hkz_4) hD hM) ?_
          rintro _ h_11 ⟨F_13, r_11, rfl, hk, hS, _, _, _, hM⟩
          obtain ⟨hS, hk⟩ := hZ_4.back hk hS
          generalize (fun b => F_13 b ∧ ¬ (Ow.own 44 17 e_api_Addr vr_1 r_5).foot b) = F_14 at hS hk
          replace hK := hK.trans hk
          replace hG_5 := hG_5.kp hk
          replace hG_7 := hG_7.kp hk
          refine HA.val (k := 24) (v := .bool (decide ((r_11 : Str) = [49, 48, 46, 48, 46, 48, 46, 49, 44, 49, 48, 46, 48, 46, 48, 46, 50]))) rfl rfl (by kernel_rfl) (by kernel_rfl) (want_by rfl rfl c_4) rfl (fun _ c202 => q_eqlT rfl rfl) ?_
          refine HA.val (k := 25) (v := .bool (decide ((r_11 : Str) = [49, 48, 46, 48, 46, 48, 46, 49, 44, 49, 48, 46, 48, 46, 48, 46, 50]))) rfl rfl (by kernel_rfl) (by kernel_rfl) (want_none) rfl (fun _ c202 => q_pickK true rfl c_4 rfl) ?_
          refine HA.val (k := 26) (v := .bool (decide ((r_11 : Str) = [49, 48, 46, 48, 46, 48, 46, 49, 44, 49, 48, 46, 48, 46, 48, 46, 50]))) rfl rfl (by kernel_rfl) (by kernel_rfl) (want_none) rfl (fun _ c202 => q_assign rfl) ?_
          refine HA.nil ⟨(hS.own 0 rfl), (Go.Wk.at_nil _ _)⟩ (by kernel_rfl) (thenQ_normal (?_))
          refine HW.ret (?_)
          refine ⟨.inr rfl, .bool (decide ((r_11 : Str) = [49, 48, 46, 48, 46, 48, 46, 49, 44, 49, 48, 46, 48, 46, 48, 46, 50])), res1 rfl (rt rfl), ?_⟩
          replace hS : St F_14 (fr) h_11 := hS.perm2 [] 2 rfl rfl
          exact ⟨F_14, decide ((r_11 : Str) = [49, 48, 46, 48, 46, 48, 46, 49, 44, 49, 48, 46, 48, 46, 48, 46, 50]), rfl, hK, hS, hG_5, hG_7, hM⟩
        · replace hM := hM.2 c_4
          refine HA.past (k := 22) rfl rfl (by kernel_rfl) (by kernel_rfl) (past_by rfl rfl c_4) rfl ?_
          refine HA.one (k := 23) ⟨(hS.own 0 rfl), (Go.Wk.at_nil _ _)⟩ (by kernel_rfl) ?_
          refine HS.past rfl (past_by rfl rfl c_4) rfl ?_
          refine HA.past (k := 24) rfl rfl (by kernel_rfl) (by kernel_rfl) (past_by rfl rfl c_4) rfl ?_
          refine HA.val (k := 25) (v := .bool false) rfl rfl (by kernel_rfl) (by kernel_rfl) (want_none) rfl (fun _ c202 => q_pickK false rfl c_4 rfl) ?_
          refine HA.val (k := 26) (v := .bool false) rfl rfl (by kernel_rfl) (by kernel_rfl) (want_none) rfl (fun _ c202 => q_assign rfl) ?_
          refine HA.nil ⟨(hS.own 0 rfl), (Go.Wk.at_nil _ _)⟩ (by kernel_rfl) (thenQ_normal (?_))
          refine HW.ret (?_)
          refine ⟨.inr rfl, .bool false, res1 rfl (rt rfl), ?_⟩
          replace hS : St F_12 (fr) h_10 := hS.perm2 [] 2 rfl rfl
          exact ⟨F_12, false, rfl, hK, hS, hG_5, hG_7, hM⟩
      · replace hM := hM.2 c_3
        refine HA.past (k := 16) rfl rfl (by kernel_rfl) (by kernel_rfl) (past_by rfl rfl c_3) rfl ?_
        refine HA.one (k := 17) ⟨(hS.own 0 rfl), (Go.Wk.at_nil _ _)⟩ (by kernel_rfl) ?_
        refine HS.past rfl (past_by rfl rfl c_3) rfl ?_
        refine HA.one (k := 18) ⟨(hS.own 0 rfl), (Go.Wk.at_nil _ _)⟩ (by kernel_rfl) ?_
        refine HS.past rfl (past_by rfl rfl c_3) rfl ?_
        refine HA.past (k := 19) rfl rfl (by kernel_rfl) (by kernel_rfl) (past_by rfl rfl c_3) rfl ?_
        refine HA.val (k := 20) (v := .bool false) rfl rfl (by kernel_rfl) (by kernel_rfl) (want_none) rfl (fun _ c202 => q_pickK false rfl c_3 rfl) ?_
        refine HA.val (k := 21) (v := .bool false) rfl rfl (by kernel_rfl) (by kernel_rfl) (want_none) rfl (fun _ c202 => q_move rfl) ?_
        refine HA.past (k := 22) rfl rfl (by kernel_rfl) (by kernel_rfl) (past_some rfl rfl) rfl ?_
        refine HA.one (k := 23) ⟨(hS.own 0 rfl), (Go.Wk.at_nil _ _)⟩ (by kernel_rfl) ?_
        refine HS.past rfl (past_some rfl rfl) rfl ?_
        refine HA.past (k := 24) rfl rfl (by kernel_rfl) (by kernel_rfl) (past_some rfl rfl) rfl ?_
        refine HA.val (k := 25) (v := .bool false) rfl rfl (by kernel_rfl) (by kernel_rfl) (want_none) rfl (fun _ c202 => q_pick rfl rfl) ?_
        refine HA.val (k := 26) (v := .bool false) rfl rfl (by kernel_rfl) (by kernel_rfl) (want_none) rfl (fun _ c202 => q_assign rfl) ?_
        refine HA.nil ⟨(hS.own 0 rfl), (Go.Wk.at_nil _ _)⟩ (by kernel_rfl) (thenQ_normal (?_))
        refine HW.ret (?_)
        refine ⟨.inr rfl, .bool false, res1 rfl (rt rfl), ?_⟩
        replace hS : St F_9 (fr) h_8 := hS.perm2 [] 2 rfl rfl
        exact ⟨F_9, false, rfl, hK, hS, hG_5, hG_7, hM⟩
    · replace hM := hM.2 (of_decide_eq_false c_2)
      refine HA.past (k := 11) rfl rfl (by kernel_rfl) (by kernel_rfl) (past_by rfl rfl c_2) rfl ?_
      refine HA.one (k := 12) ⟨(hS.own 1 rfl), (Go.Wk.at_nil _ _)⟩ (by kernel_rfl) ?_
      refine HS.past rfl (past_by rfl rfl c_2) rfl ?_
      refine HA.one (k := 13) ⟨(hS.own 1 rfl), (Go.Wk.at_nil _ _)⟩ (by kernel_rfl) ?_
      refine HS.past rfl (past_by rfl rfl c_2) rfl ?_
      refine HA.val (k := 14) (v := .bool false) rfl rfl (by kernel_rfl) (by kernel_rfl) (want_none) rfl (fun _ c202 => q_pickK false rfl c_2 rfl) ?_
      refine HA.val (k := 15) (v := .bool false) rfl rfl (by kernel_rfl) (by kernel_rfl) (want_none) rfl (fun _ c202 => q_move rfl) ?_
      refine HA.past (k := 16) rfl rfl (by kernel_rfl) (by kernel_rfl) (past_some rfl rfl) rfl ?_
      refine HA.one (k := 17) ⟨(hS.own 1 rfl), (Go.Wk.at_nil _ _)⟩ (by kernel_rfl) ?_
      refine HS.past rfl (past_some rfl rfl) rfl ?_
      refine HA.one (k := 18) ⟨(hS.own 1 rfl), (Go.Wk.at_nil _ _)⟩ (by kernel_rfl) ?_
      refine HS.past rfl (past_some rfl rfl) rfl ?_
      refine HA.past (k := 19) rfl rfl (by kernel_rfl) (by kernel_rfl) (past_some rfl rfl) rfl ?_
      refine HA.val (k := 20) (v := .bool false) rfl rfl (by kernel_rfl) (by kernel_rfl) (want_none) rfl (fun _ c202 => q_pick rfl rfl) ?_
      refine HA.val (k := 21) (v := .bool false) rfl rfl (by kernel_rfl) (by kernel_rfl) (want_none) rfl (fun _ c202 => q_move rfl) ?_
      refine HA.past (k := 22) rfl rfl (by kernel_rfl) (by kernel_rfl) (past_some rfl rfl) rfl ?_
      refine HA.one (k := 23) ⟨(hS.own 1 rfl), (Go.Wk.at_nil _ _)⟩ (by kernel_rfl) ?_
      refine HS.past rfl (past_some rfl rfl) rfl ?_
      refine HA.past (k := 24) rfl rfl (by kernel_rfl) (by kernel_rfl) (past_some rfl rfl) rfl ?_
      refine HA.val (k := 25) (v := .bool false) rfl rfl (by kernel_rfl) (by kernel_rfl) (want_none) rfl (fun _ c202 => q_pick rfl rfl) ?_
      refine HA.val (k := 26) (v := .bool false) rfl rfl (by kernel_rfl) (by kernel_rfl) (want_none) rfl (fun _ c202 => q_assign rfl) ?_
      refine HA.nil ⟨(hS.own 1 rfl), (Go.Wk.at_nil _ _)⟩ (by kernel_rfl) (thenQ_normal (?_))
      refine HW.ret (?_)
      refine ⟨.inr rfl, .bool false, res1 rfl (rt rfl), ?_⟩
      replace hS : St F_6 (fr) h_6 := hS.perm2 [] 2 rfl rfl
      exact ⟨F_6, false, rfl, hK, hS, hG_5, hG_7, hM⟩
  · replace hM := hM.2 (of_decide_eq_false c_1)
    refine HA.past (k := 4) rfl rfl (by kernel_rfl) (by kernel_rfl) (past_by rfl rfl c_1) rfl ?_
    refine HA.past (k := 5) rfl rfl (by kernel_rfl) (by kernel_rfl) (past_by rfl rfl c_1) rfl ?_
    refine HA.past (k := 6) rfl rfl (by kernel_rfl) (by kernel_rfl) (past_by rfl rfl c_1) rfl ?_
    refine HA.one (k := 7) ⟨(hS.own 1 rfl), (Go.Wk.at_nil _ _)⟩ (by kernel_rfl) ?_
    refine HS.past rfl (past_by rfl rfl c_1) rfl ?_
    refine HA.past (k := 8) rfl rfl (by kernel_rfl) (by kernel_rfl) (past_by rfl rfl c_1) rfl ?_
    refine HA.val (k := 9) (v := .bool false) rfl rfl (by kernel_rfl) (by kernel_rfl) (want_none) rfl (fun _ c202 => q_pickK false rfl c_1 rfl) ?_
    refine HA.val (k := 10) (v := .bool false) rfl rfl (by kernel_rfl) (by kernel_rfl) (want_none) rfl (fun _ c202 => q_move rfl) ?_
    refine HA.past (k := 11) rfl rfl (by kernel_rfl) (by kernel_rfl) (past_some rfl rfl) rfl ?_
    refine HA.one (k := 12) ⟨(hS.own 1 rfl), (Go.Wk.at_nil _ _)⟩ (by kernel_rfl) ?_
    refine HS.past rfl (past_some rfl rfl) rfl ?_
    refine HA.one (k := 13) ⟨(hS.own 1 rfl), (Go.Wk.at_nil _ _)⟩ (by kernel_rfl) ?_
    refine HS.past rfl (past_some rfl rfl) rfl ?_
    refine HA.val (k := 14) (v := .bool false) rfl rfl (by kernel_rfl) (by kernel_rfl) (want_none) rfl (fun _ c202 => q_pick rfl rfl) ?_
    refine HA.val (k := 15) (v := .bool false) rfl rfl (by kernel_rfl) (by kernel_rfl) (want_none) rfl (fun _ c202 => q_move rfl) ?_
    refine HA.past (k := 16) rfl rfl (by kernel_rfl) (by kernel_rfl) (past_some rfl rfl) rfl ?_
    refine HA.one (k := 17) ⟨(hS.own 1 rfl), (Go.Wk.at_nil _ _)⟩ (by kernel_rfl) ?_
    refine HS.past rfl (past_some rfl rfl) rfl ?_
    refine HA.one (k := 18) ⟨(hS.own 1 rfl), (Go.Wk.at_nil _ _)⟩ (by kernel_rfl) ?_
    refine HS.past rfl (past_some rfl rfl) rfl ?_
    refine HA.past (k := 19) rfl rfl (by kernel_rfl) (by kernel_rfl) (past_some rfl rfl) rfl ?_
    refine HA.val (k := 20) (v := .bool false) rfl rfl (by kernel_rfl) (by kernel_rfl) (want_none) rfl (fun _ c202 => q_pick rfl rfl) ?_
    refine HA.val (k := 21) (v := .bool false) rfl rfl (by kernel_rfl) (by kernel_rfl) (want_none) rfl (fun _ c202 => q_move rfl) ?_
    refine HA.past (k := 22) rfl rfl (by kernel_rfl) (by kernel_rfl) (past_some rfl rfl) rfl ?_
    refine HA.one (k := 23) ⟨(hS.own 1 rfl), (Go.Wk.at_nil _ _)⟩ (by kernel_rfl) ?_
    refine HS.past rfl (past_some rfl rfl) rfl ?_
    refine HA.past (k := 24) rfl rfl (by kernel_rfl) (by kernel_rfl) (past_some rfl rfl) rfl ?_
    refine HA.val (k := 25) (v := .bool false) rfl rfl (by kernel_rfl) (by kernel_rfl) (want_none) rfl (fun _ c202 => q_pick rfl rfl) ?_
    refine HA.val (k := 26) (v := .bool false) rfl rfl (by kernel_rfl) (by kernel_rfl) (want_none) rfl (fun _ c202 => q_assign rfl) ?_
    refine HA.nil ⟨(hS.own 1 rfl), (Go.Wk.at_nil _ _)⟩ (by kernel_rfl) (thenQ_normal (?_))
    refine HW.ret (?_)
    refine ⟨.inr rfl, .bool false, res1 rfl (rt rfl), ?_⟩
    replace hS : St F_5 (fr) h_5 := hS.perm2 [] 2 rfl rfl
    exact ⟨F_5, false, rfl, hK, hS, hG_5, hG_7, hM⟩

def law11_SrcsTexts_j2 (Q : Bool → Prop) (b_2 : Bool) : Prop :=
  Q b_2
def law11_SrcsTexts_j1 (Q : Bool → Prop) (r_2 : Str) (r0_2 : List T_api_Addr) (r1_2 : Int) (b_1 : Bool) : Prop :=
  (b_1 = true → Q false) ∧ (b_1 = false → (¬ (r1_2 = 0) → ((r0_2.length : Int) = 0 → (r1_2 = 2 → law11_lives_W  (fun r_10 => law11_SrcsTexts_j2 Q r_10)) ∧ (¬ (r1_2 = 2) → law11_SrcsTexts_j2 Q false)) ∧ (¬ ((r0_2.length : Int) = 0) → law11_SrcsTexts_j2 Q false)) ∧ (r1_2 = 0 → ref11_Print_W r0_2 (fun r_11 => ((r_11 : Str) = r_2 → ref11_Of_W r0_2 (fun r_12 => ref11_Same_W r_12 r0_2 (fun r_13 => (r_13 = true → law11_lives_W  (fun r_14 => Q r_14)) ∧ (r_13 = false → Q false)))) ∧ (¬ ((r_11 : Str) = r_2) → Q false))))
def law11_SrcsTexts_W (l : List T_api_Addr) (s1 : Str) (Q : Bool → Prop) : Prop :=
  law01_Cut_W s1 80 (fun r_2 => law08_Addrs_W l 8 (fun r_3 => ref11_Of_W r_3 (fun r_4 => ref11_Print_W r_4 (fun r_5 => srcs_Parse_W r_5 (fun r0_1 r1_1 => srcs_Parse_W r_2 (fun r0_2 r1_2 => law08_Addrs_W r_4 8 (fun r_6 => srcs_Print_W r_6 (fun r_7 => ref11_Print_W r_4 (fun r_8 => (¬ ((r_7 : Str) = r_8) → law11_SrcsTexts_j1 Q r_2 r0_2 r1_2 true) ∧ ((r_7 : Str) = r_8 → ref11_Same_W r0_1 r_4 (fun r_9 => ((!r_9) = true → law11_SrcsTexts_j1 Q r_2 r0_2 r1_2 true) ∧ ((!r_9) = false → law11_SrcsTexts_j1 Q r_2 r0_2 r1_2 (!decide (r1_1 = 0))))))))))))))
set_option maxHeartbeats 40000000 in
set_option maxRecDepth 100000 in
theorem law11_SrcsTexts_walk {F : Fz} {fr : List Ow} {h0 : Heap} (l : List T_api_Addr) (s1 : Str) (vl : Value) (gm : Int) (gvS : Value) (gbS : Bool) (gvR : Value) (gbR : Bool) (hS : St F (fr) h0) (hL_l : SliceF F h0 17 e_api_Addr vl l) (hG_0 : RoF (Ow.box 0 3 #[.int .i64 gm]) F h0) (hG_3 : RoF (Ow.box 3 75 #[gvS]) F h0) (hE_gvS : ErrF gbS gvS F h0) (hG_4 : RoF (Ow.box 4 75 #[gvR]) F h0) (hE_gvR : ErrF gbR gvR F h0) (hG_5 : RoF (Ow.box 5 160 (tab10 ()).toArray) F h0) (hG_7 : RoF (Ow.box 7 164 (arrCells tab64).toArray) F h0) (hD : DM.on = false) {Q : Bool → Prop} (hM : law11_SrcsTexts_W l s1 Q) :
    HC Tryz.prog 3 #[vl, .string (bs s1)] h0 fun u h' => ∃ (F' : Fz) (r_1 : Bool), u = .bool r_1 ∧ Kp F h0 F' h' ∧ St F' (fr) h' ∧ (SliceF F' h' 17 e_api_Addr vl l) ∧ (RoF (Ow.box 0 3 #[.int .i64 gm]) F' h') ∧ (RoF (Ow.box 3 75 #[gvS]) F' h') ∧ (ErrF gbS gvS F' h') ∧ (RoF (Ow.box 4 75 #[gvR]) F' h') ∧ (ErrF gbR gvR F' h') ∧ (RoF (Ow.box 5 160 (tab10 ()).toArray) F' h') ∧ (RoF (Ow.box 7 164 (arrCells tab64).toArray) F' h') ∧ Q r_1 := by
  unfold law11_SrcsTexts_W at hM
  have hK := Kp.refl F h0
  refine HC.of_HW (n := 67) Tryz.func3 rfl rfl (Nat.le_of_ble_eq_true rfl) ?_
  refine HW.seq ?_
  refine HW.region ?_
  refine HO.val (v := .bool false) (want_none) rfl (q_assign rfl) ?_
  refine HO.nil (thenQ_normal (?_))
  refine HW.seq ?_
  refine HW.region ?_
  refine HO.val (v := .string (bs s1)) (want_none) rfl (q_move rfl) ?_
  refine HO.call (want_none) rfl (ec en_5 rfl rfl) (law01_Cut_walk (fr := (fr)) s1 80 hS hM) ?_
  rintro _ h_1 ⟨F_1, r_2, rfl, hk, hS, hM⟩
  replace hK := hK.trans hk
  replace hL_l := hL_l.kp hk
  replace hG_0 := hG_0.kp hk
  replace hG_3 := hG_3.kp hk
  replace hE_gvS := hE_gvS.kp hk
  replace hG_4 := hG_4.kp hk
  replace hE_gvR := hE_gvR.kp hk
  replace hG_5 := hG_5.kp hk
  replace hG_7 := hG_7.kp hk
  refine HO.val (v := .string (bs r_2)) (want_none) rfl (q_assign rfl) ?_
  refine HO.nil (thenQ_normal (?_))
  refine HW.seq ?_
  refine HW.region ?_
  refine HO.val (v := vl) (want_none) rfl (q_move rfl) ?_
  refine HO.call (want_none) rfl (ec en_7 rfl rfl) (law08_Addrs_walk (fr := (fr)) l 8 vl hS hL_l hM) ?_
  rintro vr_1 h_2 ⟨F_2, r_3, _, rfl, hk, hS, _, hM⟩
  replace hK := hK.trans hk
  replace hL_l := hL_l.kp hk
  replace hG_0 := hG_0.kp hk
  replace hG_3 := hG_3.kp hk
  replace hE_gvS := hE_gvS.kp hk
  replace hG_4 := hG_4.kp hk
  replace hE_gvR := hE_gvR.kp hk
  replace hG_5 := hG_5.kp hk
  replace hG_7 := hG_7.kp hk
  obtain ⟨F_3, hS, hk, hL_1⟩ := hS.freezeOwn
  replace hK := hK.trans hk
  replace hL_l := hL_l.kp hk
  replace hG_0 := hG_0.kp hk
  replace hG_3 := hG_3.kp hk
  replace hE_gvS := hE_gvS.kp hk
  replace hG_4 := hG_4.kp hk
  replace hE_gvR := hE_gvR.kp hk
  replace hG_5 := hG_5.kp hk
  replace hG_7 := hG_7.kp hk
  refine HO.call (want_none) rfl (ec en_6 rfl rfl) (ref11_Of_walk (fr := (fr)) r_3 vr_1 hS hL_1 hM) ?_
  rintro vr_2 h_3 ⟨F_4, r_4, _, rfl, hk, hS, _, hL_2, hM⟩
  replace hK := hK.trans hk
  replace hL_l := hL_l.kp hk
  replace hG_0 := hG_0.kp hk
  replace hG_3 := hG_3.kp hk
  replace hE_gvS := hE_gvS.kp hk
  replace hG_4 := hG_4.kp hk
  replace hE_gvR := hE_gvR.kp hk
  replace hG_5 := hG_5.kp hk
  replace hG_7 := hG_7.kp hk
  replace hL_1 := hL_1.kp hk
  refine HO.val (v := vr_2) (want_none) rfl (q_assign rfl) ?_
  refine HO.nil (thenQ_normal (?_))
  refine HW.seq ?_
  refine HW.region ?_
  refine HO.val (v := vr_2) (want_none) rfl (q_move rfl) ?_
  refine HO.call (want_none) rfl (ec en_9 rfl rfl) (ref11_Print_walk (fr := (fr)) r_4 vr_2 hS hL_2 hM) ?_
  rintro _ h_4 ⟨F_5, r_5, rfl, hk, hS, _, hM⟩
  replace hK := hK.trans hk
  replace hL_l := hL_l.kp hk
  replace hG_0 := hG_0.kp hk
  replace hG_3 := hG_3.kp hk
  replace hE_gvS := hE_gvS.kp hk
  replace hG_4 := hG_4.kp hk
  replace hE_gvR := hE_gvR.kp hk
  replace hG_5 := hG_5.kp hk
  replace hG_7 := hG_7.kp hk
  replace hL_1 := hL_1.kp hk
  replace hL_2 := hL_2.kp hk
  refine HO.call (want_none) rfl (ec en_8 rfl rfl) (srcs_Parse_walk (fr := (fr)) r_5 gm gvS gbS gvR gbR hS hG_0 hG_3 hE_gvS hG_4 hE_gvR hG_5 hG_7 hD hM) ?_
  rintro _ h_5 ⟨F_6, r0_1, r1_1, vr0_1, rfl, hk, hS, _, _, _, _, _, _, _, hM⟩
  replace hK := hK.trans hk
  replace hL_l := hL_l.kp hk
  replace hG_0 := hG_0.kp hk
  replace hG_3 := hG_3.kp hk
  replace hE_gvS := hE_gvS.kp hk
  replace hG_4 := hG_4.kp hk
  replace hE_gvR := hE_gvR.kp hk
  replace hG_5 := hG_5.kp hk
  replace hG_7 := hG_7.kp hk
  replace hL_1 := hL_1.kp hk
  replace hL_2 := hL_2.kp hk
  refine HO.val (v := .tuple #[vr0_1, .int .i64 r1_1]) (want_none) rfl (q_move rfl) ?_
  refine HO.val (v := vr0_1) (want_none) rfl (q_extract rfl rfl) ?_
  refine HO.val (v := .int .i64 r1_1) (want_none) rfl (q_extract rfl rfl) ?_
  refine HO.val (v := vr0_1) (want_none) rfl (q_assign rfl) ?_
  refine HO.val (v := .int .i64 r1_1) (want_none) rfl (q_assign rfl) ?_
  refine HO.nil (thenQ_normal (?_))
  refine HW.seq ?_
  refine HW.region ?_
  refine HO.val (v := .string (bs r_2)) (want_none) rfl (q_move rfl) ?_
  refine HO.call (want_none) rfl (ec en_8 rfl rfl) (srcs_Parse_walk (fr := (Ow.own 44 17 e_api_Addr vr0_1 r0_1 :: fr)) r_2 gm gvS gbS gvR gbR hS hG_0 hG_3 hE_gvS hG_4 hE_gvR hG_5 hG_7 hD hM) ?_
  rintro _ h_6 ⟨F_7, r0_2, r1_2, vr0_2, rfl, hk, hS, _, _, _, _, _, _, _, hM⟩
  replace hK := hK.trans hk
  replace hL_l := hL_l.kp hk
  replace hG_0 := hG_0.kp hk
  replace hG_3 := hG_3.kp hk
  replace hE_gvS := hE_gvS.kp hk
  replace hG_4 := hG_4.kp hk
  replace hE_gvR := hE_gvR.kp hk
  replace hG_5 := hG_5.kp hk
  replace hG_7 := hG_7.kp hk
  replace hL_1 := hL_1.kp hk
  replace hL_2 := hL_2.kp hk
  refine HO.val (v := .tuple #[vr0_2, .int .i64 r1_2]) (want_none) rfl (q_move rfl) ?_
  refine HO.val (v := vr0_2) (want_none) rfl (q_extract rfl rfl) ?_
  refine HO.val (v := .int .i64 r1_2) (want_none) rfl (q_extract rfl rfl) ?_
  refine HO.val (v := vr0_2) (want_none) rfl (q_assign rfl) ?_
  refine HO.val (v := .int .i64 r1_2) (want_none) rfl (q_assign rfl) ?_
  refine HO.nil (thenQ_normal (?_))
  refine HW.seq ?_
  refine HW.seq_mid (fun f h => ∃ (F' : Fz) (b_1 : Bool), f 1 = .string (bs r_2) ∧ f 4 = .bool false ∧ f 8 = vr0_2 ∧ f 9 = .int .i64 r1_2 ∧ f 41 = .bool b_1 ∧ Kp F h0 F' h ∧ St F' (Ow.own 44 17 e_api_Addr vr0_2 r0_2 :: fr) h ∧ (SliceF F' h 17 e_api_Addr vl l) ∧ (RoF (Ow.box 0 3 #[.int .i64 gm]) F' h) ∧ (RoF (Ow.box 3 75 #[gvS]) F' h) ∧ (ErrF gbS gvS F' h) ∧ (RoF (Ow.box 4 75 #[gvR]) F' h) ∧ (ErrF gbR gvR F' h) ∧ (RoF (Ow.box 5 160 (tab10 ()).toArray) F' h) ∧ (RoF (Ow.box 7 164 (arrCells tab64).toArray) F' h) ∧ (SliceF F' h 17 e_api_Addr vr_1 r_3) ∧ (SliceF F' h 17 e_api_Addr vr_2 r_4) ∧ law11_SrcsTexts_j1 Q r_2 r0_2 r1_2 b_1) ?_ ?_
  · refine HW.region ?_
    refine HO.val (v := vr_2) (want_none) rfl (q_move rfl) ?_
    refine HO.call (want_none) rfl (ec en_7 rfl rfl) (law08_Addrs_walk (fr := (Ow.own 44 17 e_api_Addr vr0_2 r0_2 :: Ow.own 44 17 e_api_Addr vr0_1 r0_1 :: fr)) r_4 8 vr_2 hS hL_2 hM) ?_
    rintro vr_3 h_7 ⟨F_8, r_6, _, rfl, hk, hS, _, hM⟩
    replace hK := hK.trans hk
    replace hL_l := hL_l.kp hk
    replace hG_0 := hG_0.kp hk
    replace hG_3 := hG_3.kp hk
    replace hE_gvS := hE_gvS.kp hk
    replace hG_4 := hG_4.kp hk
    replace hE_gvR := hE_gvR.kp hk
    replace hG_5 := hG_5.kp hk
    replace hG_7 := hG_7.kp hk
    replace hL_1 := hL_1.kp hk
    replace hL_2 := hL_2.kp hk
    have hZ_1 := hS
    have hkz_1 := (hS.freeze).2
    replace hS := hS.freeze.1
    have hL_3 : SliceF (fun b => F_8 b ∨ (Ow.own 44 17 e_api_Addr vr_3 r_6).foot b) h_7 17 e_api_Addr vr_3 r_6 := ⟨(hZ_1.own 0 rfl).slice, fun _ b hb => .inr hb⟩
    refine HO.call (want_none) rfl (ec en_10 rfl rfl) (srcs_Print_walk (fr := (Ow.own 44 17 e_api_Addr vr0_2 r0_2 :: Ow.own 44 17 e_api_Addr vr0_1 r0_1 :: fr)) r_6 vr_3 hS hL_3 (hG_5.kp hkz_1) (hG_7.kp hkz_1) hD hM) ?_
    rintro _ h_8 ⟨F_9, r_7, rfl, hk, hS, _, _, _, hM⟩
    obtain ⟨hS, hk⟩ := hZ_1.back hk hS
    generalize (fun b => F_9 b ∧ ¬ (Ow.own 44 17 e_api_Addr vr_3 r_6).foot b) = F_10 at hS hk
    replace hK := hK.trans hk
    replace hL_l := hL_l.kp hk
    replace hG_0 := hG_0.kp hk
    replace hG_3 := hG_3.kp hk
    replace hE_gvS := hE_gvS.kp hk
    replace hG_4 := hG_4.kp hk
    replace hE_gvR := hE_gvR.kp hk
    replace hG_5 := hG_5.kp hk
    replace hG_7 := hG_7.kp hk
    replace hL_1 := hL_1.kp hk
    replace hL_2 := hL_2.kp hk
    refine HO.val (v := vr_2) (want_none) rfl (q_move rfl) ?_
    refine HO.call (want_none) rfl (ec en_9 rfl rfl) (ref11_Print_walk (fr := (Ow.own 44 17 e_api_Addr vr_3 r_6 :: Ow.own 44 17 e_api_Addr vr0_2 r0_2 :: Ow.own 44 17 e_api_Addr vr0_1 r0_1 :: fr)) r_4 vr_2 hS hL_2 hM) ?_
    rintro _ h_9 ⟨F_11, r_8, rfl, hk, hS, _, hM⟩
    replace hK := hK.trans hk
    replace hL_l := hL_l.kp hk
    replace hG_0 := hG_0.kp hk
    replace hG_3 := hG_3.kp hk
    replace hE_gvS := hE_gvS.kp hk
    replace hG_4 := hG_4.kp hk
    replace hE_gvR := hE_gvR.kp hk
    replace hG_5 := hG_5.kp hk
    replace hG_7 := hG_7.kp hk
    replace hL_1 := hL_1.kp hk
    replace hL_2 := hL_2.kp hk
    refine HO.val (v := .bool (!decide ((r_7 : Str) = r_8))) (want_none) rfl (q_neqT rfl rfl) ?_
    refine HO.val (v := .bool (!decide ((r_7 : Str) = r_8))) (want_none) rfl (q_move rfl) ?_
    rcases Bool.eq_false_or_eq_true (!decide ((r_7 : Str) = r_8)) with c_1 | c_1
    · replace hM := hM.1 (nd_true c_1)
      refine HO.past (past_by rfl rfl c_1) rfl ?_
      refine HO.past (past_by rfl rfl c_1) rfl ?_
      refine HO.past (past_by rfl rfl c_1) rfl ?_
      refine HO.past (past_by rfl rfl c_1) rfl ?_
      refine HO.val (v := .bool true) (want_none) rfl (q_pickK true rfl c_1 rfl) ?_
      refine HO.val (v := .bool true) (want_none) rfl (q_move rfl) ?_
      refine HO.past (past_some rfl rfl) rfl ?_
      refine HO.past (past_some rfl rfl) rfl ?_
      refine HO.val (v := .bool true) (want_none) rfl (q_pick rfl rfl) ?_
      refine HO.nil (thenQ_normal (?_))
      replace hS : St F_11 (Ow.own 44 17 e_api_Addr vr0_2 r0_2 :: fr) h_9 := hS.perm2 [1] 3 rfl rfl
      exact ⟨F_11, true, rfl, rfl, rfl, rfl, rfl, hK, hS, hL_l, hG_0, hG_3, hE_gvS, hG_4, hE_gvR, hG_5, hG_7, hL_1, hL_2, hM⟩
    · replace hM := hM.2 (nd_false c_1)
      refine HO.val (v := vr0_1) (want_by rfl rfl c_1) rfl (q_move rfl) ?_
      refine HO.val (v := vr_2) (want_by rfl rfl c_1) rfl (q_move rfl) ?_
      replace hS : St F_11 (Ow.own 44 17 e_api_Addr vr0_1 r0_1 :: Ow.own 44 17 e_api_Addr vr_3 r_6 :: Ow.own 44 17 e_api_Addr vr0_2 r0_2 :: fr) h_9 := hS.perm2 [2, 0, 1] 3 rfl rfl
      have hZ_2 := hS
      have hkz_2 := (hS.freeze).2
      replace hS := hS.freeze.1
      have hL_4 : SliceF (fun b => F_11 b ∨ (Ow.own 44 17 e_api_Addr vr0_1 r0_1).foot b) h_9 17 e_api_Addr vr0_1 r0_1 := ⟨(hZ_2.own 0 rfl).slice, fun _ b hb => .inr hb⟩
      refine HO.call (want_by rfl rfl c_1) rfl (ec en_11 rfl rfl) (ref11_Same_walk (fr := (Ow.own 44 17 e_api_Addr vr_3 r_6 :: Ow.own 44 17 e_api_Addr vr0_2 r0_2 :: fr)) r0_1 r_4 vr0_1 vr_2 hS hL_4 (hL_2.kp hkz_2) hM) ?_
      rintro _ h_10 ⟨F_12, r_9, rfl, hk, hS, _, _, hM⟩
      obtain ⟨hS, hk⟩ := hZ_2.back hk hS
      generalize (fun b => F_12 b ∧ ¬ (Ow.own 44 17 e_api_Addr vr0_1 r0_1).foot b) = F_13 at hS hk
      replace hK := hK.trans hk
      replace hL_l := hL_l.kp hk
      replace hG_0 := hG_0.kp hk
      replace hG_3 := hG_3.kp hk
      replace hE_gvS := hE_gvS.kp hk
      replace hG_4 := hG_4.kp hk
      replace hE_gvR := hE_gvR.kp hk
      replace hG_5 := hG_5.kp hk
      replace hG_7 := hG_7.kp hk
      replace hL_1 := hL_1.kp hk
      replace hL_2 := hL_2.kp hk
      refine HO.val (v := .bool (!r_9)) (want_by rfl rfl c_1) rfl (q_not rfl) ?_
      refine HO.val (v := .bool (!r_9)) (want_none) rfl (q_pickK false rfl c_1 rfl) ?_
      refine HO.val (v := .bool (!r_9)) (want_none) rfl (q_move rfl) ?_
      rcases Bool.eq_false_or_eq_true (!r_9) with c_2 | c_2
      · replace hM := hM.1 c_2
        refine HO.past (past_by rfl rfl c_2) rfl ?_
        refine HO.past (past_by rfl rfl c_2) rfl ?_
        refine HO.val (v := .bool true) (want_none) rfl (q_pickK true rfl c_2 rfl) ?_
        refine HO.nil (thenQ_normal (?_))
        replace hS : St F_13 (Ow.own 44 17 e_api_Addr vr0_2 r0_2 :: fr) h_10 := hS.perm2 [2] 3 rfl rfl
        exact ⟨F_13, true, rfl, rfl, rfl, rfl, rfl, hK, hS, hL_l, hG_0, hG_3, hE_gvS, hG_4, hE_gvR, hG_5, hG_7, hL_1, hL_2, hM⟩
      · replace hM := hM.2 c_2
        refine HO.val (v := .int .i64 r1_1) (want_by rfl rfl c_2) rfl (q_move rfl) ?_
        refine HO.val (v := .bool (!decide (r1_1 = 0))) (want_by rfl rfl c_2) rfl (q_neq rfl rfl) ?_
        refine HO.val (v := .bool (!decide (r1_1 = 0))) (want_none) rfl (q_pickK false rfl c_2 rfl) ?_
        refine HO.nil (thenQ_normal (?_))
        replace hS : St F_13 (Ow.own 44 17 e_api_Addr vr0_2 r0_2 :: fr) h_10 := hS.perm2 [2] 3 rfl rfl
        exact ⟨F_13, !decide (r1_1 = 0), rfl, rfl, rfl, rfl, rfl, hK, hS, hL_l, hG_0, hG_3, hE_gvS, hG_4, hE_gvR, hG_5, hG_7, hL_1, hL_2, hM⟩
  · rintro f_1 h_11 ⟨F_14, b_1, e1, e4, e8, e9, e41, hK, hS, hL_l, hG_0, hG_3, hE_gvS, hG_4, hE_gvR, hG_5, hG_7, hL_1, hL_2, hM⟩
    unfold law11_SrcsTexts_j1 at hM
    refine HW.fr [(1, .string (bs r_2)), (4, .bool false), (8, vr0_2), (9, .int .i64 r1_2), (41, .bool b_1)] ⟨e1, e4, e8, e9, e41, trivial⟩ ?_
    refine HW.cond b_1 rfl (fun c_3 => ?_) (fun c_3 => ?_)
    · replace hM := hM.1 c_3
      refine HW.seq ?_
      refine HW.region ?_
      refine HO.val (v := .bool false) (want_none) rfl (q_assign rfl) ?_
      refine HO.nil (thenQ_normal (?_))
      refine HW.ret (thenQ_ret (?_))
      refine ⟨.inr rfl, .bool false, res1 rfl (rt rfl), ?_⟩
      replace hS : St F_14 (fr) h_11 := hS.perm2 [] 1 rfl rfl
      exact ⟨F_14, false, rfl, hK, hS, hL_l, hG_0, hG_3, hE_gvS, hG_4, hE_gvR, hG_5, hG_7, hM⟩
    · replace hM := hM.2 c_3
      refine HW.skip (thenQ_normal (?_))
      refine HW.seq ?_
      refine HW.seq ?_
      refine HW.region ?_
      refine HO.val (v := .int .i64 r1_2) (want_none) rfl (q_move rfl) ?_
      refine HO.val (v := .bool (!decide (r1_2 = 0))) (want_none) rfl (q_neq rfl rfl) ?_
      refine HO.nil (thenQ_normal (?_))
      refine HW.cond (!decide (r1_2 = 0)) rfl (fun c_4 => ?_) (fun c_4 => ?_)
      · replace hM := hM.1 (nd_true c_4)
        refine HW.seq_mid (fun f h => ∃ (F' : Fz) (b_2 : Bool), f 1 = .string (bs r_2) ∧ f 4 = .bool b_2 ∧ f 8 = vr0_2 ∧ Kp F h0 F' h ∧ St F' (Ow.own 44 17 e_api_Addr vr0_2 r0_2 :: fr) h ∧ (SliceF F' h 17 e_api_Addr vl l) ∧ (RoF (Ow.box 0 3 #[.int .i64 gm]) F' h) ∧ (RoF (Ow.box 3 75 #[gvS]) F' h) ∧ (ErrF gbS gvS F' h) ∧ (RoF (Ow.box 4 75 #[gvR]) F' h) ∧ (ErrF gbR gvR F' h) ∧ (RoF (Ow.box 5 160 (tab10 ()).toArray) F' h) ∧ (RoF (Ow.box 7 164 (arrCells tab64).toArray) F' h) ∧ (SliceF F' h 17 e_api_Addr vr_1 r_3) ∧ (SliceF F' h 17 e_api_Addr vr_2 r_4) ∧ law11_SrcsTexts_j2 Q b_2) ?_ ?_
        · refine HW.region ?_
          refine HO.val (v := vr0_2) (want_none) rfl (q_move rfl) ?_
          refine HO.val (v := .int .i64 (r0_2.length : Int)) (want_none) rfl (q_len ts_22 (shp (hS.own 0 rfl).slice) rfl rfl) ?_
          refine HO.val (v := .bool (decide ((r0_2.length : Int) = 0))) (want_none) rfl (q_eql rfl rfl) ?_
          refine HO.val (v := .bool (decide ((r0_2.length : Int) = 0))) (want_none) rfl (q_move rfl) ?_
          rcases Bool.eq_false_or_eq_true (decide ((r0_2.length : Int) = 0)) with c_5 | c_5
          · replace hM := hM.1 (of_decide_eq_true c_5)
            refine HO.val (v := .int .i64 r1_2) (want_by rfl rfl c_5) rfl (q_move rfl) ?_
            refine HO.val (v := .bool (decide (r1_2 = 2))) (want_by rfl rfl c_5) rfl (q_eql rfl rfl) ?_
            refine HO.val (v := .bool (decide (r1_2 = 2))) (want_none) rfl (q_pickK true rfl c_5 rfl) ?_
            refine HO.val (v := .bool (decide (r1_2 = 2))) (want_none) rfl (q_move rfl) ?_
            rcases Bool.eq_false_or_eq_true (decide (r1_2 = 2)) with c_6 | c_6
            · replace hM := hM.1 (of_decide_eq_true c_6)
              refine HO.call (want_by rfl rfl c_6) rfl (ec en_12 rfl rfl) (law11_lives_walk (fr := (Ow.own 44 17 e_api_Addr vr0_2 r0_2 :: fr))  hS hG_5 hG_7 hD hM) ?_
              rintro _ h_12 ⟨F_15, r_10, rfl, hk, hS, _, _, hM⟩
              replace hK := hK.trans hk
              replace hL_l := hL_l.kp hk
              replace hG_0 := hG_0.kp hk
              replace hG_3 := hG_3.kp hk
              replace hE_gvS := hE_gvS.kp hk
              replace hG_4 := hG_4.kp hk
              replace hE_gvR := hE_gvR.kp hk
              replace hG_5 := hG_5.kp hk
              replace hG_7 := hG_7.kp hk
              replace hL_1 := hL_1.kp hk
              replace hL_2 := hL_2.kp hk
              refine HO.val (v := .bool r_10) (want_none) rfl (q_pickK true rfl c_6 rfl) ?_
              refine HO.val (v := .bool r_10) (want_none) rfl (q_assign rfl) ?_
              refine HO.nil (thenQ_normal (?_))
              exact ⟨F_15, r_10, rfl, rfl, rfl, hK, hS, hL_l, hG_0, hG_3, hE_gvS, hG_4, hE_gvR, hG_5, hG_7, hL_1, hL_2, hM⟩
            · replace hM := hM.2 (of_decide_eq_false c_6)
              refine HO.past (past_by rfl rfl c_6) rfl ?_
              refine HO.val (v := .bool false) (want_none) rfl (q_pickK false rfl c_6 rfl) ?_
              refine HO.val (v := .bool false) (want_none) rfl (q_assign rfl) ?_
              refine HO.nil (thenQ_normal (?_))
              exact ⟨F_14, false, rfl, rfl, rfl, hK, hS, hL_l, hG_0, hG_3, hE_gvS, hG_4, hE_gvR, hG_5, hG_7, hL_1, hL_2, hM⟩
          · replace hM := hM.2 (of_decide_eq_false c_5)
            refine HO.past (past_by rfl rfl c_5) rfl ?_
            refine HO.past (past_by rfl rfl c_5) rfl ?_
            refine HO.val (v := .bool false) (want_none) rfl (q_pickK false rfl c_5 rfl) ?_
            refine HO.val (v := .bool false) (want_none) rfl (q_move rfl) ?_
            refine HO.past (past_some rfl rfl) rfl ?_
            refine HO.val (v := .bool false) (want_none) rfl (q_pick rfl rfl) ?_
            refine HO.val (v := .bool false) (want_none) rfl (q_assign rfl) ?_
            refine HO.nil (thenQ_normal (?_))
            exact ⟨F_14, false, rfl, rfl, rfl, hK, hS, hL_l, hG_0, hG_3, hE_gvS, hG_4, hE_gvR, hG_5, hG_7, hL_1, hL_2, hM⟩
        · rintro f_2 h_13 ⟨F_16, b_2, e1, e4, e8, hK, hS, hL_l, hG_0, hG_3, hE_gvS, hG_4, hE_gvR, hG_5, hG_7, hL_1, hL_2, hM⟩
          unfold law11_SrcsTexts_j2 at hM
          refine HW.fr [(1, .string (bs r_2)), (4, .bool b_2), (8, vr0_2)] ⟨e1, e4, e8, trivial⟩ ?_
          refine HW.ret (thenQ_ret (?_))
          refine ⟨.inr rfl, .bool b_2, res1 rfl (rt rfl), ?_⟩
          replace hS : St F_16 (fr) h_13 := hS.perm2 [] 1 rfl rfl
          exact ⟨F_16, b_2, rfl, hK, hS, hL_l, hG_0, hG_3, hE_gvS, hG_4, hE_gvR, hG_5, hG_7, hM⟩
      · replace hM := hM.2 (nd_false c_4)
        refine HW.skip (thenQ_normal (?_))
        refine HW.seq ?_
        refine HW.region ?_
        refine HO.val (v := vr0_2) (want_none) rfl (q_move rfl) ?_
        have hZ_3 := hS
        have hkz_3 := (hS.freeze).2
        replace hS := hS.freeze.1
        have hL_5 : SliceF (fun b => F_14 b ∨ (Ow.own 44 17 e_api_Addr vr0_2 r0_2).foot b) h_11 17 e_api_Addr vr0_2 r0_2 := ⟨(hZ_3.own 0 rfl).slice, fun _ b hb => .inr hb⟩
        refine HO.call (want_none) rfl (ec en_9 rfl rfl) (ref11_Print_walk (fr := (fr)) r0_2 vr0_2 hS hL_5 hM) ?_
        rintro _ h_14 ⟨F_17, r_11, rfl, hk, hS, _, hM⟩
        obtain ⟨hS, hk⟩ := hZ_3.back hk hS
        generalize (fun b => F_17 b ∧ ¬ (Ow.own 44 17 e_api_Addr vr0_2 r0_2).foot b) = F_18 at hS hk
        replace hK := hK.trans hk
        replace hL_l := hL_l.kp hk
        replace hG_0 := hG_0.kp hk
        replace hG_3 := hG_3.kp hk
        replace hE_gvS := hE_gvS.kp hk
        replace hG_4 := hG_4.kp hk
        replace hE_gvR := hE_gvR.kp hk
        replace hG_5 := hG_5.kp hk
        replace hG_7 := hG_7.kp hk
        refine HO.val (v := .string (bs r_2)) (want_none) rfl (q_move rfl) ?_
        refine HO.val (v := .bool (decide ((r_11 : Str) = r_2))) (want_none) rfl (q_eqlT rfl rfl) ?_
        refine HO.val (v := .bool (decide ((r_11 : Str) = r_2))) (want_none) rfl (q_move rfl) ?_
        rcases Bool.eq_false_or_eq_true (decide ((r_11 : Str) = r_2)) with c_7 | c_7
        · replace hM := hM.1 (of_decide_eq_true c_7)
          refine HO.val (v := vr0_2) (want_by rfl rfl c_7) rfl (q_move rfl) ?_
          obtain ⟨F_19, hS, hk, hL_6⟩ := hS.freezeOwn
          replace hK := hK.trans hk
          replace hL_l := hL_l.kp hk
          replace hG_0 := hG_0.kp hk
          replace hG_3 := hG_3.kp hk
          replace hE_gvS := hE_gvS.kp hk
          replace hG_4 := hG_4.kp hk
          replace hE_gvR := hE_gvR.kp hk
          replace hG_5 := hG_5.kp hk
          replace hG_7 := hG_7.kp hk
          refine HO.call (want_by rfl rfl c_7) rfl (ec en_6 rfl rfl) (ref11_Of_walk (fr := (fr)) r0_2 vr0_2 hS hL_6 hM) ?_
          rintro vr_4 h_15 ⟨F_20, r_12, _, rfl, hk, hS, _, hL_7, hM⟩
          replace hK := hK.trans hk
          replace hL_l := hL_l.kp hk
          replace hG_0 := hG_0.kp hk
          replace hG_3 := hG_3.kp hk
          replace hE_gvS := hE_gvS.kp hk
          replace hG_4 := hG_4.kp hk
          replace hE_gvR := hE_gvR.kp hk
          replace hG_5 := hG_5.kp hk
          replace hG_7 := hG_7.kp hk
          replace hL_6 := hL_6.kp hk
          refine HO.val (v := vr0_2) (want_by rfl rfl c_7) rfl (q_move rfl) ?_
          refine HO.call (want_by rfl rfl c_7) rfl (ec en_11 rfl rfl) (ref11_Same_walk (fr := (fr)) r_12 r0_2 vr_4 vr0_2 hS hL_7 hL_6 hM) ?_
          rintro _ h_16 ⟨F_21, r_13, rfl, hk, hS, _, _, hM⟩
          replace hK := hK.trans hk
          replace hL_l := hL_l.kp hk
          replace hG_0 := hG_0.kp hk
          replace hG_3 := hG_3.kp hk
          replace hE_gvS := hE_gvS.kp hk
          replace hG_4 := hG_4.kp hk
          replace hE_gvR := hE_gvR.kp hk
          replace hG_5 := hG_5.kp hk
          replace hG_7 := hG_7.kp hk
          refine HO.val (v := .bool r_13) (want_none) rfl (q_pickK true rfl c_7 rfl) ?_
          refine HO.val (v := .bool r_13) (want_none) rfl (q_move rfl) ?_
          rcases Bool.eq_false_or_eq_true r_13 with c_8 | c_8
          · replace hM := hM.1 c_8
            refine HO.call (want_by rfl rfl c_8) rfl (ec en_12 rfl rfl) (law11_lives_walk (fr := (fr))  hS hG_5 hG_7 hD hM) ?_
            rintro _ h_17 ⟨F_22, r_14, rfl, hk, hS, _, _, hM⟩
            replace hK := hK.trans hk
            replace hL_l := hL_l.kp hk
            replace hG_0 := hG_0.kp hk
            replace hG_3 := hG_3.kp hk
            replace hE_gvS := hE_gvS.kp hk
            replace hG_4 := hG_4.kp hk
            replace hE_gvR := hE_gvR.kp hk
            replace hG_5 := hG_5.kp hk
            replace hG_7 := hG_7.kp hk
            refine HO.val (v := .bool r_14) (want_none) rfl (q_pickK true rfl c_8 rfl) ?_
            refine HO.val (v := .bool r_14) (want_none) rfl (q_assign rfl) ?_
            refine HO.nil (thenQ_normal (?_))
            refine HW.ret (?_)
            refine ⟨.inr rfl, .bool r_14, res1 rfl (rt rfl), ?_⟩
            exact ⟨F_22, r_14, rfl, hK, hS, hL_l, hG_0, hG_3, hE_gvS, hG_4, hE_gvR, hG_5, hG_7, hM⟩
          · replace hM := hM.2 c_8
            refine HO.past (past_by rfl rfl c_8) rfl ?_
            refine HO.val (v := .bool false) (want_none) rfl (q_pickK false rfl c_8 rfl) ?_
            refine HO.val (v := .bool false) (want_none) rfl (q_assign rfl) ?_
            refine HO.nil (thenQ_normal (?_))
            refine HW.ret (?_)
            refine ⟨.inr rfl, .bool false, res1 rfl (rt rfl), ?_⟩
            exact ⟨F_21, false, rfl, hK, hS, hL_l, hG_0, hG_3, hE_gvS, hG_4, hE_gvR, hG_5, hG_7, hM⟩
        · replace hM := hM.2 (of_decide_eq_false c_7)
          refine HO.past (past_by rfl rfl c_7) rfl ?_
          refine HO.past (past_by rfl rfl c_7) rfl ?_
          refine HO.past (past_by rfl rfl c_7) rfl ?_
          refine HO.past (past_by rfl rfl c_7) rfl ?_
          refine HO.val (v := .bool false) (want_none) rfl (q_pickK false rfl c_7 rfl) ?_
          refine HO.val (v := .bool false) (want_none) rfl (q_move rfl) ?_
          refine HO.past (past_some rfl rfl) rfl ?_
          refine HO.val (v := .bool false) (want_none) rfl (q_pick rfl rfl) ?_
          refine HO.val (v := .bool false) (want_none) rfl (q_assign rfl) ?_
          refine HO.nil (thenQ_normal (?_))
          refine HW.ret (?_)
          refine ⟨.inr rfl, .bool false, res1 rfl (rt rfl), ?_⟩
          replace hS : St F_18 (fr) h_14 := hS.perm2 [] 1 rfl rfl
          exact ⟨F_18, false, rfl, hK, hS, hL_l, hG_0, hG_3, hE_gvS, hG_4, hE_gvR, hG_5, hG_7, hM⟩
end Go.Wk
