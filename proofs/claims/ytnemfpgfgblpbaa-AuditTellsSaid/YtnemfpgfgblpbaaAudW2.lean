/- test -/
import Derived.Test.YtnemfpgfgblpbaaAudW1
set_option linter.unusedSimpArgs false
set_option linter.unusedVariables false
set_option linter.unusedSectionVars false
namespace Go.Wk
open Go.HL
open Go.Proofs hiding encI
variable [DM]

def slices_Compact_s_int_int_l3 (s1 : List Int) (Q : (List Int) → Prop) (k_1 : Int) (K_2 : (List Int) → Int → Int → Prop) (l_2 : List Int) (k_2 : Int) (k2_1 : Int) : Prop :=
  ((0 : Int) ≤ k_1 ∧ k_1 ≤ (s1.length : Int) ∧ (s1.length : Int) ≤ (l_2.length : Int)) ∧ ((k2_1 < ((cut l_2 k_1 (s1.length : Int)).length : Int) → ((0 : Int) ≤ k2_1 ∧ k2_1 < ((cut l_2 k_1 (s1.length : Int)).length : Int)) ∧ ((I64 (k2_1 - 1)) ∧ (((0 : Int) ≤ k2_1 - 1 ∧ k2_1 - 1 < ((cut l_2 k_1 (s1.length : Int)).length : Int)) ∧ ((¬ ((gi (cut l_2 k_1 (s1.length : Int)) k2_1) = (gi (cut l_2 k_1 (s1.length : Int)) (k2_1 - 1))) → ((0 : Int) ≤ k_2 ∧ k_2 < (l_2.length : Int)) ∧ ((I64 (k_2 + 1)) ∧ ((I64 (k2_1 + 1)) ∧ (K_2 (l_2.set (k_2).toNat (gi (cut l_2 k_1 (s1.length : Int)) k2_1)) (k_2 + 1) (k2_1 + 1))))) ∧ ((gi (cut l_2 k_1 (s1.length : Int)) k2_1) = (gi (cut l_2 k_1 (s1.length : Int)) (k2_1 - 1)) → (I64 (k2_1 + 1)) ∧ (K_2 l_2 k_2 (k2_1 + 1))))))) ∧ (¬ (k2_1 < ((cut l_2 k_1 (s1.length : Int)).length : Int)) → ((0 : Int) ≤ k_2 ∧ k_2 ≤ (l_2.length : Int)) ∧ (((0 : Int) ≤ k_2 ∧ k_2 ≤ (l_2.length : Int) ∧ (l_2.length : Int) ≤ (l_2.length : Int)) ∧ (((0 : Int) ≤ k_2 ∧ k_2 ≤ ((clr l_2 k_2 (l_2.length : Int)).length : Int)) ∧ (Q (cut (clr l_2 k_2 (l_2.length : Int)) 0 k_2))))))
def slices_Compact_s_int_int_l1 (s1 : List Int) (Q : (List Int) → Prop) (K_1 : Int → Prop) (k_1 : Int) : Prop :=
  (k_1 < (s1.length : Int) → ((0 : Int) ≤ k_1 ∧ k_1 < (s1.length : Int)) ∧ ((I64 (k_1 - 1)) ∧ (((0 : Int) ≤ k_1 - 1 ∧ k_1 - 1 < (s1.length : Int)) ∧ (((gi s1 k_1) = (gi s1 (k_1 - 1)) → ((0 : Int) ≤ k_1 ∧ k_1 ≤ (s1.length : Int)) ∧ (loopW (fun (K_2 : (List Int × Int × Int) → Prop) (s : List Int × Int × Int) => slices_Compact_s_int_int_l3 s1 Q k_1 (fun l_2 k_2 k2_1 => K_2 (l_2, k_2, k2_1)) s.1 s.2.1 s.2.2) (s1, k_1, 1))) ∧ (¬ ((gi s1 k_1) = (gi s1 (k_1 - 1))) → (I64 (k_1 + 1)) ∧ (K_1 (k_1 + 1))))))) ∧ (¬ (k_1 < (s1.length : Int)) → Q s1)
def slices_Compact_s_int_int_W (s1 : List Int) (Q : (List Int) → Prop) : Prop :=
  ((s1.length : Int) < 2 → Q s1) ∧ (¬ ((s1.length : Int) < 2) → loopW (fun (K_1 : Int → Prop) (s : Int) => slices_Compact_s_int_int_l1 s1 Q K_1 s) 1)
set_option maxHeartbeats 40000000 in
set_option maxRecDepth 100000 in
theorem slices_Compact_s_int_int_walk {F : Fz} {fr : List Ow} {h0 : Heap} (s1 : List Int) (vs : Value) (hS : St F (Ow.own 3 1 encI vs s1 :: fr) h0)  {Q : (List Int) → Prop} (hM : slices_Compact_s_int_int_W s1 Q) :
    HC Try.prog 118 #[vs] h0 fun u h' => ∃ (F' : Fz) (r_1 : List Int) (vr_1 : Value), u = vr_1 ∧ Kp F h0 F' h' ∧ St F' (Ow.own 3 1 encI vr_1 r_1 :: fr) h' ∧ Q r_1 := by
  unfold slices_Compact_s_int_int_W at hM
  have hK := Kp.refl F h0
  refine HC.of_HW (n := 61) Try.func118 rfl rfl (Nat.le_of_ble_eq_true rfl) ?_
  refine HW.seq ?_
  refine HW.region ?_
  refine HO.val (v := .slice none 0 0) (want_none) rfl (q_assign rfl) ?_
  refine HO.nil (thenQ_normal (?_))
  refine HW.seq ?_
  refine HW.seq ?_
  refine HW.region ?_
  refine HO.val (v := vs) (want_none) rfl (q_move rfl) ?_
  refine HO.val (v := .int .i64 (s1.length : Int)) (want_none) rfl (q_len ts_22 (shp (hS.own 0 rfl).slice) rfl rfl) ?_
  refine HO.val (v := .bool (decide ((s1.length : Int) < 2))) (want_none) rfl (q_lss rfl rfl) ?_
  refine HO.nil (thenQ_normal (?_))
  refine HW.cond (decide ((s1.length : Int) < 2)) rfl (fun c_1 => ?_) (fun c_1 => ?_)
  · replace hM := hM.1 (of_decide_eq_true c_1)
    refine HW.seq ?_
    refine HW.region ?_
    refine HO.val (v := vs) (want_none) rfl (q_move rfl) ?_
    refine HO.val (v := vs) (want_none) rfl (q_assign rfl) ?_
    refine HO.nil (thenQ_normal (?_))
    refine HW.ret (thenQ_ret (?_))
    refine ⟨.inr rfl, vs, res1 rfl (rt rfl), ?_⟩
    exact ⟨F, s1, vs, rfl, hK, hS, hM⟩
  · replace hM := hM.2 (of_decide_eq_false c_1)
    refine HW.skip (thenQ_normal (?_))
    refine HW.seq ?_
    refine HW.seq ?_
    refine HW.region ?_
    refine HO.val (v := .int .i64 1) (want_none) rfl (q_assign rfl) ?_
    refine HO.nil (thenQ_normal (?_))
    refine HW.block ?_
    obtain ⟨I_1, m_1, hI_1, hR_1⟩ := hM
    refine HW.loop (S := Int) (fun k_1 f h => ∃ (F' : Fz), f 0 = vs ∧ f 2 = .slice none 0 0 ∧ f 3 = .int .i64 k_1 ∧ Kp F h0 F' h ∧ St F' (Ow.own 3 1 encI vs s1 :: fr) h ∧ I_1 k_1) m_1 1 ⟨F, rfl, rfl, rfl, hK, hS, hI_1⟩ ?_
    rintro k_1 f_1 h_1 ⟨F_1, e0, e2, e3, hK, hS, hI0⟩
    obtain ⟨K_1, hKe_1⟩ : ∃ K : Int → Prop, K = fun k_1' => I_1 k_1' ∧ m_1 k_1' < m_1 k_1 := ⟨_, rfl⟩
    have hM : slices_Compact_s_int_int_l1 s1 Q K_1 k_1 := by rw [hKe_1]; exact hR_1 k_1 hI0
    unfold slices_Compact_s_int_int_l1 at hM
    refine HW.fr [(0, vs), (2, .slice none 0 0), (3, .int .i64 k_1)] ⟨e0, e2, e3, trivial⟩ ?_
    refine HW.seq ?_
    refine HW.seq ?_
    refine HW.region ?_
    refine HO.val (v := .int .i64 k_1) (want_none) rfl (q_move rfl) ?_
    refine HO.val (v := vs) (want_none) rfl (q_move rfl) ?_
    refine HO.val (v := .int .i64 (s1.length : Int)) (want_none) rfl (q_len ts_22 (shp (hS.own 0 rfl).slice) rfl rfl) ?_
    refine HO.val (v := .bool (decide (k_1 < (s1.length : Int)))) (want_none) rfl (q_lss rfl rfl) ?_
    refine HO.nil (thenQ_normal (?_))
    refine HW.cond (decide (k_1 < (s1.length : Int))) rfl (fun c_2 => ?_) (fun c_2 => ?_)
    · replace hM := hM.1 (of_decide_eq_true c_2)
      refine HW.skip (thenQ_normal (?_))
      refine HW.seq ?_
      refine HW.block ?_
      refine HW.seq ?_
      refine HW.regionA 10 mixed (fun h => (OwnIs h 0 3 1 encI vs s1)) [] (by kernel_rfl) ?_
      refine HA.val (k := 0) (v := vs) rfl rfl (by kernel_rfl) (by kernel_rfl) (want_none) rfl (fun _ c303 => q_move rfl) ?_
      refine HA.val (k := 1) (v := .int .i64 k_1) rfl rfl (by kernel_rfl) (by kernel_rfl) (want_none) rfl (fun _ c303 => q_move rfl) ?_
      obtain ⟨ho_1, hM⟩ := hM
      refine HA.val (k := 2) (v := elemPtr 1 vs (k_1).toNat) rfl rfl (by kernel_rfl) (by kernel_rfl) (want_none) rfl (fun _ c303 => q_idx ts_22 c303.slice rfl rfl ho_1) ?_
      refine HA.val (k := 3) (v := .int .i64 (gi s1 k_1)) rfl rfl (by kernel_rfl) (by kernel_rfl) (want_none) rfl (fun _ c303 => q_ldElem to_3 c303.slice rfl ho_1 rfl) ?_
      refine HA.val (k := 4) (v := vs) rfl rfl (by kernel_rfl) (by kernel_rfl) (want_none) rfl (fun _ c303 => q_move rfl) ?_
      refine HA.val (k := 5) (v := .int .i64 k_1) rfl rfl (by kernel_rfl) (by kernel_rfl) (want_none) rfl (fun _ c303 => q_move rfl) ?_
      obtain ⟨ho_2, hM⟩ := hM
      refine HA.val (k := 6) (v := .int .i64 (k_1 - 1)) rfl rfl (by kernel_rfl) (by kernel_rfl) (want_none) rfl (fun _ c303 => q_subN _ rfl rfl rfl ho_2.1 ho_2.2) ?_
      obtain ⟨ho_3, hM⟩ := hM
      refine HA.val (k := 7) (v := elemPtr 1 vs (k_1 - 1).toNat) rfl rfl (by kernel_rfl) (by kernel_rfl) (want_none) rfl (fun _ c303 => q_idx ts_22 c303.slice rfl rfl ho_3) ?_
      refine HA.val (k := 8) (v := .int .i64 (gi s1 (k_1 - 1))) rfl rfl (by kernel_rfl) (by kernel_rfl) (want_none) rfl (fun _ c303 => q_ldElem to_3 c303.slice rfl ho_3 rfl) ?_
      refine HA.val (k := 9) (v := .bool (decide ((gi s1 k_1) = (gi s1 (k_1 - 1))))) rfl rfl (by kernel_rfl) (by kernel_rfl) (want_none) rfl (fun _ c303 => q_eql rfl rfl) ?_
      refine HA.nil ⟨(hS.own 0 rfl), (Go.Wk.at_nil _ _)⟩ (by kernel_rfl) (thenQ_normal (?_))
      refine HW.cond (decide ((gi s1 k_1) = (gi s1 (k_1 - 1)))) rfl (fun c_3 => ?_) (fun c_3 => ?_)
      · replace hM := hM.1 (of_decide_eq_true c_3)
        refine HW.seq ?_
        refine HW.region ?_
        refine HO.val (v := vs) (want_none) rfl (q_move rfl) ?_
        refine HO.val (v := .int .i64 k_1) (want_none) rfl (q_move rfl) ?_
        obtain ⟨ho_4, hM⟩ := hM
        refine HO.val (v := cutV 1 vs (k_1).toNat ((s1.length : Int)).toNat) (want_none) rfl (q_slL ts_22 (hS.own 0 rfl).slice rfl rfl ho_4) ?_
        refine HO.val (v := cutV 1 vs (k_1).toNat ((s1.length : Int)).toNat) (want_none) rfl (q_assign rfl) ?_
        refine HO.nil (thenQ_normal (?_))
        refine HW.seq ?_
        refine HW.seq ?_
        refine HW.region ?_
        refine HO.val (v := .int .i64 1) (want_none) rfl (q_assign rfl) ?_
        refine HO.nil (thenQ_normal (?_))
        refine HW.block ?_
        obtain ⟨I_2, m_2, hI_2, hR_2⟩ := hM
        refine HW.loop (S := List Int × Int × Int) (fun s f h => match s with | (l_2, k_2, k2_1) => ∃ (F' : Fz), f 0 = vs ∧ f 2 = .slice none 0 0 ∧ f 3 = .int .i64 k_2 ∧ f 4 = cutV 1 vs (k_1).toNat ((s1.length : Int)).toNat ∧ f 5 = .int .i64 k2_1 ∧ Kp F h0 F' h ∧ St F' (Ow.own 3 1 encI vs l_2 :: fr) h ∧ I_2 (l_2, k_2, k2_1)) m_2 (s1, k_1, 1) ⟨F_1, rfl, rfl, rfl, rfl, rfl, hK, hS, hI_2⟩ ?_
        rintro ⟨l_2, k_2, k2_1⟩ f_2 h_2 ⟨F_2, e0, e2, e3, e4, e5, hK, hS, hI0⟩
        obtain ⟨K_2, hKe_2⟩ : ∃ K : (List Int) → Int → Int → Prop, K = fun l_2' k_2' k2_1' => I_2 (l_2', k_2', k2_1') ∧ m_2 (l_2', k_2', k2_1') < m_2 (l_2, k_2, k2_1) := ⟨_, rfl⟩
        have hM : slices_Compact_s_int_int_l3 s1 Q k_1 K_2 l_2 k_2 k2_1 := by rw [hKe_2]; exact hR_2 (l_2, k_2, k2_1) hI0
        unfold slices_Compact_s_int_int_l3 at hM
        refine HW.fr [(0, vs), (2, .slice none 0 0), (3, .int .i64 k_2), (4, cutV 1 vs (k_1).toNat ((s1.length : Int)).toNat), (5, .int .i64 k2_1)] ⟨e0, e2, e3, e4, e5, trivial⟩ ?_
        refine HW.seq ?_
        refine HW.seq ?_
        refine HW.region ?_
        refine HO.val (v := .int .i64 k2_1) (want_none) rfl (q_move rfl) ?_
        refine HO.val (v := cutV 1 vs (k_1).toNat ((s1.length : Int)).toNat) (want_none) rfl (q_move rfl) ?_
        obtain ⟨ho_5, hM⟩ := hM
        refine HO.val (v := .int .i64 ((cut l_2 k_1 (s1.length : Int)).length : Int)) (want_none) rfl (q_len ts_22 (shp (cutIs (hS.own 0 rfl).slice k_1 (s1.length : Int) ho_5.1 ho_5.2.1 ho_5.2.2)) rfl rfl) ?_
        refine HO.val (v := .bool (decide (k2_1 < ((cut l_2 k_1 (s1.length : Int)).length : Int)))) (want_none) rfl (q_lss rfl rfl) ?_
        refine HO.nil (thenQ_normal (?_))
        refine HW.cond (decide (k2_1 < ((cut l_2 k_1 (s1.length : Int)).length : Int))) rfl (fun c_4 => ?_) (fun c_4 => ?_)
        · replace hM := hM.1 (of_decide_eq_true c_4)
          refine HW.skip (thenQ_normal (?_))
          refine HW.seq ?_
          refine HW.block ?_
          refine HW.seq ?_
          refine HW.regionA 10 mixed (fun h => (OwnIs h 0 3 1 encI vs l_2)) [] (by kernel_rfl) ?_
          refine HA.val (k := 0) (v := cutV 1 vs (k_1).toNat ((s1.length : Int)).toNat) rfl rfl (by kernel_rfl) (by kernel_rfl) (want_none) rfl (fun _ c520 => q_move rfl) ?_
          refine HA.val (k := 1) (v := .int .i64 k2_1) rfl rfl (by kernel_rfl) (by kernel_rfl) (want_none) rfl (fun _ c520 => q_move rfl) ?_
          obtain ⟨ho_6, hM⟩ := hM
          refine HA.val (k := 2) (v := elemPtr 1 (cutV 1 vs (k_1).toNat ((s1.length : Int)).toNat) (k2_1).toNat) rfl rfl (by kernel_rfl) (by kernel_rfl) (want_none) rfl (fun _ c520 => q_idx ts_22 (cutIs c520.slice k_1 (s1.length : Int) ho_5.1 ho_5.2.1 ho_5.2.2) rfl rfl ho_6) ?_
          refine HA.val (k := 3) (v := .int .i64 (gi (cut l_2 k_1 (s1.length : Int)) k2_1)) rfl rfl (by kernel_rfl) (by kernel_rfl) (want_none) rfl (fun _ c520 => q_ldElem to_3 (cutIs c520.slice k_1 (s1.length : Int) ho_5.1 ho_5.2.1 ho_5.2.2) rfl ho_6 rfl) ?_
          refine HA.val (k := 4) (v := cutV 1 vs (k_1).toNat ((s1.length : Int)).toNat) rfl rfl (by kernel_rfl) (by kernel_rfl) (want_none) rfl (fun _ c520 => q_move rfl) ?_
          refine HA.val (k := 5) (v := .int .i64 k2_1) rfl rfl (by kernel_rfl) (by kernel_rfl) (want_none) rfl (fun _ c520 => q_move rfl) ?_
          obtain ⟨ho_7, hM⟩ := hM
          refine HA.val (k := 6) (v := .int .i64 (k2_1 - 1)) rfl rfl (by kernel_rfl) (by kernel_rfl) (want_none) rfl (fun _ c520 => q_subN _ rfl rfl rfl ho_7.1 ho_7.2) ?_
          obtain ⟨ho_8, hM⟩ := hM
          refine HA.val (k := 7) (v := elemPtr 1 (cutV 1 vs (k_1).toNat ((s1.length : Int)).toNat) (k2_1 - 1).toNat) rfl rfl (by kernel_rfl) (by kernel_rfl) (want_none) rfl (fun _ c520 => q_idx ts_22 (cutIs c520.slice k_1 (s1.length : Int) ho_5.1 ho_5.2.1 ho_5.2.2) rfl rfl ho_8) ?_
          refine HA.val (k := 8) (v := .int .i64 (gi (cut l_2 k_1 (s1.length : Int)) (k2_1 - 1))) rfl rfl (by kernel_rfl) (by kernel_rfl) (want_none) rfl (fun _ c520 => q_ldElem to_3 (cutIs c520.slice k_1 (s1.length : Int) ho_5.1 ho_5.2.1 ho_5.2.2) rfl ho_8 rfl) ?_
          refine HA.val (k := 9) (v := .bool (!decide ((gi (cut l_2 k_1 (s1.length : Int)) k2_1) = (gi (cut l_2 k_1 (s1.length : Int)) (k2_1 - 1))))) rfl rfl (by kernel_rfl) (by kernel_rfl) (want_none) rfl (fun _ c520 => q_neq rfl rfl) ?_
          refine HA.nil ⟨(hS.own 0 rfl), (Go.Wk.at_nil _ _)⟩ (by kernel_rfl) (thenQ_normal (?_))
          refine HW.cond (!decide ((gi (cut l_2 k_1 (s1.length : Int)) k2_1) = (gi (cut l_2 k_1 (s1.length : Int)) (k2_1 - 1)))) rfl (fun c_5 => ?_) (fun c_5 => ?_)
          · replace hM := hM.1 (nd_true c_5)
            refine HW.seq ?_
            refine HW.region ?_
            refine HO.val (v := vs) (want_none) rfl (q_move rfl) ?_
            refine HO.val (v := .int .i64 k_2) (want_none) rfl (q_move rfl) ?_
            refine HO.val (v := cutV 1 vs (k_1).toNat ((s1.length : Int)).toNat) (want_none) rfl (q_move rfl) ?_
            refine HO.val (v := .int .i64 k2_1) (want_none) rfl (q_move rfl) ?_
            refine HO.val (v := elemPtr 1 (cutV 1 vs (k_1).toNat ((s1.length : Int)).toNat) (k2_1).toNat) (want_none) rfl (q_idx ts_22 (cutIs (hS.own 0 rfl).slice k_1 (s1.length : Int) ho_5.1 ho_5.2.1 ho_5.2.2) rfl rfl ho_6) ?_
            refine HO.val (v := .int .i64 (gi (cut l_2 k_1 (s1.length : Int)) k2_1)) (want_none) rfl (q_ldElem to_3 (cutIs (hS.own 0 rfl).slice k_1 (s1.length : Int) ho_5.1 ho_5.2.1 ho_5.2.2) rfl ho_6 rfl) ?_
            obtain ⟨ho_9, hM⟩ := hM
            refine HO.val (v := elemPtr 1 vs (k_2).toNat) (want_none) rfl (q_idx ts_22 (hS.own 0 rfl).slice rfl rfl ho_9) ?_
            refine HO.sto (want_none) rfl (st_storeField (a := (gi (cut l_2 k_1 (s1.length : Int)) k2_1)) (n := (k_2).toNat) (j := 0) hS (i := 0) rfl to_3 (elem_field _ _ _) (by omega) (by decide) rfl (by rw [← gi_lt ho_9.1 ho_9.2]; rfl) rfl rfl) ?_
            rintro h_3 ⟨hS, hk⟩
            replace hS : St F_2 (Ow.own 3 1 encI vs (l_2.set (k_2).toNat (gi (cut l_2 k_1 (s1.length : Int)) k2_1)) :: fr) h_3 := hS
            replace hK := hK.trans hk
            refine HO.nil (thenQ_normal (?_))
            refine HW.region ?_
            refine HO.val (v := .int .i64 k_2) (want_none) rfl (q_move rfl) ?_
            obtain ⟨ho_10, hM⟩ := hM
            refine HO.val (v := .int .i64 (k_2 + 1)) (want_none) rfl (q_addN _ rfl rfl rfl ho_10.1 ho_10.2) ?_
            refine HO.val (v := .int .i64 (k_2 + 1)) (want_none) rfl (q_assign rfl) ?_
            refine HO.nil (blockQ_normal (thenQ_normal (?_)))
            refine HW.region ?_
            refine HO.val (v := .int .i64 k2_1) (want_none) rfl (q_move rfl) ?_
            obtain ⟨ho_11, hM⟩ := hM
            refine HO.val (v := .int .i64 (k2_1 + 1)) (want_none) rfl (q_addN _ rfl rfl rfl ho_11.1 ho_11.2) ?_
            refine HO.val (v := .int .i64 (k2_1 + 1)) (want_none) rfl (q_assign rfl) ?_
            refine HO.nil (thenQ_normal (?_))
            rw [hKe_2] at hM
            exact ⟨(l_2.set (k_2).toNat (gi (cut l_2 k_1 (s1.length : Int)) k2_1), k_2 + 1, k2_1 + 1), ⟨F_2, rfl, rfl, rfl, rfl, rfl, hK, hS, hM.1⟩, hM.2⟩
          · replace hM := hM.2 (nd_false c_5)
            refine HW.skip (blockQ_normal (thenQ_normal (?_)))
            refine HW.region ?_
            refine HO.val (v := .int .i64 k2_1) (want_none) rfl (q_move rfl) ?_
            obtain ⟨ho_12, hM⟩ := hM
            refine HO.val (v := .int .i64 (k2_1 + 1)) (want_none) rfl (q_addN _ rfl rfl rfl ho_12.1 ho_12.2) ?_
            refine HO.val (v := .int .i64 (k2_1 + 1)) (want_none) rfl (q_assign rfl) ?_
            refine HO.nil (thenQ_normal (?_))
            rw [hKe_2] at hM
            exact ⟨(l_2, k_2, k2_1 + 1), ⟨F_2, rfl, rfl, rfl, rfl, rfl, hK, hS, hM.1⟩, hM.2⟩
        · replace hM := hM.2 (of_decide_eq_false c_4)
          refine HW.exit (thenQ_exit (thenQ_exit (blockQ_exit (thenQ_normal (?_)))))
          refine HW.seq ?_
          refine HW.region ?_
          refine HO.val (v := vs) (want_none) rfl (q_move rfl) ?_
          refine HO.val (v := .int .i64 k_2) (want_none) rfl (q_move rfl) ?_
          obtain ⟨ho_13, hM⟩ := hM
          refine HO.val (v := cutV 1 vs (k_2).toNat ((l_2.length : Int)).toNat) (want_none) rfl (q_slL ts_22 (hS.own 0 rfl).slice rfl rfl ho_13) ?_
          obtain ⟨ho_14, hM⟩ := hM
          refine HO.eff (want_none) rfl (st_clearS (lo := k_2) (hi := (l_2.length : Int)) (z := .int .i64 0) hS (i := 0) rfl te_22 tz_3 rfl (by intro u hu; simp [encI, encI, encN, encB, encT, default] at hu; subst hu; rfl) rfl ho_14 rfl) ?_
          rintro _ h_4 ⟨rfl, hS, hk⟩
          replace hS : St F_2 (Ow.own 3 1 encI vs (clr l_2 k_2 (l_2.length : Int)) :: fr) h_4 := hS
          replace hK := hK.trans hk
          refine HO.nil (thenQ_normal (?_))
          refine HW.seq ?_
          refine HW.region ?_
          refine HO.val (v := vs) (want_none) rfl (q_move rfl) ?_
          refine HO.val (v := .int .i64 k_2) (want_none) rfl (q_move rfl) ?_
          obtain ⟨ho_15, hM⟩ := hM
          refine HO.val (v := cutV 1 vs (0 : Int).toNat (k_2).toNat) (want_none) rfl (q_slH ts_22 (hS.own 0 rfl).slice rfl rfl ho_15) ?_
          refine HO.val (v := cutV 1 vs (0 : Int).toNat (k_2).toNat) (want_none) rfl (q_assign rfl) ?_
          refine HO.nil (thenQ_normal (?_))
          refine HW.ret (blockQ_ret (thenQ_ret (thenQ_ret (blockQ_ret (thenQ_ret (?_))))))
          refine ⟨.inr rfl, cutV 1 vs (0 : Int).toNat (k_2).toNat, res1 rfl (rt rfl), ?_⟩
          replace hS := hS.shrink 0 rfl k_2 ho_15.1 ho_15.2
          replace hS : St F_2 (Ow.own 3 1 encI (cutV 1 vs (0 : Int).toNat (k_2).toNat) (cut (clr l_2 k_2 (l_2.length : Int)) 0 k_2) :: fr) h_4 := hS
          exact ⟨F_2, cut (clr l_2 k_2 (l_2.length : Int)) 0 k_2, cutV 1 vs (0 : Int).toNat (k_2).toNat, rfl, hK, hS, hM⟩
      · replace hM := hM.2 (of_decide_eq_false c_3)
        refine HW.skip (blockQ_normal (thenQ_normal (?_)))
        refine HW.region ?_
        refine HO.val (v := .int .i64 k_1) (want_none) rfl (q_move rfl) ?_
        obtain ⟨ho_16, hM⟩ := hM
        refine HO.val (v := .int .i64 (k_1 + 1)) (want_none) rfl (q_addN _ rfl rfl rfl ho_16.1 ho_16.2) ?_
        refine HO.val (v := .int .i64 (k_1 + 1)) (want_none) rfl (q_assign rfl) ?_
        refine HO.nil (thenQ_normal (?_))
        rw [hKe_1] at hM
        exact ⟨k_1 + 1, ⟨F_1, rfl, rfl, rfl, hK, hS, hM.1⟩, hM.2⟩
    · replace hM := hM.2 (of_decide_eq_false c_2)
      refine HW.exit (thenQ_exit (thenQ_exit (blockQ_exit (thenQ_normal (?_)))))
      refine HW.seq ?_
      refine HW.region ?_
      refine HO.val (v := vs) (want_none) rfl (q_move rfl) ?_
      refine HO.val (v := vs) (want_none) rfl (q_assign rfl) ?_
      refine HO.nil (thenQ_normal (?_))
      refine HW.ret (?_)
      refine ⟨.inr rfl, vs, res1 rfl (rt rfl), ?_⟩
      exact ⟨F_1, s1, vs, rfl, hK, hS, hM⟩

def audit_Audit_Ids_l1 (a_seen : List ((Int × Int × Int × Int) × Int)) (a_twice : List (Int × Int × Int × Int × Str)) (a_all : Int) (Q : (List Int) → (List ((Int × Int × Int × Int) × Int)) → (List (Int × Int × Int × Int × Str)) → Int → Prop) (K_1 : (List ((Int × Int × Int × Int) × Int)) → (List Int) → Prop) (rem_1 : List ((Int × Int × Int × Int) × Int)) (out_1 : List Int) : Prop :=
  (rem_1 = [] → ((out_1).length < 4611686018427387904) ∧ (slices_Compact_s_int_int_W (isort out_1) (fun r_2 => Q r_2 a_seen a_twice a_all))) ∧ (∀ (p_1 : (Int × Int × Int × Int) × Int) (rem_2 : List ((Int × Int × Int × Int) × Int)), List.Perm rem_1 (p_1 :: rem_2) → ((out_1.length + ([p_1.1.1] : List Int).length) * 8 ≤ 140737488355328) ∧ (K_1 rem_2 (out_1 ++ ([p_1.1.1] : List Int))))
def audit_Audit_Ids_W (a_seen : List ((Int × Int × Int × Int) × Int)) (a_twice : List (Int × Int × Int × Int × Str)) (a_all : Int) (Q : (List Int) → (List ((Int × Int × Int × Int) × Int)) → (List (Int × Int × Int × Int × Str)) → Int → Prop) : Prop :=
  loopW (fun (K_1 : ((List ((Int × Int × Int × Int) × Int)) × List Int) → Prop) (s : (List ((Int × Int × Int × Int) × Int)) × List Int) => audit_Audit_Ids_l1 a_seen a_twice a_all Q (fun rem_1 out_1 => K_1 (rem_1, out_1)) s.1 s.2) (a_seen, [])
set_option maxHeartbeats 40000000 in
set_option maxRecDepth 100000 in
theorem audit_Audit_Ids_walk {F : Fz} {fr : List Ow} {h0 : Heap} (a_seen : List ((Int × Int × Int × Int) × Int)) (a_twice : List (Int × Int × Int × Int × Str)) (a_all : Int) (ba : Nat) (ra_seen : Nat) (va_twice : Value) (hS : St F (Ow.box ba 151 #[.map (some ra_seen), va_twice, .int .i64 a_all] :: Ow.map ra_seen (fun (x : Int × Int × Int × Int) => .agg #[.int .i64 x.1, .int .i64 x.2.1, .int .i64 x.2.2.1, .int .i64 x.2.2.2]) kI a_seen :: Ow.own 112 5 e_api_Given va_twice a_twice :: fr) h0)  {Q : (List Int) → (List ((Int × Int × Int × Int) × Int)) → (List (Int × Int × Int × Int × Str)) → Int → Prop} (hM : audit_Audit_Ids_W a_seen a_twice a_all Q) :
    HC Try.prog 83 #[.pointer (some ⟨ba, 0, none⟩)] h0 fun u h' => ∃ (F' : Fz) (r_1 : List Int) (am_1 : List ((Int × Int × Int × Int) × Int)) (a_twice_1 : List (Int × Int × Int × Int × Str)) (a_all_1 : Int) (vr_1 : Value) (v_1 : Value), u = vr_1 ∧ Kp F h0 F' h' ∧ St F' (Ow.own 3 1 encI vr_1 r_1 :: Ow.box ba 151 #[.map (some ra_seen), v_1, .int .i64 a_all_1] :: Ow.map ra_seen (fun (x : Int × Int × Int × Int) => .agg #[.int .i64 x.1, .int .i64 x.2.1, .int .i64 x.2.2.1, .int .i64 x.2.2.2]) kI am_1 :: Ow.own 112 5 e_api_Given v_1 a_twice_1 :: fr) h' ∧ Q r_1 am_1 a_twice_1 a_all_1 := by
  unfold audit_Audit_Ids_W at hM
  have hK := Kp.refl F h0
  refine HC.of_HW (n := 25) Try.func83 rfl rfl (Nat.le_of_ble_eq_true rfl) ?_
  refine HW.seq ?_
  refine HW.region ?_
  refine HO.val (v := .slice none 0 0) (want_none) rfl (q_assign rfl) ?_
  refine HO.nil (thenQ_normal (?_))
  refine HW.seq ?_
  refine HW.region ?_
  refine HO.val (v := .slice none 0 0) (want_none) rfl (q_assign rfl) ?_
  refine HO.nil (thenQ_normal (?_))
  refine HW.seq ?_
  refine HW.seq ?_
  refine HW.region ?_
  refine HO.val (v := .pointer (some ⟨ba, 0, none⟩)) (want_none) rfl (q_move rfl) ?_
  refine HO.val (v := .bool false) (want_none) rfl (q_eqlPnil Try.underlying103 rfl rfl rfl) ?_
  refine HO.nil (thenQ_normal (?_))
  refine HW.condF rfl ?_
  refine HW.skip (thenQ_normal (?_))
  refine HW.seq ?_
  refine HW.seq ?_
  refine HW.region ?_
  refine HO.val (v := .pointer (some ⟨ba, 0, none⟩)) (want_none) rfl (q_move rfl) ?_
  refine HO.val (v := .pointer (some ⟨ba, 0, none⟩)) (want_none) rfl (q_nilCheck rfl) ?_
  refine HO.val (v := .pointer (some ⟨ba, 0, none⟩)) (want_none) rfl (q_fieldAddr fa_151_0 rfl rfl) ?_
  refine HO.val (v := .map (some ra_seen)) (want_none) rfl (q_load to_149 rfl (Blk.cell (hS.box 0 rfl) rfl)) ?_
  refine HO.eff (want_none) rfl (st_range hS (i := 1) rfl Try.underlying149 rfl) ?_
  rintro _ h_1 ⟨it_1, rfl, hS, hk⟩
  replace hS : St F (Ow.box ba 151 #[.map (some ra_seen), va_twice, .int .i64 a_all] :: Ow.iter it_1 ra_seen (fun (x : Int × Int × Int × Int) => .agg #[.int .i64 x.1, .int .i64 x.2.1, .int .i64 x.2.2.1, .int .i64 x.2.2.2]) kI a_seen a_seen :: Ow.own 112 5 e_api_Given va_twice a_twice :: fr) h_1 := hS
  replace hK := hK.trans hk
  refine HO.nil (thenQ_normal (?_))
  refine HW.block ?_
  obtain ⟨I_1, m_1, hI_1, hR_1⟩ := hM
  replace hS := hS.nilOwn 3 1 encI
  replace hS : St F (Ow.box ba 151 #[.map (some ra_seen), va_twice, .int .i64 a_all] :: Ow.iter it_1 ra_seen (fun (x : Int × Int × Int × Int) => .agg #[.int .i64 x.1, .int .i64 x.2.1, .int .i64 x.2.2.1, .int .i64 x.2.2.2]) kI a_seen a_seen :: Ow.own 112 5 e_api_Given va_twice a_twice :: Ow.own 3 1 encI (.slice none 0 0) ([] : List Int) :: fr) h_1 := St.perm (front := [Ow.own 3 1 encI (.slice none 0 0) ([] : List Int), Ow.box ba 151 #[.map (some ra_seen), va_twice, .int .i64 a_all], Ow.iter it_1 ra_seen (fun (x : Int × Int × Int × Int) => .agg #[.int .i64 x.1, .int .i64 x.2.1, .int .i64 x.2.2.1, .int .i64 x.2.2.2]) kI a_seen a_seen, Ow.own 112 5 e_api_Given va_twice a_twice]) (fr := fr) hS [1, 2, 3, 0] 4 rfl (by decide) [Ow.box ba 151 #[.map (some ra_seen), va_twice, .int .i64 a_all], Ow.iter it_1 ra_seen (fun (x : Int × Int × Int × Int) => .agg #[.int .i64 x.1, .int .i64 x.2.1, .int .i64 x.2.2.1, .int .i64 x.2.2.2]) kI a_seen a_seen, Ow.own 112 5 e_api_Given va_twice a_twice, Ow.own 3 1 encI (.slice none 0 0) ([] : List Int)] rfl
  refine HW.loop (S := (List ((Int × Int × Int × Int) × Int)) × List Int) (fun s f h => match s with | (rem_1, out_1) => ∃ (F' : Fz) (vout_1 : Value), f 2 = .slice none 0 0 ∧ f 3 = vout_1 ∧ f 11 = .pointer (some ⟨it_1, 0, none⟩) ∧ Kp F h0 F' h ∧ St F' (Ow.box ba 151 #[.map (some ra_seen), va_twice, .int .i64 a_all] :: Ow.iter it_1 ra_seen (fun (x : Int × Int × Int × Int) => .agg #[.int .i64 x.1, .int .i64 x.2.1, .int .i64 x.2.2.1, .int .i64 x.2.2.2]) kI a_seen rem_1 :: Ow.own 112 5 e_api_Given va_twice a_twice :: Ow.own 3 1 encI vout_1 out_1 :: fr) h ∧ I_1 (rem_1, out_1)) m_1 (a_seen, []) ⟨F, .slice none 0 0, rfl, rfl, rfl, hK, hS, hI_1⟩ ?_
  rintro ⟨rem_1, out_1⟩ f_1 h_2 ⟨F_1, vout_1, e2, e3, e11, hK, hS, hI0⟩
  obtain ⟨K_1, hKe_1⟩ : ∃ K : (List ((Int × Int × Int × Int) × Int)) → (List Int) → Prop, K = fun rem_1' out_1' => I_1 (rem_1', out_1') ∧ m_1 (rem_1', out_1') < m_1 (rem_1, out_1) := ⟨_, rfl⟩
  have hM : audit_Audit_Ids_l1 a_seen a_twice a_all Q K_1 rem_1 out_1 := by rw [hKe_1]; exact hR_1 (rem_1, out_1) hI0
  unfold audit_Audit_Ids_l1 at hM
  refine HW.fr [(2, .slice none 0 0), (3, vout_1), (11, .pointer (some ⟨it_1, 0, none⟩))] ⟨e2, e3, e11, trivial⟩ ?_
  refine HW.seq ?_
  refine HW.region ?_
  refine HO.eff (want_none) rfl (st_next hS (i := 1) rfl rfl) ?_
  rintro _ h_3 (⟨hrem, rfl, hEq⟩ | ⟨p_1, rem_2, hperm, rfl, hS, hk⟩)
  · rw [hEq]
    replace hM := hM.1 hrem
    replace hS := hS.done 1 rfl
    replace hS : St F_1 (Ow.box ba 151 #[.map (some ra_seen), va_twice, .int .i64 a_all] :: Ow.map ra_seen (fun (x : Int × Int × Int × Int) => .agg #[.int .i64 x.1, .int .i64 x.2.1, .int .i64 x.2.2.1, .int .i64 x.2.2.2]) kI a_seen :: Ow.own 112 5 e_api_Given va_twice a_twice :: Ow.own 3 1 encI vout_1 out_1 :: fr) h_2 := hS
    refine HO.val (v := .bool false) (want_none) rfl (q_extract rfl rfl) ?_
    refine HO.nil (thenQ_normal (?_))
    refine HW.seq ?_
    refine HW.condF rfl ?_
    refine HW.exit (thenQ_exit (thenQ_exit (blockQ_exit (thenQ_normal (?_)))))
    refine HW.seq ?_
    refine HW.region ?_
    refine HO.val (v := vout_1) (want_none) rfl (q_move rfl) ?_
    replace hS : St F_1 (Ow.own 3 1 encI vout_1 out_1 :: Ow.box ba 151 #[.map (some ra_seen), va_twice, .int .i64 a_all] :: Ow.map ra_seen (fun (x : Int × Int × Int × Int) => .agg #[.int .i64 x.1, .int .i64 x.2.1, .int .i64 x.2.2.1, .int .i64 x.2.2.2]) kI a_seen :: Ow.own 112 5 e_api_Given va_twice a_twice :: fr) h_2 := St.perm (front := [Ow.box ba 151 #[.map (some ra_seen), va_twice, .int .i64 a_all], Ow.map ra_seen (fun (x : Int × Int × Int × Int) => .agg #[.int .i64 x.1, .int .i64 x.2.1, .int .i64 x.2.2.1, .int .i64 x.2.2.2]) kI a_seen, Ow.own 112 5 e_api_Given va_twice a_twice, Ow.own 3 1 encI vout_1 out_1]) (fr := fr) hS [3, 0, 1, 2] 4 rfl (by decide) [Ow.own 3 1 encI vout_1 out_1, Ow.box ba 151 #[.map (some ra_seen), va_twice, .int .i64 a_all], Ow.map ra_seen (fun (x : Int × Int × Int × Int) => .agg #[.int .i64 x.1, .int .i64 x.2.1, .int .i64 x.2.2.1, .int .i64 x.2.2.2]) kI a_seen, Ow.own 112 5 e_api_Given va_twice a_twice] rfl
    obtain ⟨ho_1, hM⟩ := hM
    refine HO.call (want_none) rfl (ec en_117 rfl rfl) (sortInt_own Try.sortI hS ho_1) ?_
    rintro _ h_4 ⟨rfl, hk, hS⟩
    replace hS : St F_1 (Ow.own 3 1 encI vout_1 (isort out_1) :: Ow.box ba 151 #[.map (some ra_seen), va_twice, .int .i64 a_all] :: Ow.map ra_seen (fun (x : Int × Int × Int × Int) => .agg #[.int .i64 x.1, .int .i64 x.2.1, .int .i64 x.2.2.1, .int .i64 x.2.2.2]) kI a_seen :: Ow.own 112 5 e_api_Given va_twice a_twice :: fr) h_4 := hS
    replace hK := hK.trans hk
    refine HO.nil (thenQ_normal (?_))
    refine HW.seq ?_
    refine HW.region ?_
    refine HO.val (v := vout_1) (want_none) rfl (q_move rfl) ?_
    refine HO.call (want_none) rfl (ec en_118 rfl rfl) (slices_Compact_s_int_int_walk (fr := (Ow.box ba 151 #[.map (some ra_seen), va_twice, .int .i64 a_all] :: Ow.map ra_seen (fun (x : Int × Int × Int × Int) => .agg #[.int .i64 x.1, .int .i64 x.2.1, .int .i64 x.2.2.1, .int .i64 x.2.2.2]) kI a_seen :: Ow.own 112 5 e_api_Given va_twice a_twice :: fr)) (isort out_1) vout_1 hS hM) ?_
    rintro vr_2 h_5 ⟨F_2, r_2, _, rfl, hk, hS, hM⟩
    replace hK := hK.trans hk
    refine HO.val (v := vr_2) (want_none) rfl (q_assign rfl) ?_
    refine HO.nil (thenQ_normal (?_))
    refine HW.ret (?_)
    refine ⟨.inr rfl, vr_2, res1 rfl (rt rfl), ?_⟩
    exact ⟨F_2, r_2, a_seen, a_twice, a_all, vr_2, va_twice, rfl, hK, hS, hM⟩
  · replace hM := hM.2 p_1 rem_2 hperm
    replace hS : St F_1 (Ow.box ba 151 #[.map (some ra_seen), va_twice, .int .i64 a_all] :: Ow.cur it_1 ra_seen (fun (x : Int × Int × Int × Int) => .agg #[.int .i64 x.1, .int .i64 x.2.1, .int .i64 x.2.2.1, .int .i64 x.2.2.2]) kI a_seen rem_2 p_1 :: Ow.own 112 5 e_api_Given va_twice a_twice :: Ow.own 3 1 encI vout_1 out_1 :: fr) h_3 := hS
    replace hK := hK.trans hk
    refine HO.val (v := .bool true) (want_none) rfl (q_extract rfl rfl) ?_
    refine HO.nil (thenQ_normal (?_))
    refine HW.seq ?_
    refine HW.condT rfl ?_
    refine HW.skip (thenQ_normal (?_))
    refine HW.block ?_
    refine HW.seq ?_
    refine HW.region ?_
    refine HO.val (v := .tuple #[.agg #[.int .i64 p_1.1.1, .int .i64 p_1.1.2.1, .int .i64 p_1.1.2.2.1, .int .i64 p_1.1.2.2.2], .int .i64 p_1.2]) (want_none) rfl (q_entry (hS.cu 1 rfl) rfl) ?_
    refine HO.val (v := .agg #[.int .i64 p_1.1.1, .int .i64 p_1.1.2.1, .int .i64 p_1.1.2.2.1, .int .i64 p_1.1.2.2.2]) (want_none) rfl (q_extract rfl rfl) ?_
    refine HO.eff (want_none) rfl (st_alloc (c := #[.int .i64 0, .int .i64 0, .int .i64 0, .int .i64 0]) hS tz_153 rfl) ?_
    rintro _ h_6 ⟨b_1, rfl, hS, hk⟩
    replace hK := hK.trans hk
    refine HO.sto (want_none) rfl (st_storeAgg (c' := #[.int .i64 p_1.1.1, .int .i64 p_1.1.2.1, .int .i64 p_1.1.2.2.1, .int .i64 p_1.1.2.2.2]) hS (i := 0) rfl ta_153 rfl rfl rfl (by simp [Value.oneCell']) (Nat.le_of_ble_eq_true rfl) rfl) ?_
    rintro h_7 ⟨hS, hk⟩
    replace hS : St F_1 (Ow.box b_1 153 #[.int .i64 p_1.1.1, .int .i64 p_1.1.2.1, .int .i64 p_1.1.2.2.1, .int .i64 p_1.1.2.2.2] :: Ow.box ba 151 #[.map (some ra_seen), va_twice, .int .i64 a_all] :: Ow.cur it_1 ra_seen (fun (x : Int × Int × Int × Int) => .agg #[.int .i64 x.1, .int .i64 x.2.1, .int .i64 x.2.2.1, .int .i64 x.2.2.2]) kI a_seen rem_2 p_1 :: Ow.own 112 5 e_api_Given va_twice a_twice :: Ow.own 3 1 encI vout_1 out_1 :: fr) h_7 := hS
    replace hK := hK.trans hk
    refine HO.nil (thenQ_normal (?_))
    refine HW.region ?_
    refine HO.val (v := vout_1) (want_none) rfl (q_move rfl) ?_
    refine HO.val (v := .pointer (some ⟨b_1, 0, none⟩)) (want_none) rfl (q_fieldAddr fa_153_0 rfl rfl) ?_
    refine HO.val (v := .int .i64 p_1.1.1) (want_none) rfl (q_load to_3 rfl (Blk.cell (hS.box 0 rfl) rfl)) ?_
    refine HO.eff (want_none) rfl (st_lit (enc := encI) (cells := #[.int .i64 p_1.1.1]) #[.int .i64 0] ([p_1.1.1] : List Int) hS tl_22 (by decide) (by decide) (by kernel_rfl) (by kernel_rfl) rfl (by intro x hx; rfl) rfl) ?_
    rintro _ h_8 ⟨b_2, rfl, hS, hk⟩
    replace hK := hK.trans hk
    obtain ⟨ho_2, hM⟩ := hM
    refine HO.eff (want_none) rfl (st_append te_22 hS (i := 5) rfl (hS.own 0 rfl).slice rfl rfl rfl (by intro a _ u hu; simp [encI, encI, encN, encB, encT] at hu; subst hu; rfl) ho_2 (by omega)) ?_
    rintro v_2 h_9 ⟨hS, hk⟩
    replace hS : St F_1 (Ow.own 3 1 encI (.slice (some ⟨b_2, 0, none⟩) 1 1) ([p_1.1.1] : List Int) :: Ow.box b_1 153 #[.int .i64 p_1.1.1, .int .i64 p_1.1.2.1, .int .i64 p_1.1.2.2.1, .int .i64 p_1.1.2.2.2] :: Ow.box ba 151 #[.map (some ra_seen), va_twice, .int .i64 a_all] :: Ow.cur it_1 ra_seen (fun (x : Int × Int × Int × Int) => .agg #[.int .i64 x.1, .int .i64 x.2.1, .int .i64 x.2.2.1, .int .i64 x.2.2.2]) kI a_seen rem_2 p_1 :: Ow.own 112 5 e_api_Given va_twice a_twice :: Ow.own 3 1 encI v_2 (out_1 ++ ([p_1.1.1] : List Int)) :: fr) h_9 := hS
    replace hK := hK.trans hk
    refine HO.val (v := v_2) (want_none) rfl (q_assign rfl) ?_
    refine HO.nil (blockQ_normal (thenQ_normal (?_)))
    replace hS := hS.again 3 rfl
    replace hS : St F_1 (Ow.own 3 1 encI (.slice (some ⟨b_2, 0, none⟩) 1 1) ([p_1.1.1] : List Int) :: Ow.box b_1 153 #[.int .i64 p_1.1.1, .int .i64 p_1.1.2.1, .int .i64 p_1.1.2.2.1, .int .i64 p_1.1.2.2.2] :: Ow.box ba 151 #[.map (some ra_seen), va_twice, .int .i64 a_all] :: Ow.iter it_1 ra_seen (fun (x : Int × Int × Int × Int) => .agg #[.int .i64 x.1, .int .i64 x.2.1, .int .i64 x.2.2.1, .int .i64 x.2.2.2]) kI a_seen rem_2 :: Ow.own 112 5 e_api_Given va_twice a_twice :: Ow.own 3 1 encI v_2 (out_1 ++ ([p_1.1.1] : List Int)) :: fr) h_9 := hS
    replace hS : St F_1 (Ow.box ba 151 #[.map (some ra_seen), va_twice, .int .i64 a_all] :: Ow.iter it_1 ra_seen (fun (x : Int × Int × Int × Int) => .agg #[.int .i64 x.1, .int .i64 x.2.1, .int .i64 x.2.2.1, .int .i64 x.2.2.2]) kI a_seen rem_2 :: Ow.own 112 5 e_api_Given va_twice a_twice :: Ow.own 3 1 encI v_2 (out_1 ++ ([p_1.1.1] : List Int)) :: fr) h_9 := St.perm (front := [Ow.own 3 1 encI (.slice (some ⟨b_2, 0, none⟩) 1 1) ([p_1.1.1] : List Int), Ow.box b_1 153 #[.int .i64 p_1.1.1, .int .i64 p_1.1.2.1, .int .i64 p_1.1.2.2.1, .int .i64 p_1.1.2.2.2], Ow.box ba 151 #[.map (some ra_seen), va_twice, .int .i64 a_all], Ow.iter it_1 ra_seen (fun (x : Int × Int × Int × Int) => .agg #[.int .i64 x.1, .int .i64 x.2.1, .int .i64 x.2.2.1, .int .i64 x.2.2.2]) kI a_seen rem_2, Ow.own 112 5 e_api_Given va_twice a_twice, Ow.own 3 1 encI v_2 (out_1 ++ ([p_1.1.1] : List Int))]) (fr := fr) hS [2, 3, 4, 5] 6 rfl (by decide) [Ow.box ba 151 #[.map (some ra_seen), va_twice, .int .i64 a_all], Ow.iter it_1 ra_seen (fun (x : Int × Int × Int × Int) => .agg #[.int .i64 x.1, .int .i64 x.2.1, .int .i64 x.2.2.1, .int .i64 x.2.2.2]) kI a_seen rem_2, Ow.own 112 5 e_api_Given va_twice a_twice, Ow.own 3 1 encI v_2 (out_1 ++ ([p_1.1.1] : List Int))] rfl
    rw [hKe_1] at hM
    exact ⟨(rem_2, out_1 ++ ([p_1.1.1] : List Int)), ⟨F_1, v_2, rfl, rfl, rfl, hK, hS, hM.1⟩, hM.2⟩

def audit_Audit_Of_l1 (a_seen : List ((Int × Int × Int × Int) × Int)) (a_twice : List (Int × Int × Int × Int × Str)) (a_all : Int) (id : Int) (Q : (List (Int × Int)) → (List ((Int × Int × Int × Int) × Int)) → (List (Int × Int × Int × Int × Str)) → Int → Prop) (K_1 : (List ((Int × Int × Int × Int) × Int)) → (List (Int × Int)) → Prop) (rem_1 : List ((Int × Int × Int × Int) × Int)) (out_1 : List (Int × Int)) : Prop :=
  (rem_1 = [] → audit_set_W out_1 (fun r_2 => Q r_2 a_seen a_twice a_all)) ∧ (∀ (p_1 : (Int × Int × Int × Int) × Int) (rem_2 : List ((Int × Int × Int × Int) × Int)), List.Perm rem_1 (p_1 :: rem_2) → (p_1.1.1 = id → ((out_1.length + ([p_1.1.2.2] : List (Int × Int)).length) * 16 ≤ 140737488355328) ∧ (K_1 rem_2 (out_1 ++ ([p_1.1.2.2] : List (Int × Int))))) ∧ (¬ (p_1.1.1 = id) → K_1 rem_2 out_1))
def audit_Audit_Of_W (a_seen : List ((Int × Int × Int × Int) × Int)) (a_twice : List (Int × Int × Int × Int × Str)) (a_all : Int) (id : Int) (Q : (List (Int × Int)) → (List ((Int × Int × Int × Int) × Int)) → (List (Int × Int × Int × Int × Str)) → Int → Prop) : Prop :=
  loopW (fun (K_1 : ((List ((Int × Int × Int × Int) × Int)) × List (Int × Int)) → Prop) (s : (List ((Int × Int × Int × Int) × Int)) × List (Int × Int)) => audit_Audit_Of_l1 a_seen a_twice a_all id Q (fun rem_1 out_1 => K_1 (rem_1, out_1)) s.1 s.2) (a_seen, [])
set_option maxHeartbeats 40000000 in
set_option maxRecDepth 100000 in
theorem audit_Audit_Of_walk {F : Fz} {fr : List Ow} {h0 : Heap} (a_seen : List ((Int × Int × Int × Int) × Int)) (a_twice : List (Int × Int × Int × Int × Str)) (a_all : Int) (id : Int) (ba : Nat) (ra_seen : Nat) (va_twice : Value) (hS : St F (Ow.box ba 151 #[.map (some ra_seen), va_twice, .int .i64 a_all] :: Ow.map ra_seen (fun (x : Int × Int × Int × Int) => .agg #[.int .i64 x.1, .int .i64 x.2.1, .int .i64 x.2.2.1, .int .i64 x.2.2.2]) kI a_seen :: Ow.own 112 5 e_api_Given va_twice a_twice :: fr) h0)  {Q : (List (Int × Int)) → (List ((Int × Int × Int × Int) × Int)) → (List (Int × Int × Int × Int × Str)) → Int → Prop} (hM : audit_Audit_Of_W a_seen a_twice a_all id Q) :
    HC Try.prog 89 #[.pointer (some ⟨ba, 0, none⟩), .int .i64 id] h0 fun u h' => ∃ (F' : Fz) (r_1 : List (Int × Int)) (am_1 : List ((Int × Int × Int × Int) × Int)) (a_twice_1 : List (Int × Int × Int × Int × Str)) (a_all_1 : Int) (vr_1 : Value) (v_1 : Value), u = vr_1 ∧ Kp F h0 F' h' ∧ St F' (Ow.own 100 2 e_api_Spot vr_1 r_1 :: Ow.box ba 151 #[.map (some ra_seen), v_1, .int .i64 a_all_1] :: Ow.map ra_seen (fun (x : Int × Int × Int × Int) => .agg #[.int .i64 x.1, .int .i64 x.2.1, .int .i64 x.2.2.1, .int .i64 x.2.2.2]) kI am_1 :: Ow.own 112 5 e_api_Given v_1 a_twice_1 :: fr) h' ∧ Q r_1 am_1 a_twice_1 a_all_1 := by
  unfold audit_Audit_Of_W at hM
  have hK := Kp.refl F h0
  refine HC.of_HW (n := 29) Try.func89 rfl rfl (Nat.le_of_ble_eq_true rfl) ?_
  refine HW.seq ?_
  refine HW.region ?_
  refine HO.val (v := .slice none 0 0) (want_none) rfl (q_assign rfl) ?_
  refine HO.nil (thenQ_normal (?_))
  refine HW.seq ?_
  refine HW.region ?_
  refine HO.val (v := .slice none 0 0) (want_none) rfl (q_assign rfl) ?_
  refine HO.nil (thenQ_normal (?_))
  refine HW.seq ?_
  refine HW.seq ?_
  refine HW.region ?_
  refine HO.val (v := .pointer (some ⟨ba, 0, none⟩)) (want_none) rfl (q_move rfl) ?_
  refine HO.val (v := .bool false) (want_none) rfl (q_eqlPnil Try.underlying103 rfl rfl rfl) ?_
  refine HO.nil (thenQ_normal (?_))
  refine HW.condF rfl ?_
  refine HW.skip (thenQ_normal (?_))
  refine HW.seq ?_
  refine HW.seq ?_
  refine HW.region ?_
  refine HO.val (v := .pointer (some ⟨ba, 0, none⟩)) (want_none) rfl (q_move rfl) ?_
  refine HO.val (v := .pointer (some ⟨ba, 0, none⟩)) (want_none) rfl (q_nilCheck rfl) ?_
  refine HO.val (v := .pointer (some ⟨ba, 0, none⟩)) (want_none) rfl (q_fieldAddr fa_151_0 rfl rfl) ?_
  refine HO.val (v := .map (some ra_seen)) (want_none) rfl (q_load to_149 rfl (Blk.cell (hS.box 0 rfl) rfl)) ?_
  refine HO.eff (want_none) rfl (st_range hS (i := 1) rfl Try.underlying149 rfl) ?_
  rintro _ h_1 ⟨it_1, rfl, hS, hk⟩
  replace hS : St F (Ow.box ba 151 #[.map (some ra_seen), va_twice, .int .i64 a_all] :: Ow.iter it_1 ra_seen (fun (x : Int × Int × Int × Int) => .agg #[.int .i64 x.1, .int .i64 x.2.1, .int .i64 x.2.2.1, .int .i64 x.2.2.2]) kI a_seen a_seen :: Ow.own 112 5 e_api_Given va_twice a_twice :: fr) h_1 := hS
  replace hK := hK.trans hk
  refine HO.nil (thenQ_normal (?_))
  refine HW.block ?_
  obtain ⟨I_1, m_1, hI_1, hR_1⟩ := hM
  replace hS := hS.nilOwn 100 2 e_api_Spot
  replace hS : St F (Ow.box ba 151 #[.map (some ra_seen), va_twice, .int .i64 a_all] :: Ow.iter it_1 ra_seen (fun (x : Int × Int × Int × Int) => .agg #[.int .i64 x.1, .int .i64 x.2.1, .int .i64 x.2.2.1, .int .i64 x.2.2.2]) kI a_seen a_seen :: Ow.own 112 5 e_api_Given va_twice a_twice :: Ow.own 100 2 e_api_Spot (.slice none 0 0) ([] : List (Int × Int)) :: fr) h_1 := St.perm (front := [Ow.own 100 2 e_api_Spot (.slice none 0 0) ([] : List (Int × Int)), Ow.box ba 151 #[.map (some ra_seen), va_twice, .int .i64 a_all], Ow.iter it_1 ra_seen (fun (x : Int × Int × Int × Int) => .agg #[.int .i64 x.1, .int .i64 x.2.1, .int .i64 x.2.2.1, .int .i64 x.2.2.2]) kI a_seen a_seen, Ow.own 112 5 e_api_Given va_twice a_twice]) (fr := fr) hS [1, 2, 3, 0] 4 rfl (by decide) [Ow.box ba 151 #[.map (some ra_seen), va_twice, .int .i64 a_all], Ow.iter it_1 ra_seen (fun (x : Int × Int × Int × Int) => .agg #[.int .i64 x.1, .int .i64 x.2.1, .int .i64 x.2.2.1, .int .i64 x.2.2.2]) kI a_seen a_seen, Ow.own 112 5 e_api_Given va_twice a_twice, Ow.own 100 2 e_api_Spot (.slice none 0 0) ([] : List (Int × Int))] rfl
  refine HW.loop (S := (List ((Int × Int × Int × Int) × Int)) × List (Int × Int)) (fun s f h => match s with | (rem_1, out_1) => ∃ (F' : Fz) (vout_1 : Value), f 1 = .int .i64 id ∧ f 4 = .slice none 0 0 ∧ f 5 = vout_1 ∧ f 13 = .pointer (some ⟨it_1, 0, none⟩) ∧ Kp F h0 F' h ∧ St F' (Ow.box ba 151 #[.map (some ra_seen), va_twice, .int .i64 a_all] :: Ow.iter it_1 ra_seen (fun (x : Int × Int × Int × Int) => .agg #[.int .i64 x.1, .int .i64 x.2.1, .int .i64 x.2.2.1, .int .i64 x.2.2.2]) kI a_seen rem_1 :: Ow.own 112 5 e_api_Given va_twice a_twice :: Ow.own 100 2 e_api_Spot vout_1 out_1 :: fr) h ∧ I_1 (rem_1, out_1)) m_1 (a_seen, []) ⟨F, .slice none 0 0, rfl, rfl, rfl, rfl, hK, hS, hI_1⟩ ?_
  rintro ⟨rem_1, out_1⟩ f_1 h_2 ⟨F_1, vout_1, e1, e4, e5, e13, hK, hS, hI0⟩
  obtain ⟨K_1, hKe_1⟩ : ∃ K : (List ((Int × Int × Int × Int) × Int)) → (List (Int × Int)) → Prop, K = fun rem_1' out_1' => I_1 (rem_1', out_1') ∧ m_1 (rem_1', out_1') < m_1 (rem_1, out_1) := ⟨_, rfl⟩
  have hM : audit_Audit_Of_l1 a_seen a_twice a_all id Q K_1 rem_1 out_1 := by rw [hKe_1]; exact hR_1 (rem_1, out_1) hI0
  unfold audit_Audit_Of_l1 at hM
  refine HW.fr [(1, .int .i64 id), (4, .slice none 0 0), (5, vout_1), (13, .pointer (some ⟨it_1, 0, none⟩))] ⟨e1, e4, e5, e13, trivial⟩ ?_
  refine HW.seq ?_
  refine HW.region ?_
  refine HO.eff (want_none) rfl (st_next hS (i := 1) rfl rfl) ?_
  rintro _ h_3 (⟨hrem, rfl, hEq⟩ | ⟨p_1, rem_2, hperm, rfl, hS, hk⟩)
  · rw [hEq]
    replace hM := hM.1 hrem
    replace hS := hS.done 1 rfl
    replace hS : St F_1 (Ow.box ba 151 #[.map (some ra_seen), va_twice, .int .i64 a_all] :: Ow.map ra_seen (fun (x : Int × Int × Int × Int) => .agg #[.int .i64 x.1, .int .i64 x.2.1, .int .i64 x.2.2.1, .int .i64 x.2.2.2]) kI a_seen :: Ow.own 112 5 e_api_Given va_twice a_twice :: Ow.own 100 2 e_api_Spot vout_1 out_1 :: fr) h_2 := hS
    refine HO.val (v := .bool false) (want_none) rfl (q_extract rfl rfl) ?_
    refine HO.nil (thenQ_normal (?_))
    refine HW.seq ?_
    refine HW.condF rfl ?_
    refine HW.exit (thenQ_exit (thenQ_exit (blockQ_exit (thenQ_normal (?_)))))
    refine HW.seq ?_
    refine HW.region ?_
    refine HO.val (v := vout_1) (want_none) rfl (q_move rfl) ?_
    replace hS : St F_1 (Ow.own 100 2 e_api_Spot vout_1 out_1 :: Ow.box ba 151 #[.map (some ra_seen), va_twice, .int .i64 a_all] :: Ow.map ra_seen (fun (x : Int × Int × Int × Int) => .agg #[.int .i64 x.1, .int .i64 x.2.1, .int .i64 x.2.2.1, .int .i64 x.2.2.2]) kI a_seen :: Ow.own 112 5 e_api_Given va_twice a_twice :: fr) h_2 := St.perm (front := [Ow.box ba 151 #[.map (some ra_seen), va_twice, .int .i64 a_all], Ow.map ra_seen (fun (x : Int × Int × Int × Int) => .agg #[.int .i64 x.1, .int .i64 x.2.1, .int .i64 x.2.2.1, .int .i64 x.2.2.2]) kI a_seen, Ow.own 112 5 e_api_Given va_twice a_twice, Ow.own 100 2 e_api_Spot vout_1 out_1]) (fr := fr) hS [3, 0, 1, 2] 4 rfl (by decide) [Ow.own 100 2 e_api_Spot vout_1 out_1, Ow.box ba 151 #[.map (some ra_seen), va_twice, .int .i64 a_all], Ow.map ra_seen (fun (x : Int × Int × Int × Int) => .agg #[.int .i64 x.1, .int .i64 x.2.1, .int .i64 x.2.2.1, .int .i64 x.2.2.2]) kI a_seen, Ow.own 112 5 e_api_Given va_twice a_twice] rfl
    refine HO.call (want_none) rfl (ec en_114 rfl rfl) (audit_set_walk (fr := (Ow.box ba 151 #[.map (some ra_seen), va_twice, .int .i64 a_all] :: Ow.map ra_seen (fun (x : Int × Int × Int × Int) => .agg #[.int .i64 x.1, .int .i64 x.2.1, .int .i64 x.2.2.1, .int .i64 x.2.2.2]) kI a_seen :: Ow.own 112 5 e_api_Given va_twice a_twice :: fr)) out_1 vout_1 hS hM) ?_
    rintro vr_2 h_4 ⟨F_2, r_2, _, rfl, hk, hS, hM⟩
    replace hK := hK.trans hk
    refine HO.val (v := vr_2) (want_none) rfl (q_assign rfl) ?_
    refine HO.nil (thenQ_normal (?_))
    refine HW.ret (?_)
    refine ⟨.inr rfl, vr_2, res1 rfl (rt rfl), ?_⟩
    exact ⟨F_2, r_2, a_seen, a_twice, a_all, vr_2, va_twice, rfl, hK, hS, hM⟩
  · replace hM := hM.2 p_1 rem_2 hperm
    replace hS : St F_1 (Ow.box ba 151 #[.map (some ra_seen), va_twice, .int .i64 a_all] :: Ow.cur it_1 ra_seen (fun (x : Int × Int × Int × Int) => .agg #[.int .i64 x.1, .int .i64 x.2.1, .int .i64 x.2.2.1, .int .i64 x.2.2.2]) kI a_seen rem_2 p_1 :: Ow.own 112 5 e_api_Given va_twice a_twice :: Ow.own 100 2 e_api_Spot vout_1 out_1 :: fr) h_3 := hS
    replace hK := hK.trans hk
    refine HO.val (v := .bool true) (want_none) rfl (q_extract rfl rfl) ?_
    refine HO.nil (thenQ_normal (?_))
    refine HW.seq ?_
    refine HW.condT rfl ?_
    refine HW.skip (thenQ_normal (?_))
    refine HW.block ?_
    refine HW.seq ?_
    refine HW.region ?_
    refine HO.val (v := .tuple #[.agg #[.int .i64 p_1.1.1, .int .i64 p_1.1.2.1, .int .i64 p_1.1.2.2.1, .int .i64 p_1.1.2.2.2], .int .i64 p_1.2]) (want_none) rfl (q_entry (hS.cu 1 rfl) rfl) ?_
    refine HO.val (v := .agg #[.int .i64 p_1.1.1, .int .i64 p_1.1.2.1, .int .i64 p_1.1.2.2.1, .int .i64 p_1.1.2.2.2]) (want_none) rfl (q_extract rfl rfl) ?_
    refine HO.eff (want_none) rfl (st_alloc (c := #[.int .i64 0, .int .i64 0, .int .i64 0, .int .i64 0]) hS tz_153 rfl) ?_
    rintro _ h_5 ⟨b_1, rfl, hS, hk⟩
    replace hK := hK.trans hk
    refine HO.sto (want_none) rfl (st_storeAgg (c' := #[.int .i64 p_1.1.1, .int .i64 p_1.1.2.1, .int .i64 p_1.1.2.2.1, .int .i64 p_1.1.2.2.2]) hS (i := 0) rfl ta_153 rfl rfl rfl (by simp [Value.oneCell']) (Nat.le_of_ble_eq_true rfl) rfl) ?_
    rintro h_6 ⟨hS, hk⟩
    replace hS : St F_1 (Ow.box b_1 153 #[.int .i64 p_1.1.1, .int .i64 p_1.1.2.1, .int .i64 p_1.1.2.2.1, .int .i64 p_1.1.2.2.2] :: Ow.box ba 151 #[.map (some ra_seen), va_twice, .int .i64 a_all] :: Ow.cur it_1 ra_seen (fun (x : Int × Int × Int × Int) => .agg #[.int .i64 x.1, .int .i64 x.2.1, .int .i64 x.2.2.1, .int .i64 x.2.2.2]) kI a_seen rem_2 p_1 :: Ow.own 112 5 e_api_Given va_twice a_twice :: Ow.own 100 2 e_api_Spot vout_1 out_1 :: fr) h_6 := hS
    replace hK := hK.trans hk
    refine HO.nil (thenQ_normal (?_))
    refine HW.seq ?_
    refine HW.region ?_
    refine HO.val (v := .pointer (some ⟨b_1, 0, none⟩)) (want_none) rfl (q_fieldAddr fa_153_0 rfl rfl) ?_
    refine HO.val (v := .int .i64 p_1.1.1) (want_none) rfl (q_load to_3 rfl (Blk.cell (hS.box 0 rfl) rfl)) ?_
    refine HO.val (v := .int .i64 id) (want_none) rfl (q_move rfl) ?_
    refine HO.val (v := .bool (decide (p_1.1.1 = id))) (want_none) rfl (q_eql rfl rfl) ?_
    refine HO.nil (thenQ_normal (?_))
    refine HW.cond (decide (p_1.1.1 = id)) rfl (fun c_1 => ?_) (fun c_1 => ?_)
    · replace hM := hM.1 (of_decide_eq_true c_1)
      refine HW.region ?_
      refine HO.val (v := vout_1) (want_none) rfl (q_move rfl) ?_
      refine HO.val (v := .pointer (some ⟨b_1, 2, none⟩)) (want_none) rfl (q_fieldAddr fa_153_2 rfl rfl) ?_
      refine HO.val (v := .agg #[.int .i64 p_1.1.2.2.1, .int .i64 p_1.1.2.2.2]) (want_none) rfl (q_loadAgg (cs := [.int .i64 p_1.1.2.2.1, .int .i64 p_1.1.2.2.2]) ta_100 rfl rfl (Blk.cells (k := 2) (hS.box 0 rfl) rfl)) ?_
      refine HO.eff (want_none) rfl (st_lit (enc := e_api_Spot) (cells := #[.int .i64 p_1.1.2.2.1, .int .i64 p_1.1.2.2.2]) #[.int .i64 0, .int .i64 0] ([p_1.1.2.2] : List (Int × Int)) hS tl_98 (by decide) (by decide) (by kernel_rfl) (by kernel_rfl) rfl (by intro x hx; rfl) rfl) ?_
      rintro _ h_7 ⟨b_2, rfl, hS, hk⟩
      replace hK := hK.trans hk
      obtain ⟨ho_1, hM⟩ := hM
      refine HO.eff (want_none) rfl (st_append te_98 hS (i := 5) rfl (hS.own 0 rfl).slice rfl rfl rfl (by intro a _ u hu; simp [e_api_Spot, encI, encN, encB, encT] at hu; rcases hu with rfl | rfl <;> rfl) ho_1 (by omega)) ?_
      rintro v_2 h_8 ⟨hS, hk⟩
      replace hS : St F_1 (Ow.own 100 2 e_api_Spot (.slice (some ⟨b_2, 0, none⟩) 1 1) ([p_1.1.2.2] : List (Int × Int)) :: Ow.box b_1 153 #[.int .i64 p_1.1.1, .int .i64 p_1.1.2.1, .int .i64 p_1.1.2.2.1, .int .i64 p_1.1.2.2.2] :: Ow.box ba 151 #[.map (some ra_seen), va_twice, .int .i64 a_all] :: Ow.cur it_1 ra_seen (fun (x : Int × Int × Int × Int) => .agg #[.int .i64 x.1, .int .i64 x.2.1, .int .i64 x.2.2.1, .int .i64 x.2.2.2]) kI a_seen rem_2 p_1 :: Ow.own 112 5 e_api_Given va_twice a_twice :: Ow.own 100 2 e_api_Spot v_2 (out_1 ++ ([p_1.1.2.2] : List (Int × Int))) :: fr) h_8 := hS
      replace hK := hK.trans hk
      refine HO.val (v := v_2) (want_none) rfl (q_assign rfl) ?_
      refine HO.nil (blockQ_normal (thenQ_normal (?_)))
      replace hS := hS.again 3 rfl
      replace hS : St F_1 (Ow.own 100 2 e_api_Spot (.slice (some ⟨b_2, 0, none⟩) 1 1) ([p_1.1.2.2] : List (Int × Int)) :: Ow.box b_1 153 #[.int .i64 p_1.1.1, .int .i64 p_1.1.2.1, .int .i64 p_1.1.2.2.1, .int .i64 p_1.1.2.2.2] :: Ow.box ba 151 #[.map (some ra_seen), va_twice, .int .i64 a_all] :: Ow.iter it_1 ra_seen (fun (x : Int × Int × Int × Int) => .agg #[.int .i64 x.1, .int .i64 x.2.1, .int .i64 x.2.2.1, .int .i64 x.2.2.2]) kI a_seen rem_2 :: Ow.own 112 5 e_api_Given va_twice a_twice :: Ow.own 100 2 e_api_Spot v_2 (out_1 ++ ([p_1.1.2.2] : List (Int × Int))) :: fr) h_8 := hS
      replace hS : St F_1 (Ow.box ba 151 #[.map (some ra_seen), va_twice, .int .i64 a_all] :: Ow.iter it_1 ra_seen (fun (x : Int × Int × Int × Int) => .agg #[.int .i64 x.1, .int .i64 x.2.1, .int .i64 x.2.2.1, .int .i64 x.2.2.2]) kI a_seen rem_2 :: Ow.own 112 5 e_api_Given va_twice a_twice :: Ow.own 100 2 e_api_Spot v_2 (out_1 ++ ([p_1.1.2.2] : List (Int × Int))) :: fr) h_8 := St.perm (front := [Ow.own 100 2 e_api_Spot (.slice (some ⟨b_2, 0, none⟩) 1 1) ([p_1.1.2.2] : List (Int × Int)), Ow.box b_1 153 #[.int .i64 p_1.1.1, .int .i64 p_1.1.2.1, .int .i64 p_1.1.2.2.1, .int .i64 p_1.1.2.2.2], Ow.box ba 151 #[.map (some ra_seen), va_twice, .int .i64 a_all], Ow.iter it_1 ra_seen (fun (x : Int × Int × Int × Int) => .agg #[.int .i64 x.1, .int .i64 x.2.1, .int .i64 x.2.2.1, .int .i64 x.2.2.2]) kI a_seen rem_2, Ow.own 112 5 e_api_Given va_twice a_twice, Ow.own 100 2 e_api_Spot v_2 (out_1 ++ ([p_1.1.2.2] : List (Int × Int)))]) (fr := fr) hS [2, 3, 4, 5] 6 rfl (by decide) [Ow.box ba 151 #[.map (some ra_seen), va_twice, .int .i64 a_all], Ow.iter it_1 ra_seen (fun (x : Int × Int × Int × Int) => .agg #[.int .i64 x.1, .int .i64 x.2.1, .int .i64 x.2.2.1, .int .i64 x.2.2.2]) kI a_seen rem_2, Ow.own 112 5 e_api_Given va_twice a_twice, Ow.own 100 2 e_api_Spot v_2 (out_1 ++ ([p_1.1.2.2] : List (Int × Int)))] rfl
      rw [hKe_1] at hM
      exact ⟨(rem_2, out_1 ++ ([p_1.1.2.2] : List (Int × Int))), ⟨F_1, v_2, rfl, rfl, rfl, rfl, hK, hS, hM.1⟩, hM.2⟩
    · replace hM := hM.2 (of_decide_eq_false c_1)
      refine HW.skip (blockQ_normal (thenQ_normal (?_)))
      replace hS := hS.again 2 rfl
      replace hS : St F_1 (Ow.box b_1 153 #[.int .i64 p_1.1.1, .int .i64 p_1.1.2.1, .int .i64 p_1.1.2.2.1, .int .i64 p_1.1.2.2.2] :: Ow.box ba 151 #[.map (some ra_seen), va_twice, .int .i64 a_all] :: Ow.iter it_1 ra_seen (fun (x : Int × Int × Int × Int) => .agg #[.int .i64 x.1, .int .i64 x.2.1, .int .i64 x.2.2.1, .int .i64 x.2.2.2]) kI a_seen rem_2 :: Ow.own 112 5 e_api_Given va_twice a_twice :: Ow.own 100 2 e_api_Spot vout_1 out_1 :: fr) h_6 := hS
      replace hS : St F_1 (Ow.box ba 151 #[.map (some ra_seen), va_twice, .int .i64 a_all] :: Ow.iter it_1 ra_seen (fun (x : Int × Int × Int × Int) => .agg #[.int .i64 x.1, .int .i64 x.2.1, .int .i64 x.2.2.1, .int .i64 x.2.2.2]) kI a_seen rem_2 :: Ow.own 112 5 e_api_Given va_twice a_twice :: Ow.own 100 2 e_api_Spot vout_1 out_1 :: fr) h_6 := St.perm (front := [Ow.box b_1 153 #[.int .i64 p_1.1.1, .int .i64 p_1.1.2.1, .int .i64 p_1.1.2.2.1, .int .i64 p_1.1.2.2.2], Ow.box ba 151 #[.map (some ra_seen), va_twice, .int .i64 a_all], Ow.iter it_1 ra_seen (fun (x : Int × Int × Int × Int) => .agg #[.int .i64 x.1, .int .i64 x.2.1, .int .i64 x.2.2.1, .int .i64 x.2.2.2]) kI a_seen rem_2, Ow.own 112 5 e_api_Given va_twice a_twice, Ow.own 100 2 e_api_Spot vout_1 out_1]) (fr := fr) hS [1, 2, 3, 4] 5 rfl (by decide) [Ow.box ba 151 #[.map (some ra_seen), va_twice, .int .i64 a_all], Ow.iter it_1 ra_seen (fun (x : Int × Int × Int × Int) => .agg #[.int .i64 x.1, .int .i64 x.2.1, .int .i64 x.2.2.1, .int .i64 x.2.2.2]) kI a_seen rem_2, Ow.own 112 5 e_api_Given va_twice a_twice, Ow.own 100 2 e_api_Spot vout_1 out_1] rfl
      rw [hKe_1] at hM
      exact ⟨(rem_2, out_1), ⟨F_1, vout_1, rfl, rfl, rfl, rfl, hK, hS, hM.1⟩, hM.2⟩

def audit_Audit_Count_W (a_seen : List ((Int × Int × Int × Int) × Int)) (a_twice : List (Int × Int × Int × Int × Str)) (a_all : Int) (id : Int) (vlan : Int) (at1 : Int × Int) (Q : Int → (List ((Int × Int × Int × Int) × Int)) → (List (Int × Int × Int × Int × Str)) → Int → Prop) : Prop :=
  Q (mget0 a_seen (id, vlan, at1)) a_seen a_twice a_all
set_option maxHeartbeats 40000000 in
set_option maxRecDepth 100000 in
theorem audit_Audit_Count_walk {F : Fz} {fr : List Ow} {h0 : Heap} (a_seen : List ((Int × Int × Int × Int) × Int)) (a_twice : List (Int × Int × Int × Int × Str)) (a_all : Int) (id : Int) (vlan : Int) (at1 : Int × Int) (ba : Nat) (ra_seen : Nat) (va_twice : Value) (hS : St F (Ow.box ba 151 #[.map (some ra_seen), va_twice, .int .i64 a_all] :: Ow.map ra_seen (fun (x : Int × Int × Int × Int) => .agg #[.int .i64 x.1, .int .i64 x.2.1, .int .i64 x.2.2.1, .int .i64 x.2.2.2]) kI a_seen :: Ow.own 112 5 e_api_Given va_twice a_twice :: fr) h0)  {Q : Int → (List ((Int × Int × Int × Int) × Int)) → (List (Int × Int × Int × Int × Str)) → Int → Prop} (hM : audit_Audit_Count_W a_seen a_twice a_all id vlan at1 Q) :
    HC Try.prog 88 #[.pointer (some ⟨ba, 0, none⟩), .int .i64 id, .int .i64 vlan, .agg #[.int .i64 at1.1, .int .i64 at1.2]] h0 fun u h' => ∃ (F' : Fz) (r_1 : Int) (am_1 : List ((Int × Int × Int × Int) × Int)) (a_twice_1 : List (Int × Int × Int × Int × Str)) (a_all_1 : Int) (v_1 : Value), u = .int .i64 r_1 ∧ Kp F h0 F' h' ∧ St F' (Ow.box ba 151 #[.map (some ra_seen), v_1, .int .i64 a_all_1] :: Ow.map ra_seen (fun (x : Int × Int × Int × Int) => .agg #[.int .i64 x.1, .int .i64 x.2.1, .int .i64 x.2.2.1, .int .i64 x.2.2.2]) kI am_1 :: Ow.own 112 5 e_api_Given v_1 a_twice_1 :: fr) h' ∧ Q r_1 am_1 a_twice_1 a_all_1 := by
  unfold audit_Audit_Count_W at hM
  have hK := Kp.refl F h0
  refine HC.of_HW (n := 20) Try.func88 rfl rfl (Nat.le_of_ble_eq_true rfl) ?_
  refine HW.seq ?_
  refine HW.region ?_
  refine HO.eff (want_none) rfl (st_box (c := #[.int .i64 at1.1, .int .i64 at1.2]) (k' := 2) hS rfl rfl) ?_
  rintro _ h_1 ⟨b_1, rfl, hS, hk⟩
  replace hK := hK.trans hk
  refine HO.val (v := .int .i64 0) (want_none) rfl (q_assign rfl) ?_
  refine HO.nil (thenQ_normal (?_))
  refine HW.seq ?_
  refine HW.seq ?_
  refine HW.region ?_
  refine HO.val (v := .pointer (some ⟨ba, 0, none⟩)) (want_none) rfl (q_move rfl) ?_
  refine HO.val (v := .bool false) (want_none) rfl (q_eqlPnil Try.underlying103 rfl rfl rfl) ?_
  refine HO.nil (thenQ_normal (?_))
  refine HW.condF rfl ?_
  refine HW.skip (thenQ_normal (?_))
  refine HW.seq ?_
  refine HW.regionA 10 mixed (fun h => (Blk h b_1 (.cells #[.int .i64 at1.1, .int .i64 at1.2] 100 (0, 0))) ∧ (Blk h ba (.cells #[.map (some ra_seen), va_twice, .int .i64 a_all] 151 (0, 0))) ∧ (MapIs h ra_seen (fun (x : Int × Int × Int × Int) => .agg #[.int .i64 x.1, .int .i64 x.2.1, .int .i64 x.2.2.1, .int .i64 x.2.2.2]) kI a_seen) ∧ (OwnIs h 0 112 5 e_api_Given va_twice a_twice)) [] (by kernel_rfl) ?_
  refine HA.val (k := 0) (v := .pointer (some ⟨ba, 0, none⟩)) rfl rfl (by kernel_rfl) (by kernel_rfl) (want_none) rfl (fun _ ⟨c210, c1, c2, c3⟩ => q_move rfl) ?_
  refine HA.val (k := 1) (v := .pointer (some ⟨ba, 0, none⟩)) rfl rfl (by kernel_rfl) (by kernel_rfl) (want_none) rfl (fun _ ⟨c210, c1, c2, c3⟩ => q_nilCheck rfl) ?_
  refine HA.val (k := 2) (v := .pointer (some ⟨ba, 0, none⟩)) rfl rfl (by kernel_rfl) (by kernel_rfl) (want_none) rfl (fun _ ⟨c210, c1, c2, c3⟩ => q_fieldAddr fa_151_0 rfl rfl) ?_
  refine HA.val (k := 3) (v := .map (some ra_seen)) rfl rfl (by kernel_rfl) (by kernel_rfl) (want_none) rfl (fun _ ⟨c210, c1, c2, c3⟩ => q_load to_149 rfl (Blk.cell c1 rfl)) ?_
  refine HA.val (k := 4) (v := .int .i64 id) rfl rfl (by kernel_rfl) (by kernel_rfl) (want_none) rfl (fun _ ⟨c210, c1, c2, c3⟩ => q_move rfl) ?_
  refine HA.val (k := 5) (v := .int .i64 vlan) rfl rfl (by kernel_rfl) (by kernel_rfl) (want_none) rfl (fun _ ⟨c210, c1, c2, c3⟩ => q_move rfl) ?_
  refine HA.val (k := 6) (v := .agg #[.int .i64 at1.1, .int .i64 at1.2]) rfl rfl (by kernel_rfl) (by kernel_rfl) (want_none) rfl (fun _ ⟨c210, c1, c2, c3⟩ => q_loadAgg (cs := [.int .i64 at1.1, .int .i64 at1.2]) ta_100 rfl rfl (Blk.cells (k := 2) c210 rfl)) ?_
  refine HA.val (k := 7) (v := .agg #[.int .i64 id, .int .i64 vlan, .int .i64 at1.1, .int .i64 at1.2]) rfl rfl (by kernel_rfl) (by kernel_rfl) (want_none) rfl (fun _ ⟨c210, c1, c2, c3⟩ => q_build tp_153 rfl) ?_
  refine HA.val (k := 8) (v := .int .i64 (mget0 a_seen (id, vlan, at1))) rfl rfl (by kernel_rfl) (by kernel_rfl) (want_none) rfl (fun _ ⟨c210, c1, c2, c3⟩ => (q_lookup (k := (id, vlan, at1)) ka_153 tmk_149 c2 rfl rfl).of_eq (mval0 (z := .int .i64 0) rfl)) ?_
  refine HA.val (k := 9) (v := .int .i64 (mget0 a_seen (id, vlan, at1))) rfl rfl (by kernel_rfl) (by kernel_rfl) (want_none) rfl (fun _ ⟨c210, c1, c2, c3⟩ => q_assign rfl) ?_
  refine HA.nil ⟨⟨(hS.box 0 rfl), (hS.box 1 rfl), (hS.mp 2 rfl), (hS.own 3 rfl)⟩, (Go.Wk.at_nil _ _)⟩ (by kernel_rfl) (thenQ_normal (?_))
  refine HW.ret (?_)
  refine ⟨.inr rfl, .int .i64 (mget0 a_seen (id, vlan, at1)), res1 rfl (rt rfl), ?_⟩
  replace hS : St F (Ow.box ba 151 #[.map (some ra_seen), va_twice, .int .i64 a_all] :: Ow.map ra_seen (fun (x : Int × Int × Int × Int) => .agg #[.int .i64 x.1, .int .i64 x.2.1, .int .i64 x.2.2.1, .int .i64 x.2.2.2]) kI a_seen :: Ow.own 112 5 e_api_Given va_twice a_twice :: fr) h_1 := St.perm (front := [Ow.box b_1 100 #[.int .i64 at1.1, .int .i64 at1.2], Ow.box ba 151 #[.map (some ra_seen), va_twice, .int .i64 a_all], Ow.map ra_seen (fun (x : Int × Int × Int × Int) => .agg #[.int .i64 x.1, .int .i64 x.2.1, .int .i64 x.2.2.1, .int .i64 x.2.2.2]) kI a_seen, Ow.own 112 5 e_api_Given va_twice a_twice]) (fr := fr) hS [1, 2, 3] 4 rfl (by decide) [Ow.box ba 151 #[.map (some ra_seen), va_twice, .int .i64 a_all], Ow.map ra_seen (fun (x : Int × Int × Int × Int) => .agg #[.int .i64 x.1, .int .i64 x.2.1, .int .i64 x.2.2.1, .int .i64 x.2.2.2]) kI a_seen, Ow.own 112 5 e_api_Given va_twice a_twice] rfl
  exact ⟨F, mget0 a_seen (id, vlan, at1), a_seen, a_twice, a_all, va_twice, rfl, hK, hS, hM⟩

def slices_Clone_s_api_Given_api_Given_W (s1 : List (Int × Int × Int × Int × Str)) (Q : (List (Int × Int × Int × Int × Str)) → Prop) : Prop :=
  (s1 = [] → Q []) ∧ (True → ((([] : List (Int × Int × Int × Int × Str)).length + s1.length) * 48 ≤ 140737488355328) ∧ (Q (([] : List (Int × Int × Int × Int × Str)) ++ s1)))
set_option maxHeartbeats 40000000 in
set_option maxRecDepth 100000 in
theorem slices_Clone_s_api_Given_api_Given_walk {F : Fz} {fr : List Ow} {h0 : Heap} (s1 : List (Int × Int × Int × Int × Str)) (vs : Value) (hS : St F (fr) h0) (hL_s1 : SliceF F h0 5 e_api_Given vs s1) {Q : (List (Int × Int × Int × Int × Str)) → Prop} (hM : slices_Clone_s_api_Given_api_Given_W s1 Q) :
    HC Try.prog 115 #[vs] h0 fun u h' => ∃ (F' : Fz) (r_1 : List (Int × Int × Int × Int × Str)) (vr_1 : Value), u = vr_1 ∧ Kp F h0 F' h' ∧ St F' (Ow.own 112 5 e_api_Given vr_1 r_1 :: fr) h' ∧ (SliceF F' h' 5 e_api_Given vs s1) ∧ Q r_1 := by
  unfold slices_Clone_s_api_Given_api_Given_W at hM
  have hK := Kp.refl F h0
  refine HC.of_HW (n := 8) Try.func115 rfl rfl (Nat.le_of_ble_eq_true rfl) ?_
  refine HW.seq ?_
  refine HW.region ?_
  refine HO.val (v := .slice none 0 0) (want_none) rfl (q_assign rfl) ?_
  refine HO.nil (thenQ_normal (?_))
  refine HW.seq ?_
  refine HW.seq ?_
  refine HW.region ?_
  refine HO.val (v := vs) (want_none) rfl (q_move rfl) ?_
  refine HO.val (v := .bool (isNil vs)) (want_none) rfl (q_eqlSnil Try.underlying97 (shp hL_s1.is) rfl rfl) ?_
  refine HO.nil (thenQ_normal (?_))
  refine HW.cond (isNil vs) rfl (fun c_1 => ?_) (fun c_1 => ?_)
  · replace hM := hM.1 (isNil_nil hL_s1.is c_1)
    refine HW.seq ?_
    refine HW.region ?_
    refine HO.val (v := .slice none 0 0) (want_none) rfl (q_assign rfl) ?_
    refine HO.nil (thenQ_normal (?_))
    refine HW.ret (thenQ_ret (?_))
    refine ⟨.inr rfl, .slice none 0 0, res1 rfl (rt rfl), ?_⟩
    replace hS := hS.nilOwn 112 5 e_api_Given
    exact ⟨F, [], .slice none 0 0, rfl, hK, hS, hL_s1, hM⟩
  · replace hM := hM.2 trivial
    refine HW.skip (thenQ_normal (?_))
    refine HW.seq ?_
    refine HW.region ?_
    refine HO.eff (want_none) rfl (st_litEmpty (α := Int × Int × Int × Int × Str) e_api_Given hS tl_97) ?_
    rintro _ h_1 ⟨b_1, rfl, hS, hk⟩
    replace hK := hK.trans hk
    replace hL_s1 := hL_s1.kp hk
    refine HO.val (v := vs) (want_none) rfl (q_move rfl) ?_
    obtain ⟨ho_1, hM⟩ := hM
    refine HO.eff (want_none) rfl (st_append te_97 hS (i := 0) rfl hL_s1.is rfl rfl rfl (by intro a _ u hu; simp [e_api_Given, encI, encN, encB, encT] at hu; rcases hu with rfl | rfl | rfl | rfl | rfl <;> rfl) ho_1 (by omega)) ?_
    rintro v_1 h_2 ⟨hS, hk⟩
    replace hS : St F (Ow.own 112 5 e_api_Given v_1 (([] : List (Int × Int × Int × Int × Str)) ++ s1) :: fr) h_2 := hS
    replace hK := hK.trans hk
    replace hL_s1 := hL_s1.kp hk
    refine HO.val (v := v_1) (want_none) rfl (q_assign rfl) ?_
    refine HO.nil (thenQ_normal (?_))
    refine HW.ret (?_)
    refine ⟨.inr rfl, v_1, res1 rfl (rt rfl), ?_⟩
    exact ⟨F, ([] : List (Int × Int × Int × Int × Str)) ++ s1, v_1, rfl, hK, hS, hL_s1, hM⟩

def audit_Audit_Twice_W (a_seen : List ((Int × Int × Int × Int) × Int)) (a_twice : List (Int × Int × Int × Int × Str)) (a_all : Int) (Q : (List (Int × Int × Int × Int × Str)) → (List ((Int × Int × Int × Int) × Int)) → (List (Int × Int × Int × Int × Str)) → Int → Prop) : Prop :=
  slices_Clone_s_api_Given_api_Given_W a_twice (fun r_2 => Q r_2 a_seen a_twice a_all)
set_option maxHeartbeats 40000000 in
set_option maxRecDepth 100000 in
theorem audit_Audit_Twice_walk {F : Fz} {fr : List Ow} {h0 : Heap} (a_seen : List ((Int × Int × Int × Int) × Int)) (a_twice : List (Int × Int × Int × Int × Str)) (a_all : Int) (ba : Nat) (ra_seen : Nat) (va_twice : Value) (hS : St F (Ow.box ba 151 #[.map (some ra_seen), va_twice, .int .i64 a_all] :: Ow.map ra_seen (fun (x : Int × Int × Int × Int) => .agg #[.int .i64 x.1, .int .i64 x.2.1, .int .i64 x.2.2.1, .int .i64 x.2.2.2]) kI a_seen :: Ow.own 112 5 e_api_Given va_twice a_twice :: fr) h0)  {Q : (List (Int × Int × Int × Int × Str)) → (List ((Int × Int × Int × Int) × Int)) → (List (Int × Int × Int × Int × Str)) → Int → Prop} (hM : audit_Audit_Twice_W a_seen a_twice a_all Q) :
    HC Try.prog 77 #[.pointer (some ⟨ba, 0, none⟩)] h0 fun u h' => ∃ (F' : Fz) (r_1 : List (Int × Int × Int × Int × Str)) (am_1 : List ((Int × Int × Int × Int) × Int)) (a_twice_1 : List (Int × Int × Int × Int × Str)) (a_all_1 : Int) (vr_1 : Value) (v_1 : Value), u = vr_1 ∧ Kp F h0 F' h' ∧ St F' (Ow.own 112 5 e_api_Given vr_1 r_1 :: Ow.box ba 151 #[.map (some ra_seen), v_1, .int .i64 a_all_1] :: Ow.map ra_seen (fun (x : Int × Int × Int × Int) => .agg #[.int .i64 x.1, .int .i64 x.2.1, .int .i64 x.2.2.1, .int .i64 x.2.2.2]) kI am_1 :: Ow.own 112 5 e_api_Given v_1 a_twice_1 :: fr) h' ∧ Q r_1 am_1 a_twice_1 a_all_1 := by
  unfold audit_Audit_Twice_W at hM
  have hK := Kp.refl F h0
  refine HC.of_HW (n := 10) Try.func77 rfl rfl (Nat.le_of_ble_eq_true rfl) ?_
  refine HW.seq ?_
  refine HW.region ?_
  refine HO.val (v := .slice none 0 0) (want_none) rfl (q_assign rfl) ?_
  refine HO.nil (thenQ_normal (?_))
  refine HW.seq ?_
  refine HW.seq ?_
  refine HW.region ?_
  refine HO.val (v := .pointer (some ⟨ba, 0, none⟩)) (want_none) rfl (q_move rfl) ?_
  refine HO.val (v := .bool false) (want_none) rfl (q_eqlPnil Try.underlying103 rfl rfl rfl) ?_
  refine HO.nil (thenQ_normal (?_))
  refine HW.condF rfl ?_
  refine HW.skip (thenQ_normal (?_))
  refine HW.seq ?_
  refine HW.region ?_
  refine HO.val (v := .pointer (some ⟨ba, 0, none⟩)) (want_none) rfl (q_move rfl) ?_
  refine HO.val (v := .pointer (some ⟨ba, 0, none⟩)) (want_none) rfl (q_nilCheck rfl) ?_
  refine HO.val (v := .pointer (some ⟨ba, 1, none⟩)) (want_none) rfl (q_fieldAddr fa_151_1 rfl rfl) ?_
  refine HO.val (v := va_twice) (want_none) rfl (q_load to_97 rfl (Blk.cell (hS.box 0 rfl) rfl)) ?_
  replace hS : St F (Ow.own 112 5 e_api_Given va_twice a_twice :: Ow.box ba 151 #[.map (some ra_seen), va_twice, .int .i64 a_all] :: Ow.map ra_seen (fun (x : Int × Int × Int × Int) => .agg #[.int .i64 x.1, .int .i64 x.2.1, .int .i64 x.2.2.1, .int .i64 x.2.2.2]) kI a_seen :: fr) h0 := St.perm (front := [Ow.box ba 151 #[.map (some ra_seen), va_twice, .int .i64 a_all], Ow.map ra_seen (fun (x : Int × Int × Int × Int) => .agg #[.int .i64 x.1, .int .i64 x.2.1, .int .i64 x.2.2.1, .int .i64 x.2.2.2]) kI a_seen, Ow.own 112 5 e_api_Given va_twice a_twice]) (fr := fr) hS [2, 0, 1] 3 rfl (by decide) [Ow.own 112 5 e_api_Given va_twice a_twice, Ow.box ba 151 #[.map (some ra_seen), va_twice, .int .i64 a_all], Ow.map ra_seen (fun (x : Int × Int × Int × Int) => .agg #[.int .i64 x.1, .int .i64 x.2.1, .int .i64 x.2.2.1, .int .i64 x.2.2.2]) kI a_seen] rfl
  have hZ_1 := hS
  have hkz_1 := (hS.freeze).2
  replace hS := hS.freeze.1
  have hL_1 : SliceF (fun b => F b ∨ (Ow.own 112 5 e_api_Given va_twice a_twice).foot b) h0 5 e_api_Given va_twice a_twice := ⟨(hZ_1.own 0 rfl).slice, fun _ b hb => .inr hb⟩
  refine HO.call (want_none) rfl (ec en_115 rfl rfl) (slices_Clone_s_api_Given_api_Given_walk (fr := (Ow.box ba 151 #[.map (some ra_seen), va_twice, .int .i64 a_all] :: Ow.map ra_seen (fun (x : Int × Int × Int × Int) => .agg #[.int .i64 x.1, .int .i64 x.2.1, .int .i64 x.2.2.1, .int .i64 x.2.2.2]) kI a_seen :: fr)) a_twice va_twice hS hL_1 hM) ?_
  rintro vr_2 h_1 ⟨F_1, r_2, _, rfl, hk, hS, _, hM⟩
  obtain ⟨hS, hk⟩ := hZ_1.back hk hS
  generalize (fun b => F_1 b ∧ ¬ (Ow.own 112 5 e_api_Given va_twice a_twice).foot b) = F_2 at hS hk
  replace hK := hK.trans hk
  refine HO.val (v := vr_2) (want_none) rfl (q_assign rfl) ?_
  refine HO.nil (thenQ_normal (?_))
  refine HW.ret (?_)
  refine ⟨.inr rfl, vr_2, res1 rfl (rt rfl), ?_⟩
  replace hS : St F_2 (Ow.own 112 5 e_api_Given vr_2 r_2 :: Ow.box ba 151 #[.map (some ra_seen), va_twice, .int .i64 a_all] :: Ow.map ra_seen (fun (x : Int × Int × Int × Int) => .agg #[.int .i64 x.1, .int .i64 x.2.1, .int .i64 x.2.2.1, .int .i64 x.2.2.2]) kI a_seen :: Ow.own 112 5 e_api_Given va_twice a_twice :: fr) h_1 := St.perm (front := [Ow.own 112 5 e_api_Given va_twice a_twice, Ow.own 112 5 e_api_Given vr_2 r_2, Ow.box ba 151 #[.map (some ra_seen), va_twice, .int .i64 a_all], Ow.map ra_seen (fun (x : Int × Int × Int × Int) => .agg #[.int .i64 x.1, .int .i64 x.2.1, .int .i64 x.2.2.1, .int .i64 x.2.2.2]) kI a_seen]) (fr := fr) hS [1, 2, 3, 0] 4 rfl (by decide) [Ow.own 112 5 e_api_Given vr_2 r_2, Ow.box ba 151 #[.map (some ra_seen), va_twice, .int .i64 a_all], Ow.map ra_seen (fun (x : Int × Int × Int × Int) => .agg #[.int .i64 x.1, .int .i64 x.2.1, .int .i64 x.2.2.1, .int .i64 x.2.2.2]) kI a_seen, Ow.own 112 5 e_api_Given va_twice a_twice] rfl
  exact ⟨F_2, r_2, a_seen, a_twice, a_all, vr_2, va_twice, rfl, hK, hS, hM⟩

def audit_Audit_Clear_W (a_seen : List ((Int × Int × Int × Int) × Int)) (a_twice : List (Int × Int × Int × Int × Str)) (a_all : Int) (Q : Int → (List ((Int × Int × Int × Int) × Int)) → Int → Prop) : Prop :=
  Q a_all [] 0
set_option maxHeartbeats 40000000 in
set_option maxRecDepth 100000 in
theorem audit_Audit_Clear_walk {F : Fz} {fr : List Ow} {h0 : Heap} (a_seen : List ((Int × Int × Int × Int) × Int)) (a_twice : List (Int × Int × Int × Int × Str)) (a_all : Int) (ba : Nat) (ra_seen : Nat) (va_twice : Value) (hS : St F (Ow.box ba 151 #[.map (some ra_seen), va_twice, .int .i64 a_all] :: Ow.map ra_seen (fun (x : Int × Int × Int × Int) => .agg #[.int .i64 x.1, .int .i64 x.2.1, .int .i64 x.2.2.1, .int .i64 x.2.2.2]) kI a_seen :: Ow.own 112 5 e_api_Given va_twice a_twice :: fr) h0)  {Q : Int → (List ((Int × Int × Int × Int) × Int)) → Int → Prop} (hM : audit_Audit_Clear_W a_seen a_twice a_all Q) :
    HC Try.prog 91 #[.pointer (some ⟨ba, 0, none⟩)] h0 fun u h' => ∃ (F' : Fz) (r_1 : Int) (am_1 : List ((Int × Int × Int × Int) × Int)) (a_all_1 : Int), u = .int .i64 r_1 ∧ Kp F h0 F' h' ∧ St F' (Ow.box ba 151 #[.map (some ra_seen), .slice none 0 0, .int .i64 a_all_1] :: Ow.map ra_seen (fun (x : Int × Int × Int × Int) => .agg #[.int .i64 x.1, .int .i64 x.2.1, .int .i64 x.2.2.1, .int .i64 x.2.2.2]) kI am_1 :: fr) h' ∧ Q r_1 am_1 a_all_1 := by
  unfold audit_Audit_Clear_W at hM
  have hK := Kp.refl F h0
  refine HC.of_HW (n := 21) Try.func91 rfl rfl (Nat.le_of_ble_eq_true rfl) ?_
  refine HW.seq ?_
  refine HW.region ?_
  refine HO.val (v := .int .i64 0) (want_none) rfl (q_assign rfl) ?_
  refine HO.nil (thenQ_normal (?_))
  refine HW.seq ?_
  refine HW.seq ?_
  refine HW.region ?_
  refine HO.val (v := .pointer (some ⟨ba, 0, none⟩)) (want_none) rfl (q_move rfl) ?_
  refine HO.val (v := .bool false) (want_none) rfl (q_eqlPnil Try.underlying103 rfl rfl rfl) ?_
  refine HO.nil (thenQ_normal (?_))
  refine HW.condF rfl ?_
  refine HW.skip (thenQ_normal (?_))
  refine HW.seq ?_
  refine HW.region ?_
  refine HO.val (v := .pointer (some ⟨ba, 0, none⟩)) (want_none) rfl (q_move rfl) ?_
  refine HO.val (v := .pointer (some ⟨ba, 0, none⟩)) (want_none) rfl (q_nilCheck rfl) ?_
  refine HO.val (v := .pointer (some ⟨ba, 2, none⟩)) (want_none) rfl (q_fieldAddr fa_151_2 rfl rfl) ?_
  refine HO.val (v := .int .i64 a_all) (want_none) rfl (q_load to_3 rfl (Blk.cell (hS.box 0 rfl) rfl)) ?_
  refine HO.val (v := .int .i64 a_all) (want_none) rfl (q_assign rfl) ?_
  refine HO.nil (thenQ_normal (?_))
  refine HW.seq ?_
  refine HW.region ?_
  refine HO.val (v := .pointer (some ⟨ba, 0, none⟩)) (want_none) rfl (q_move rfl) ?_
  refine HO.val (v := .pointer (some ⟨ba, 0, none⟩)) (want_none) rfl (q_nilCheck rfl) ?_
  refine HO.val (v := .pointer (some ⟨ba, 0, none⟩)) (want_none) rfl (q_fieldAddr fa_151_0 rfl rfl) ?_
  refine HO.val (v := .map (some ra_seen)) (want_none) rfl (q_load to_149 rfl (Blk.cell (hS.box 0 rfl) rfl)) ?_
  refine HO.eff (want_none) rfl (st_clear hS (i := 1) rfl Try.underlying149 rfl rfl) ?_
  rintro _ h_1 ⟨rfl, hS, hk⟩
  replace hS : St F (Ow.box ba 151 #[.map (some ra_seen), va_twice, .int .i64 a_all] :: Ow.map ra_seen (fun (x : Int × Int × Int × Int) => .agg #[.int .i64 x.1, .int .i64 x.2.1, .int .i64 x.2.2.1, .int .i64 x.2.2.2]) kI ([] : List ((Int × Int × Int × Int) × Int)) :: Ow.own 112 5 e_api_Given va_twice a_twice :: fr) h_1 := hS
  replace hK := hK.trans hk
  refine HO.nil (thenQ_normal (?_))
  refine HW.seq ?_
  refine HW.region ?_
  refine HO.val (v := .pointer (some ⟨ba, 0, none⟩)) (want_none) rfl (q_move rfl) ?_
  refine HO.val (v := .pointer (some ⟨ba, 0, none⟩)) (want_none) rfl (q_move rfl) ?_
  refine HO.val (v := .pointer (some ⟨ba, 0, none⟩)) (want_none) rfl (q_nilCheck rfl) ?_
  refine HO.val (v := .pointer (some ⟨ba, 1, none⟩)) (want_none) rfl (q_fieldAddr fa_151_1 rfl rfl) ?_
  refine HO.sto (want_none) rfl (st_store (c' := #[.map (some ra_seen), .slice none 0 0, .int .i64 a_all]) hS (i := 0) rfl to_97 rfl rfl rfl rfl (Nat.le_of_ble_eq_true rfl) rfl) ?_
  rintro h_2 ⟨hS, hk⟩
  replace hS : St F (Ow.box ba 151 #[.map (some ra_seen), .slice none 0 0, .int .i64 a_all] :: Ow.map ra_seen (fun (x : Int × Int × Int × Int) => .agg #[.int .i64 x.1, .int .i64 x.2.1, .int .i64 x.2.2.1, .int .i64 x.2.2.2]) kI ([] : List ((Int × Int × Int × Int) × Int)) :: Ow.own 112 5 e_api_Given va_twice a_twice :: fr) h_2 := hS
  replace hK := hK.trans hk
  refine HO.val (v := .pointer (some ⟨ba, 0, none⟩)) (want_none) rfl (q_nilCheck rfl) ?_
  refine HO.val (v := .pointer (some ⟨ba, 2, none⟩)) (want_none) rfl (q_fieldAddr fa_151_2 rfl rfl) ?_
  refine HO.sto (want_none) rfl (st_store (c' := #[.map (some ra_seen), .slice none 0 0, .int .i64 0]) hS (i := 0) rfl to_3 rfl rfl rfl rfl (Nat.le_of_ble_eq_true rfl) rfl) ?_
  rintro h_3 ⟨hS, hk⟩
  replace hS : St F (Ow.box ba 151 #[.map (some ra_seen), .slice none 0 0, .int .i64 0] :: Ow.map ra_seen (fun (x : Int × Int × Int × Int) => .agg #[.int .i64 x.1, .int .i64 x.2.1, .int .i64 x.2.2.1, .int .i64 x.2.2.2]) kI ([] : List ((Int × Int × Int × Int) × Int)) :: Ow.own 112 5 e_api_Given va_twice a_twice :: fr) h_3 := hS
  replace hK := hK.trans hk
  refine HO.nil (thenQ_normal (?_))
  refine HW.seq ?_
  refine HW.region ?_
  refine HO.val (v := .int .i64 a_all) (want_none) rfl (q_move rfl) ?_
  refine HO.val (v := .int .i64 a_all) (want_none) rfl (q_assign rfl) ?_
  refine HO.nil (thenQ_normal (?_))
  refine HW.ret (?_)
  refine ⟨.inr rfl, .int .i64 a_all, res1 rfl (rt rfl), ?_⟩
  replace hS : St F (Ow.box ba 151 #[.map (some ra_seen), .slice none 0 0, .int .i64 0] :: Ow.map ra_seen (fun (x : Int × Int × Int × Int) => .agg #[.int .i64 x.1, .int .i64 x.2.1, .int .i64 x.2.2.1, .int .i64 x.2.2.2]) kI ([] : List ((Int × Int × Int × Int) × Int)) :: fr) h_3 := St.perm (front := [Ow.box ba 151 #[.map (some ra_seen), .slice none 0 0, .int .i64 0], Ow.map ra_seen (fun (x : Int × Int × Int × Int) => .agg #[.int .i64 x.1, .int .i64 x.2.1, .int .i64 x.2.2.1, .int .i64 x.2.2.2]) kI ([] : List ((Int × Int × Int × Int) × Int)), Ow.own 112 5 e_api_Given va_twice a_twice]) (fr := fr) hS [0, 1] 3 rfl (by decide) [Ow.box ba 151 #[.map (some ra_seen), .slice none 0 0, .int .i64 0], Ow.map ra_seen (fun (x : Int × Int × Int × Int) => .agg #[.int .i64 x.1, .int .i64 x.2.1, .int .i64 x.2.2.1, .int .i64 x.2.2.2]) kI ([] : List ((Int × Int × Int × Int) × Int))] rfl
  exact ⟨F, a_all, [], 0, rfl, hK, hS, hM⟩

def audit_New_W (Q : Prop) : Prop :=
  Q
set_option maxHeartbeats 40000000 in
set_option maxRecDepth 100000 in
theorem audit_New_walk {F : Fz} {fr : List Ow} {h0 : Heap}  (hS : St F (fr) h0)  {Q : Prop} (hM : audit_New_W Q) :
    HC Try.prog 71 #[] h0 fun u h' => ∃ (F' : Fz) (b_1 : Nat) (r_1 : Nat), u = .pointer (some ⟨b_1, 0, none⟩) ∧ Kp F h0 F' h' ∧ St F' (Ow.box b_1 151 #[.map (some r_1), .slice none 0 0, .int .i64 0] :: Ow.map r_1 (fun (x : Int × Int × Int × Int) => .agg #[.int .i64 x.1, .int .i64 x.2.1, .int .i64 x.2.2.1, .int .i64 x.2.2.2]) kI ([] : List ((Int × Int × Int × Int) × Int)) :: fr) h' ∧ Q := by
  unfold audit_New_W at hM
  have hK := Kp.refl F h0
  refine HC.of_HW (n := 4) Try.func71 rfl rfl (Nat.le_of_ble_eq_true rfl) ?_
  refine HW.seq ?_
  refine HW.region ?_
  refine HO.val (v := .pointer none) (want_none) rfl (q_assign rfl) ?_
  refine HO.nil (thenQ_normal (?_))
  refine HW.seq ?_
  refine HW.region ?_
  refine HO.eff (want_none) rfl (st_makeMap (κ := Int × Int × Int × Int) (ν := Int) (fun (x : Int × Int × Int × Int) => .agg #[.int .i64 x.1, .int .i64 x.2.1, .int .i64 x.2.2.1, .int .i64 x.2.2.2]) kI hS) ?_
  rintro _ h_1 ⟨r_2, rfl, hS, hk⟩
  replace hK := hK.trans hk
  refine HO.val (v := .agg #[.map (some r_2), .slice none 0 0, .int .i64 0]) (want_none) rfl (q_build tp_151 rfl) ?_
  refine HO.eff (want_none) rfl (st_box (c := #[.map (some r_2), .slice none 0 0, .int .i64 0]) (k' := 3) hS rfl rfl) ?_
  rintro _ h_2 ⟨b_2, rfl, hS, hk⟩
  replace hK := hK.trans hk
  refine HO.val (v := .pointer (some ⟨b_2, 0, none⟩)) (want_none) rfl (q_assign rfl) ?_
  refine HO.nil (thenQ_normal (?_))
  refine HW.ret (?_)
  refine ⟨.inr rfl, .pointer (some ⟨b_2, 0, none⟩), res1 rfl (rt rfl), ?_⟩
  exact ⟨F, b_2, r_2, rfl, hK, hS, hM⟩

def law44_lives_W (Q : Bool → Prop) : Prop :=
  audit_New_W  (audit_Audit_Add_W [] [] 0 ([(1, 2, 5, 0, []), (1, 2, 5, 0, [120]), (0, 3, 0, 0, [])] : List (Int × Int × Int × Int × Str)) (fun r_3 am_1 a_twice_1 a_all_1 => audit_Audit_Twice_W am_1 a_twice_1 a_all_1 (fun r_4 am_2 a_twice_2 a_all_2 => (r_3 = 2 → ((r_4.length : Int) = 1 → ((0 : Int) ≤ 0 ∧ 0 < (r_4.length : Int)) ∧ ((((gi r_4 0).2.2.2.2 : Str) = [120] → audit_Audit_Count_W am_2 a_twice_2 a_all_2 1 5 (2, 0) (fun r_5 am_3 a_twice_3 a_all_3 => Q (decide (r_5 = 2)))) ∧ (¬ (((gi r_4 0).2.2.2.2 : Str) = [120]) → Q false))) ∧ (¬ ((r_4.length : Int) = 1) → Q false)) ∧ (¬ (r_3 = 2) → Q false))))
set_option maxHeartbeats 40000000 in
set_option maxRecDepth 100000 in
theorem law44_lives_walk {F : Fz} {fr : List Ow} {h0 : Heap}  (hS : St F (fr) h0)  {Q : Bool → Prop} (hM : law44_lives_W Q) :
    HC Try.prog 80 #[] h0 fun u h' => ∃ (F' : Fz) (r_1 : Bool), u = .bool r_1 ∧ Kp F h0 F' h' ∧ St F' (fr) h' ∧ Q r_1 := by
  unfold law44_lives_W at hM
  have hK := Kp.refl F h0
  refine HC.of_HW (n := 33) Try.func80 rfl rfl (Nat.le_of_ble_eq_true rfl) ?_
  refine HW.seq ?_
  refine HW.region ?_
  refine HO.val (v := .bool false) (want_none) rfl (q_assign rfl) ?_
  refine HO.nil (thenQ_normal (?_))
  refine HW.seq ?_
  refine HW.region ?_
  refine HO.call (want_none) rfl (ec en_71 rfl rfl) (audit_New_walk (fr := (fr))  hS hM) ?_
  rintro _ h_1 ⟨F_1, b_1, r_2, rfl, hk, hS, hM⟩
  replace hK := hK.trans hk
  refine HO.val (v := .pointer (some ⟨b_1, 0, none⟩)) (want_none) rfl (q_assign rfl) ?_
  refine HO.nil (thenQ_normal (?_))
  refine HW.seq ?_
  refine HW.region ?_
  refine HO.val (v := .pointer (some ⟨b_1, 0, none⟩)) (want_none) rfl (q_move rfl) ?_
  refine HO.val (v := .agg #[.int .i64 1, .int .i64 2, .int .i64 5, .int .i64 0, .string (bs [])]) (want_none) rfl (q_build tp_112 rfl) ?_
  refine HO.val (v := .agg #[.int .i64 1, .int .i64 2, .int .i64 5, .int .i64 0, .string (bs [120])]) (want_none) rfl (q_build tp_112 rfl) ?_
  refine HO.val (v := .agg #[.int .i64 0, .int .i64 3, .int .i64 0, .int .i64 0, .string (bs [])]) (want_none) rfl (q_build tp_112 rfl) ?_
  refine HO.eff (want_none) rfl (st_lit (enc := e_api_Given) (cells := #[.int .i64 1, .int .i64 2, .int .i64 5, .int .i64 0, .string (bs []), .int .i64 1, .int .i64 2, .int .i64 5, .int .i64 0, .string (bs [120]), .int .i64 0, .int .i64 3, .int .i64 0, .int .i64 0, .string (bs [])]) #[.int .i64 0, .int .i64 0, .int .i64 0, .int .i64 0, .string (bs []), .int .i64 0, .int .i64 0, .int .i64 0, .int .i64 0, .string (bs []), .int .i64 0, .int .i64 0, .int .i64 0, .int .i64 0, .string (bs [])] ([(1, 2, 5, 0, []), (1, 2, 5, 0, [120]), (0, 3, 0, 0, [])] : List (Int × Int × Int × Int × Str)) hS tl_97 (by decide) (by decide) (by kernel_rfl) (by kernel_rfl) rfl (by intro x hx; rfl) rfl) ?_
  rintro _ h_2 ⟨b_2, rfl, hS, hk⟩
  replace hK := hK.trans hk
  have hZ_1 := hS
  have hkz_1 := (hS.freeze).2
  replace hS := hS.freeze.1
  have hL_1 : SliceF (fun b => F_1 b ∨ (Ow.own 112 5 e_api_Given (.slice (some ⟨b_2, 0, none⟩) 3 3) ([(1, 2, 5, 0, []), (1, 2, 5, 0, [120]), (0, 3, 0, 0, [])] : List (Int × Int × Int × Int × Str))).foot b) h_2 5 e_api_Given (.slice (some ⟨b_2, 0, none⟩) 3 3) ([(1, 2, 5, 0, []), (1, 2, 5, 0, [120]), (0, 3, 0, 0, [])] : List (Int × Int × Int × Int × Str)) := ⟨(hZ_1.own 0 rfl).slice, fun _ b hb => .inr hb⟩
  replace hS := hS.nilOwn 112 5 e_api_Given
  replace hS : St (fun b => F_1 b ∨ (Ow.own 112 5 e_api_Given (.slice (some ⟨b_2, 0, none⟩) 3 3) ([(1, 2, 5, 0, []), (1, 2, 5, 0, [120]), (0, 3, 0, 0, [])] : List (Int × Int × Int × Int × Str))).foot b) (Ow.box b_1 151 #[.map (some r_2), .slice none 0 0, .int .i64 0] :: Ow.map r_2 (fun (x : Int × Int × Int × Int) => .agg #[.int .i64 x.1, .int .i64 x.2.1, .int .i64 x.2.2.1, .int .i64 x.2.2.2]) kI ([] : List ((Int × Int × Int × Int) × Int)) :: Ow.own 112 5 e_api_Given (.slice none 0 0) ([] : List (Int × Int × Int × Int × Str)) :: fr) h_2 := St.perm (front := [Ow.own 112 5 e_api_Given (.slice none 0 0) ([] : List (Int × Int × Int × Int × Str)), Ow.box b_1 151 #[.map (some r_2), .slice none 0 0, .int .i64 0], Ow.map r_2 (fun (x : Int × Int × Int × Int) => .agg #[.int .i64 x.1, .int .i64 x.2.1, .int .i64 x.2.2.1, .int .i64 x.2.2.2]) kI ([] : List ((Int × Int × Int × Int) × Int))]) (fr := fr) hS [1, 2, 0] 3 rfl (by decide) [Ow.box b_1 151 #[.map (some r_2), .slice none 0 0, .int .i64 0], Ow.map r_2 (fun (x : Int × Int × Int × Int) => .agg #[.int .i64 x.1, .int .i64 x.2.1, .int .i64 x.2.2.1, .int .i64 x.2.2.2]) kI ([] : List ((Int × Int × Int × Int) × Int)), Ow.own 112 5 e_api_Given (.slice none 0 0) ([] : List (Int × Int × Int × Int × Str))] rfl
  refine HO.call (want_none) rfl (ec en_74 rfl rfl) (audit_Audit_Add_walk (fr := (fr)) [] [] 0 ([(1, 2, 5, 0, []), (1, 2, 5, 0, [120]), (0, 3, 0, 0, [])] : List (Int × Int × Int × Int × Str)) b_1 r_2 (.slice none 0 0) (.slice (some ⟨b_2, 0, none⟩) 3 3) hS hL_1 hM) ?_
  rintro _ h_3 ⟨F_2, r_3, am_1, a_twice_1, a_all_1, v_1, rfl, hk, hS, _, hM⟩
  obtain ⟨hS, hk⟩ := hZ_1.back hk hS
  generalize (fun b => F_2 b ∧ ¬ (Ow.own 112 5 e_api_Given (.slice (some ⟨b_2, 0, none⟩) 3 3) ([(1, 2, 5, 0, []), (1, 2, 5, 0, [120]), (0, 3, 0, 0, [])] : List (Int × Int × Int × Int × Str))).foot b) = F_3 at hS hk
  replace hK := hK.trans hk
  refine HO.val (v := .int .i64 r_3) (want_none) rfl (q_assign rfl) ?_
  refine HO.nil (thenQ_normal (?_))
  refine HW.seq ?_
  refine HW.region ?_
  refine HO.val (v := .pointer (some ⟨b_1, 0, none⟩)) (want_none) rfl (q_move rfl) ?_
  replace hS : St F_3 (Ow.box b_1 151 #[.map (some r_2), v_1, .int .i64 a_all_1] :: Ow.map r_2 (fun (x : Int × Int × Int × Int) => .agg #[.int .i64 x.1, .int .i64 x.2.1, .int .i64 x.2.2.1, .int .i64 x.2.2.2]) kI am_1 :: Ow.own 112 5 e_api_Given v_1 a_twice_1 :: Ow.own 112 5 e_api_Given (.slice (some ⟨b_2, 0, none⟩) 3 3) ([(1, 2, 5, 0, []), (1, 2, 5, 0, [120]), (0, 3, 0, 0, [])] : List (Int × Int × Int × Int × Str)) :: fr) h_3 := St.perm (front := [Ow.own 112 5 e_api_Given (.slice (some ⟨b_2, 0, none⟩) 3 3) ([(1, 2, 5, 0, []), (1, 2, 5, 0, [120]), (0, 3, 0, 0, [])] : List (Int × Int × Int × Int × Str)), Ow.box b_1 151 #[.map (some r_2), v_1, .int .i64 a_all_1], Ow.map r_2 (fun (x : Int × Int × Int × Int) => .agg #[.int .i64 x.1, .int .i64 x.2.1, .int .i64 x.2.2.1, .int .i64 x.2.2.2]) kI am_1, Ow.own 112 5 e_api_Given v_1 a_twice_1]) (fr := fr) hS [1, 2, 3, 0] 4 rfl (by decide) [Ow.box b_1 151 #[.map (some r_2), v_1, .int .i64 a_all_1], Ow.map r_2 (fun (x : Int × Int × Int × Int) => .agg #[.int .i64 x.1, .int .i64 x.2.1, .int .i64 x.2.2.1, .int .i64 x.2.2.2]) kI am_1, Ow.own 112 5 e_api_Given v_1 a_twice_1, Ow.own 112 5 e_api_Given (.slice (some ⟨b_2, 0, none⟩) 3 3) ([(1, 2, 5, 0, []), (1, 2, 5, 0, [120]), (0, 3, 0, 0, [])] : List (Int × Int × Int × Int × Str))] rfl
  refine HO.call (want_none) rfl (ec en_77 rfl rfl) (audit_Audit_Twice_walk (fr := (Ow.own 112 5 e_api_Given (.slice (some ⟨b_2, 0, none⟩) 3 3) ([(1, 2, 5, 0, []), (1, 2, 5, 0, [120]), (0, 3, 0, 0, [])] : List (Int × Int × Int × Int × Str)) :: fr)) am_1 a_twice_1 a_all_1 b_1 r_2 v_1 hS hM) ?_
  rintro vr_1 h_4 ⟨F_4, r_4, am_2, a_twice_2, a_all_2, _, v_2, rfl, hk, hS, hM⟩
  replace hK := hK.trans hk
  refine HO.val (v := vr_1) (want_none) rfl (q_assign rfl) ?_
  refine HO.nil (thenQ_normal (?_))
  refine HW.seq ?_
  refine HW.region ?_
  refine HO.val (v := .int .i64 r_3) (want_none) rfl (q_move rfl) ?_
  refine HO.val (v := .bool (decide (r_3 = 2))) (want_none) rfl (q_eql rfl rfl) ?_
  refine HO.val (v := .bool (decide (r_3 = 2))) (want_none) rfl (q_move rfl) ?_
  rcases Bool.eq_false_or_eq_true (decide (r_3 = 2)) with c_1 | c_1
  · replace hM := hM.1 (of_decide_eq_true c_1)
    refine HO.val (v := vr_1) (want_by rfl rfl c_1) rfl (q_move rfl) ?_
    refine HO.val (v := .int .i64 (r_4.length : Int)) (want_by rfl rfl c_1) rfl (q_len ts_97 (shp (hS.own 0 rfl).slice) rfl rfl) ?_
    refine HO.val (v := .bool (decide ((r_4.length : Int) = 1))) (want_by rfl rfl c_1) rfl (q_eql rfl rfl) ?_
    refine HO.val (v := .bool (decide ((r_4.length : Int) = 1))) (want_none) rfl (q_pickK true rfl c_1 rfl) ?_
    refine HO.val (v := .bool (decide ((r_4.length : Int) = 1))) (want_none) rfl (q_move rfl) ?_
    rcases Bool.eq_false_or_eq_true (decide ((r_4.length : Int) = 1)) with c_2 | c_2
    · replace hM := hM.1 (of_decide_eq_true c_2)
      refine HO.val (v := vr_1) (want_by rfl rfl c_2) rfl (q_move rfl) ?_
      obtain ⟨ho_1, hM⟩ := hM
      refine HO.val (v := elemPtr 5 vr_1 (0 : Int).toNat) (want_by rfl rfl c_2) rfl (q_idx ts_97 (hS.own 0 rfl).slice rfl rfl ho_1) ?_
      refine HO.val (v := fieldPtr 5 vr_1 (0 : Int).toNat 4) (want_by rfl rfl c_2) rfl (q_fldElem fa_112_4 (hS.own 0 rfl).slice rfl ho_1) ?_
      refine HO.val (v := .string (bs ((gi r_4 0).2.2.2.2))) (want_by rfl rfl c_2) rfl (q_ldField to_9 (hS.own 0 rfl).slice rfl ho_1 (by decide) rfl) ?_
      refine HO.val (v := .bool (decide (((gi r_4 0).2.2.2.2 : Str) = [120]))) (want_by rfl rfl c_2) rfl (q_eqlT rfl rfl) ?_
      refine HO.val (v := .bool (decide (((gi r_4 0).2.2.2.2 : Str) = [120]))) (want_none) rfl (q_pickK true rfl c_2 rfl) ?_
      refine HO.val (v := .bool (decide (((gi r_4 0).2.2.2.2 : Str) = [120]))) (want_none) rfl (q_move rfl) ?_
      rcases Bool.eq_false_or_eq_true (decide (((gi r_4 0).2.2.2.2 : Str) = [120])) with c_3 | c_3
      · replace hM := hM.1 (of_decide_eq_true c_3)
        refine HO.val (v := .pointer (some ⟨b_1, 0, none⟩)) (want_by rfl rfl c_3) rfl (q_move rfl) ?_
        refine HO.val (v := .agg #[.int .i64 2, .int .i64 0]) (want_by rfl rfl c_3) rfl (q_build tp_100 rfl) ?_
        replace hS : St F_4 (Ow.box b_1 151 #[.map (some r_2), v_2, .int .i64 a_all_2] :: Ow.map r_2 (fun (x : Int × Int × Int × Int) => .agg #[.int .i64 x.1, .int .i64 x.2.1, .int .i64 x.2.2.1, .int .i64 x.2.2.2]) kI am_2 :: Ow.own 112 5 e_api_Given v_2 a_twice_2 :: Ow.own 112 5 e_api_Given vr_1 r_4 :: Ow.own 112 5 e_api_Given (.slice (some ⟨b_2, 0, none⟩) 3 3) ([(1, 2, 5, 0, []), (1, 2, 5, 0, [120]), (0, 3, 0, 0, [])] : List (Int × Int × Int × Int × Str)) :: fr) h_4 := St.perm (front := [Ow.own 112 5 e_api_Given vr_1 r_4, Ow.box b_1 151 #[.map (some r_2), v_2, .int .i64 a_all_2], Ow.map r_2 (fun (x : Int × Int × Int × Int) => .agg #[.int .i64 x.1, .int .i64 x.2.1, .int .i64 x.2.2.1, .int .i64 x.2.2.2]) kI am_2, Ow.own 112 5 e_api_Given v_2 a_twice_2, Ow.own 112 5 e_api_Given (.slice (some ⟨b_2, 0, none⟩) 3 3) ([(1, 2, 5, 0, []), (1, 2, 5, 0, [120]), (0, 3, 0, 0, [])] : List (Int × Int × Int × Int × Str))]) (fr := fr) hS [1, 2, 3, 0, 4] 5 rfl (by decide) [Ow.box b_1 151 #[.map (some r_2), v_2, .int .i64 a_all_2], Ow.map r_2 (fun (x : Int × Int × Int × Int) => .agg #[.int .i64 x.1, .int .i64 x.2.1, .int .i64 x.2.2.1, .int .i64 x.2.2.2]) kI am_2, Ow.own 112 5 e_api_Given v_2 a_twice_2, Ow.own 112 5 e_api_Given vr_1 r_4, Ow.own 112 5 e_api_Given (.slice (some ⟨b_2, 0, none⟩) 3 3) ([(1, 2, 5, 0, []), (1, 2, 5, 0, [120]), (0, 3, 0, 0, [])] : List (Int × Int × Int × Int × Str))] rfl
        refine HO.call (want_by rfl rfl c_3) rfl (ec en_88 rfl rfl) (audit_Audit_Count_walk (fr := (Ow.own 112 5 e_api_Given vr_1 r_4 :: Ow.own 112 5 e_api_Given (.slice (some ⟨b_2, 0, none⟩) 3 3) ([(1, 2, 5, 0, []), (1, 2, 5, 0, [120]), (0, 3, 0, 0, [])] : List (Int × Int × Int × Int × Str)) :: fr)) am_2 a_twice_2 a_all_2 1 5 (2, 0) b_1 r_2 v_2 hS hM) ?_
        rintro _ h_5 ⟨F_5, r_5, am_3, a_twice_3, a_all_3, v_3, rfl, hk, hS, hM⟩
        replace hK := hK.trans hk
        refine HO.val (v := .bool (decide (r_5 = 2))) (want_by rfl rfl c_3) rfl (q_eql rfl rfl) ?_
        refine HO.val (v := .bool (decide (r_5 = 2))) (want_none) rfl (q_pickK true rfl c_3 rfl) ?_
        refine HO.val (v := .bool (decide (r_5 = 2))) (want_none) rfl (q_assign rfl) ?_
        refine HO.nil (thenQ_normal (?_))
        refine HW.ret (?_)
        refine ⟨.inr rfl, .bool (decide (r_5 = 2)), res1 rfl (rt rfl), ?_⟩
        replace hS : St F_5 (fr) h_5 := St.perm (front := [Ow.box b_1 151 #[.map (some r_2), v_3, .int .i64 a_all_3], Ow.map r_2 (fun (x : Int × Int × Int × Int) => .agg #[.int .i64 x.1, .int .i64 x.2.1, .int .i64 x.2.2.1, .int .i64 x.2.2.2]) kI am_3, Ow.own 112 5 e_api_Given v_3 a_twice_3, Ow.own 112 5 e_api_Given vr_1 r_4, Ow.own 112 5 e_api_Given (.slice (some ⟨b_2, 0, none⟩) 3 3) ([(1, 2, 5, 0, []), (1, 2, 5, 0, [120]), (0, 3, 0, 0, [])] : List (Int × Int × Int × Int × Str))]) (fr := fr) hS [] 5 rfl (by decide) [] rfl
        exact ⟨F_5, decide (r_5 = 2), rfl, hK, hS, hM⟩
      · replace hM := hM.2 (of_decide_eq_false c_3)
        refine HO.past (past_by rfl rfl c_3) rfl ?_
        refine HO.past (past_by rfl rfl c_3) rfl ?_
        refine HO.past (past_by rfl rfl c_3) rfl ?_
        refine HO.past (past_by rfl rfl c_3) rfl ?_
        refine HO.val (v := .bool false) (want_none) rfl (q_pickK false rfl c_3 rfl) ?_
        refine HO.val (v := .bool false) (want_none) rfl (q_assign rfl) ?_
        refine HO.nil (thenQ_normal (?_))
        refine HW.ret (?_)
        refine ⟨.inr rfl, .bool false, res1 rfl (rt rfl), ?_⟩
        replace hS : St F_4 (fr) h_4 := St.perm (front := [Ow.own 112 5 e_api_Given vr_1 r_4, Ow.box b_1 151 #[.map (some r_2), v_2, .int .i64 a_all_2], Ow.map r_2 (fun (x : Int × Int × Int × Int) => .agg #[.int .i64 x.1, .int .i64 x.2.1, .int .i64 x.2.2.1, .int .i64 x.2.2.2]) kI am_2, Ow.own 112 5 e_api_Given v_2 a_twice_2, Ow.own 112 5 e_api_Given (.slice (some ⟨b_2, 0, none⟩) 3 3) ([(1, 2, 5, 0, []), (1, 2, 5, 0, [120]), (0, 3, 0, 0, [])] : List (Int × Int × Int × Int × Str))]) (fr := fr) hS [] 5 rfl (by decide) [] rfl
        exact ⟨F_4, false, rfl, hK, hS, hM⟩
    · replace hM := hM.2 (of_decide_eq_false c_2)
      refine HO.past (past_by rfl rfl c_2) rfl ?_
      refine HO.past (past_by rfl rfl c_2) rfl ?_
      refine HO.past (past_by rfl rfl c_2) rfl ?_
      refine HO.past (past_by rfl rfl c_2) rfl ?_
      refine HO.past (past_by rfl rfl c_2) rfl ?_
      refine HO.val (v := .bool false) (want_none) rfl (q_pickK false rfl c_2 rfl) ?_
      refine HO.val (v := .bool false) (want_none) rfl (q_move rfl) ?_
      refine HO.past (past_some rfl rfl) rfl ?_
      refine HO.past (past_some rfl rfl) rfl ?_
      refine HO.past (past_some rfl rfl) rfl ?_
      refine HO.past (past_some rfl rfl) rfl ?_
      refine HO.val (v := .bool false) (want_none) rfl (q_pick rfl rfl) ?_
      refine HO.val (v := .bool false) (want_none) rfl (q_assign rfl) ?_
      refine HO.nil (thenQ_normal (?_))
      refine HW.ret (?_)
      refine ⟨.inr rfl, .bool false, res1 rfl (rt rfl), ?_⟩
      replace hS : St F_4 (fr) h_4 := St.perm (front := [Ow.own 112 5 e_api_Given vr_1 r_4, Ow.box b_1 151 #[.map (some r_2), v_2, .int .i64 a_all_2], Ow.map r_2 (fun (x : Int × Int × Int × Int) => .agg #[.int .i64 x.1, .int .i64 x.2.1, .int .i64 x.2.2.1, .int .i64 x.2.2.2]) kI am_2, Ow.own 112 5 e_api_Given v_2 a_twice_2, Ow.own 112 5 e_api_Given (.slice (some ⟨b_2, 0, none⟩) 3 3) ([(1, 2, 5, 0, []), (1, 2, 5, 0, [120]), (0, 3, 0, 0, [])] : List (Int × Int × Int × Int × Str))]) (fr := fr) hS [] 5 rfl (by decide) [] rfl
      exact ⟨F_4, false, rfl, hK, hS, hM⟩
  · replace hM := hM.2 (of_decide_eq_false c_1)
    refine HO.past (past_by rfl rfl c_1) rfl ?_
    refine HO.past (past_by rfl rfl c_1) rfl ?_
    refine HO.past (past_by rfl rfl c_1) rfl ?_
    refine HO.val (v := .bool false) (want_none) rfl (q_pickK false rfl c_1 rfl) ?_
    refine HO.val (v := .bool false) (want_none) rfl (q_move rfl) ?_
    refine HO.past (past_some rfl rfl) rfl ?_
    refine HO.past (past_some rfl rfl) rfl ?_
    refine HO.past (past_some rfl rfl) rfl ?_
    refine HO.past (past_some rfl rfl) rfl ?_
    refine HO.past (past_some rfl rfl) rfl ?_
    refine HO.val (v := .bool false) (want_none) rfl (q_pick rfl rfl) ?_
    refine HO.val (v := .bool false) (want_none) rfl (q_move rfl) ?_
    refine HO.past (past_some rfl rfl) rfl ?_
    refine HO.past (past_some rfl rfl) rfl ?_
    refine HO.past (past_some rfl rfl) rfl ?_
    refine HO.past (past_some rfl rfl) rfl ?_
    refine HO.val (v := .bool false) (want_none) rfl (q_pick rfl rfl) ?_
    refine HO.val (v := .bool false) (want_none) rfl (q_assign rfl) ?_
    refine HO.nil (thenQ_normal (?_))
    refine HW.ret (?_)
    refine ⟨.inr rfl, .bool false, res1 rfl (rt rfl), ?_⟩
    replace hS : St F_4 (fr) h_4 := St.perm (front := [Ow.own 112 5 e_api_Given vr_1 r_4, Ow.box b_1 151 #[.map (some r_2), v_2, .int .i64 a_all_2], Ow.map r_2 (fun (x : Int × Int × Int × Int) => .agg #[.int .i64 x.1, .int .i64 x.2.1, .int .i64 x.2.2.1, .int .i64 x.2.2.2]) kI am_2, Ow.own 112 5 e_api_Given v_2 a_twice_2, Ow.own 112 5 e_api_Given (.slice (some ⟨b_2, 0, none⟩) 3 3) ([(1, 2, 5, 0, []), (1, 2, 5, 0, [120]), (0, 3, 0, 0, [])] : List (Int × Int × Int × Int × Str))]) (fr := fr) hS [] 5 rfl (by decide) [] rfl
    exact ⟨F_4, false, rfl, hK, hS, hM⟩

def audit_Audit_Held_nil0_W (id : Int) (vlan : Int) (want : List (Int × Int)) (but : Int × Int) (Q : (List (Int × Int)) → (List (Int × Int)) → Prop) : Prop :=
  Q [] []
set_option maxHeartbeats 40000000 in
set_option maxRecDepth 100000 in
theorem audit_Audit_Held_nil0_walk {F : Fz} {fr : List Ow} {h0 : Heap} (id : Int) (vlan : Int) (want : List (Int × Int)) (but : Int × Int) (vwant : Value) (hS : St F (fr) h0) (hL_want : SliceF F h0 2 e_api_Spot vwant want) {Q : (List (Int × Int)) → (List (Int × Int)) → Prop} (hM : audit_Audit_Held_nil0_W id vlan want but Q) :
    HC Try.prog 75 #[.pointer none, .int .i64 id, .int .i64 vlan, vwant, .agg #[.int .i64 but.1, .int .i64 but.2]] h0 fun u h' => ∃ (F' : Fz) (r0_1 : List (Int × Int)) (r1_1 : List (Int × Int)) (vr0_1 : Value) (vr1_1 : Value), u = .tuple #[vr0_1, vr1_1] ∧ Kp F h0 F' h' ∧ St F' (Ow.own 100 2 e_api_Spot vr0_1 r0_1 :: Ow.own 100 2 e_api_Spot vr1_1 r1_1 :: fr) h' ∧ (SliceF F' h' 2 e_api_Spot vwant want) ∧ Q r0_1 r1_1 := by
  unfold audit_Audit_Held_nil0_W at hM
  have hK := Kp.refl F h0
  refine HC.of_HW (n := 86) Try.func75 rfl rfl (Nat.le_of_ble_eq_true rfl) ?_
  refine HW.seq ?_
  refine HW.region ?_
  refine HO.eff (want_none) rfl (st_box (c := #[.int .i64 but.1, .int .i64 but.2]) (k' := 2) hS rfl rfl) ?_
  rintro _ h_1 ⟨b_1, rfl, hS, hk⟩
  replace hK := hK.trans hk
  replace hL_want := hL_want.kp hk
  refine HO.val (v := .slice none 0 0) (want_none) rfl (q_assign rfl) ?_
  refine HO.val (v := .slice none 0 0) (want_none) rfl (q_assign rfl) ?_
  refine HO.nil (thenQ_normal (?_))
  refine HW.seq ?_
  refine HW.region ?_
  refine HO.val (v := .slice none 0 0) (want_none) rfl (q_assign rfl) ?_
  refine HO.val (v := .slice none 0 0) (want_none) rfl (q_assign rfl) ?_
  refine HO.nil (thenQ_normal (?_))
  refine HW.seq ?_
  refine HW.seq ?_
  refine HW.region ?_
  refine HO.val (v := .pointer none) (want_none) rfl (q_move rfl) ?_
  refine HO.val (v := .bool true) (want_none) rfl (q_eqlPnil Try.underlying103 rfl rfl rfl) ?_
  refine HO.nil (thenQ_normal (?_))
  refine HW.condT rfl ?_
  refine HW.seq ?_
  refine HW.region ?_
  refine HO.val (v := .slice none 0 0) (want_none) rfl (q_assign rfl) ?_
  refine HO.val (v := .slice none 0 0) (want_none) rfl (q_assign rfl) ?_
  refine HO.nil (thenQ_normal (?_))
  refine HW.ret (thenQ_ret (?_))
  refine ⟨.inr rfl, .tuple #[.slice none 0 0, .slice none 0 0], res2 rfl (rt rfl) (rt rfl), ?_⟩
  replace hS := hS.nilOwn 100 2 e_api_Spot
  replace hS := hS.nilOwn 100 2 e_api_Spot
  replace hS : St F (Ow.own 100 2 e_api_Spot (.slice none 0 0) ([] : List (Int × Int)) :: Ow.own 100 2 e_api_Spot (.slice none 0 0) ([] : List (Int × Int)) :: fr) h_1 := St.perm (front := [Ow.own 100 2 e_api_Spot (.slice none 0 0) ([] : List (Int × Int)), Ow.own 100 2 e_api_Spot (.slice none 0 0) ([] : List (Int × Int)), Ow.box b_1 100 #[.int .i64 but.1, .int .i64 but.2]]) (fr := fr) hS [1, 0] 3 rfl (by decide) [Ow.own 100 2 e_api_Spot (.slice none 0 0) ([] : List (Int × Int)), Ow.own 100 2 e_api_Spot (.slice none 0 0) ([] : List (Int × Int))] rfl
  exact ⟨F, [], [], .slice none 0 0, .slice none 0 0, rfl, hK, hS, hL_want, hM⟩

def audit_Audit_Add_nil0_W (l : List (Int × Int × Int × Int × Str)) (Q : Int → Prop) : Prop :=
  Q 0
set_option maxHeartbeats 40000000 in
set_option maxRecDepth 100000 in
theorem audit_Audit_Add_nil0_walk {F : Fz} {fr : List Ow} {h0 : Heap} (l : List (Int × Int × Int × Int × Str)) (vl : Value) (hS : St F (fr) h0) (hL_l : SliceF F h0 5 e_api_Given vl l) {Q : Int → Prop} (hM : audit_Audit_Add_nil0_W l Q) :
    HC Try.prog 74 #[.pointer none, vl] h0 fun u h' => ∃ (F' : Fz) (r_1 : Int), u = .int .i64 r_1 ∧ Kp F h0 F' h' ∧ St F' (fr) h' ∧ (SliceF F' h' 5 e_api_Given vl l) ∧ Q r_1 := by
  unfold audit_Audit_Add_nil0_W at hM
  have hK := Kp.refl F h0
  refine HC.of_HW (n := 68) Try.func74 rfl rfl (Nat.le_of_ble_eq_true rfl) ?_
  refine HW.seq ?_
  refine HW.region ?_
  refine HO.val (v := .int .i64 0) (want_none) rfl (q_assign rfl) ?_
  refine HO.nil (thenQ_normal (?_))
  refine HW.seq ?_
  refine HW.region ?_
  refine HO.val (v := .int .i64 0) (want_none) rfl (q_assign rfl) ?_
  refine HO.nil (thenQ_normal (?_))
  refine HW.seq ?_
  refine HW.seq ?_
  refine HW.region ?_
  refine HO.val (v := .pointer none) (want_none) rfl (q_move rfl) ?_
  refine HO.val (v := .bool true) (want_none) rfl (q_eqlPnil Try.underlying103 rfl rfl rfl) ?_
  refine HO.nil (thenQ_normal (?_))
  refine HW.condT rfl ?_
  refine HW.seq ?_
  refine HW.region ?_
  refine HO.val (v := .int .i64 0) (want_none) rfl (q_assign rfl) ?_
  refine HO.nil (thenQ_normal (?_))
  refine HW.ret (thenQ_ret (?_))
  refine ⟨.inr rfl, .int .i64 0, res1 rfl (rt rfl), ?_⟩
  exact ⟨F, 0, rfl, hK, hS, hL_l, hM⟩

def audit_Audit_Ids_nil0_W (Q : (List Int) → Prop) : Prop :=
  Q []
set_option maxHeartbeats 40000000 in
set_option maxRecDepth 100000 in
theorem audit_Audit_Ids_nil0_walk {F : Fz} {fr : List Ow} {h0 : Heap}  (hS : St F (fr) h0)  {Q : (List Int) → Prop} (hM : audit_Audit_Ids_nil0_W Q) :
    HC Try.prog 83 #[.pointer none] h0 fun u h' => ∃ (F' : Fz) (r_1 : List Int) (vr_1 : Value), u = vr_1 ∧ Kp F h0 F' h' ∧ St F' (Ow.own 3 1 encI vr_1 r_1 :: fr) h' ∧ Q r_1 := by
  unfold audit_Audit_Ids_nil0_W at hM
  have hK := Kp.refl F h0
  refine HC.of_HW (n := 25) Try.func83 rfl rfl (Nat.le_of_ble_eq_true rfl) ?_
  refine HW.seq ?_
  refine HW.region ?_
  refine HO.val (v := .slice none 0 0) (want_none) rfl (q_assign rfl) ?_
  refine HO.nil (thenQ_normal (?_))
  refine HW.seq ?_
  refine HW.region ?_
  refine HO.val (v := .slice none 0 0) (want_none) rfl (q_assign rfl) ?_
  refine HO.nil (thenQ_normal (?_))
  refine HW.seq ?_
  refine HW.seq ?_
  refine HW.region ?_
  refine HO.val (v := .pointer none) (want_none) rfl (q_move rfl) ?_
  refine HO.val (v := .bool true) (want_none) rfl (q_eqlPnil Try.underlying103 rfl rfl rfl) ?_
  refine HO.nil (thenQ_normal (?_))
  refine HW.condT rfl ?_
  refine HW.seq ?_
  refine HW.region ?_
  refine HO.val (v := .slice none 0 0) (want_none) rfl (q_assign rfl) ?_
  refine HO.nil (thenQ_normal (?_))
  refine HW.ret (thenQ_ret (?_))
  refine ⟨.inr rfl, .slice none 0 0, res1 rfl (rt rfl), ?_⟩
  replace hS := hS.nilOwn 3 1 encI
  exact ⟨F, [], .slice none 0 0, rfl, hK, hS, hM⟩

def audit_Audit_Of_nil0_W (id : Int) (Q : (List (Int × Int)) → Prop) : Prop :=
  Q []
set_option maxHeartbeats 40000000 in
set_option maxRecDepth 100000 in
theorem audit_Audit_Of_nil0_walk {F : Fz} {fr : List Ow} {h0 : Heap} (id : Int) (hS : St F (fr) h0)  {Q : (List (Int × Int)) → Prop} (hM : audit_Audit_Of_nil0_W id Q) :
    HC Try.prog 89 #[.pointer none, .int .i64 id] h0 fun u h' => ∃ (F' : Fz) (r_1 : List (Int × Int)) (vr_1 : Value), u = vr_1 ∧ Kp F h0 F' h' ∧ St F' (Ow.own 100 2 e_api_Spot vr_1 r_1 :: fr) h' ∧ Q r_1 := by
  unfold audit_Audit_Of_nil0_W at hM
  have hK := Kp.refl F h0
  refine HC.of_HW (n := 29) Try.func89 rfl rfl (Nat.le_of_ble_eq_true rfl) ?_
  refine HW.seq ?_
  refine HW.region ?_
  refine HO.val (v := .slice none 0 0) (want_none) rfl (q_assign rfl) ?_
  refine HO.nil (thenQ_normal (?_))
  refine HW.seq ?_
  refine HW.region ?_
  refine HO.val (v := .slice none 0 0) (want_none) rfl (q_assign rfl) ?_
  refine HO.nil (thenQ_normal (?_))
  refine HW.seq ?_
  refine HW.seq ?_
  refine HW.region ?_
  refine HO.val (v := .pointer none) (want_none) rfl (q_move rfl) ?_
  refine HO.val (v := .bool true) (want_none) rfl (q_eqlPnil Try.underlying103 rfl rfl rfl) ?_
  refine HO.nil (thenQ_normal (?_))
  refine HW.condT rfl ?_
  refine HW.seq ?_
  refine HW.region ?_
  refine HO.val (v := .slice none 0 0) (want_none) rfl (q_assign rfl) ?_
  refine HO.nil (thenQ_normal (?_))
  refine HW.ret (thenQ_ret (?_))
  refine ⟨.inr rfl, .slice none 0 0, res1 rfl (rt rfl), ?_⟩
  replace hS := hS.nilOwn 100 2 e_api_Spot
  exact ⟨F, [], .slice none 0 0, rfl, hK, hS, hM⟩

def audit_Audit_Count_nil0_W (id : Int) (vlan : Int) (at1 : Int × Int) (Q : Int → Prop) : Prop :=
  Q 0
set_option maxHeartbeats 40000000 in
set_option maxRecDepth 100000 in
theorem audit_Audit_Count_nil0_walk {F : Fz} {fr : List Ow} {h0 : Heap} (id : Int) (vlan : Int) (at1 : Int × Int) (hS : St F (fr) h0)  {Q : Int → Prop} (hM : audit_Audit_Count_nil0_W id vlan at1 Q) :
    HC Try.prog 88 #[.pointer none, .int .i64 id, .int .i64 vlan, .agg #[.int .i64 at1.1, .int .i64 at1.2]] h0 fun u h' => ∃ (F' : Fz) (r_1 : Int), u = .int .i64 r_1 ∧ Kp F h0 F' h' ∧ St F' (fr) h' ∧ Q r_1 := by
  unfold audit_Audit_Count_nil0_W at hM
  have hK := Kp.refl F h0
  refine HC.of_HW (n := 20) Try.func88 rfl rfl (Nat.le_of_ble_eq_true rfl) ?_
  refine HW.seq ?_
  refine HW.region ?_
  refine HO.eff (want_none) rfl (st_box (c := #[.int .i64 at1.1, .int .i64 at1.2]) (k' := 2) hS rfl rfl) ?_
  rintro _ h_1 ⟨b_1, rfl, hS, hk⟩
  replace hK := hK.trans hk
  refine HO.val (v := .int .i64 0) (want_none) rfl (q_assign rfl) ?_
  refine HO.nil (thenQ_normal (?_))
  refine HW.seq ?_
  refine HW.seq ?_
  refine HW.region ?_
  refine HO.val (v := .pointer none) (want_none) rfl (q_move rfl) ?_
  refine HO.val (v := .bool true) (want_none) rfl (q_eqlPnil Try.underlying103 rfl rfl rfl) ?_
  refine HO.nil (thenQ_normal (?_))
  refine HW.condT rfl ?_
  refine HW.seq ?_
  refine HW.region ?_
  refine HO.val (v := .int .i64 0) (want_none) rfl (q_assign rfl) ?_
  refine HO.nil (thenQ_normal (?_))
  refine HW.ret (thenQ_ret (?_))
  refine ⟨.inr rfl, .int .i64 0, res1 rfl (rt rfl), ?_⟩
  replace hS : St F (fr) h_1 := St.perm (front := [Ow.box b_1 100 #[.int .i64 at1.1, .int .i64 at1.2]]) (fr := fr) hS [] 1 rfl (by decide) [] rfl
  exact ⟨F, 0, rfl, hK, hS, hM⟩

def audit_Audit_Twice_nil0_W (Q : (List (Int × Int × Int × Int × Str)) → Prop) : Prop :=
  Q []
set_option maxHeartbeats 40000000 in
set_option maxRecDepth 100000 in
theorem audit_Audit_Twice_nil0_walk {F : Fz} {fr : List Ow} {h0 : Heap}  (hS : St F (fr) h0)  {Q : (List (Int × Int × Int × Int × Str)) → Prop} (hM : audit_Audit_Twice_nil0_W Q) :
    HC Try.prog 77 #[.pointer none] h0 fun u h' => ∃ (F' : Fz) (r_1 : List (Int × Int × Int × Int × Str)) (vr_1 : Value), u = vr_1 ∧ Kp F h0 F' h' ∧ St F' (Ow.own 112 5 e_api_Given vr_1 r_1 :: fr) h' ∧ Q r_1 := by
  unfold audit_Audit_Twice_nil0_W at hM
  have hK := Kp.refl F h0
  refine HC.of_HW (n := 10) Try.func77 rfl rfl (Nat.le_of_ble_eq_true rfl) ?_
  refine HW.seq ?_
  refine HW.region ?_
  refine HO.val (v := .slice none 0 0) (want_none) rfl (q_assign rfl) ?_
  refine HO.nil (thenQ_normal (?_))
  refine HW.seq ?_
  refine HW.seq ?_
  refine HW.region ?_
  refine HO.val (v := .pointer none) (want_none) rfl (q_move rfl) ?_
  refine HO.val (v := .bool true) (want_none) rfl (q_eqlPnil Try.underlying103 rfl rfl rfl) ?_
  refine HO.nil (thenQ_normal (?_))
  refine HW.condT rfl ?_
  refine HW.seq ?_
  refine HW.region ?_
  refine HO.val (v := .slice none 0 0) (want_none) rfl (q_assign rfl) ?_
  refine HO.nil (thenQ_normal (?_))
  refine HW.ret (thenQ_ret (?_))
  refine ⟨.inr rfl, .slice none 0 0, res1 rfl (rt rfl), ?_⟩
  replace hS := hS.nilOwn 112 5 e_api_Given
  exact ⟨F, [], .slice none 0 0, rfl, hK, hS, hM⟩

def audit_Audit_Clear_nil0_W (Q : Int → Prop) : Prop :=
  Q 0
set_option maxHeartbeats 40000000 in
set_option maxRecDepth 100000 in
theorem audit_Audit_Clear_nil0_walk {F : Fz} {fr : List Ow} {h0 : Heap}  (hS : St F (fr) h0)  {Q : Int → Prop} (hM : audit_Audit_Clear_nil0_W Q) :
    HC Try.prog 91 #[.pointer none] h0 fun u h' => ∃ (F' : Fz) (r_1 : Int), u = .int .i64 r_1 ∧ Kp F h0 F' h' ∧ St F' (fr) h' ∧ Q r_1 := by
  unfold audit_Audit_Clear_nil0_W at hM
  have hK := Kp.refl F h0
  refine HC.of_HW (n := 21) Try.func91 rfl rfl (Nat.le_of_ble_eq_true rfl) ?_
  refine HW.seq ?_
  refine HW.region ?_
  refine HO.val (v := .int .i64 0) (want_none) rfl (q_assign rfl) ?_
  refine HO.nil (thenQ_normal (?_))
  refine HW.seq ?_
  refine HW.seq ?_
  refine HW.region ?_
  refine HO.val (v := .pointer none) (want_none) rfl (q_move rfl) ?_
  refine HO.val (v := .bool true) (want_none) rfl (q_eqlPnil Try.underlying103 rfl rfl rfl) ?_
  refine HO.nil (thenQ_normal (?_))
  refine HW.condT rfl ?_
  refine HW.seq ?_
  refine HW.region ?_
  refine HO.val (v := .int .i64 0) (want_none) rfl (q_assign rfl) ?_
  refine HO.nil (thenQ_normal (?_))
  refine HW.ret (thenQ_ret (?_))
  refine ⟨.inr rfl, .int .i64 0, res1 rfl (rt rfl), ?_⟩
  exact ⟨F, 0, rfl, hK, hS, hM⟩

def law44_AuditNil_W (x : List (Int × Int × Int × Int × Str)) (q_Id : Int) (q_Vlan : Int) (q_Want : List (Int × Int)) (q_But : Int × Int) (Q : Bool → Prop) : Prop :=
  law44_own_W q_Want (fun r_2 => audit_Audit_Held_nil0_W q_Id q_Vlan r_2 q_But (fun r0_1 r1_1 => law44_few_W x (fun r_3 => audit_Audit_Add_nil0_W r_3 (fun r_4 => (r_4 = 0 → audit_Audit_Ids_nil0_W  (fun r_5 => ((r_5.length : Int) = 0 → audit_Audit_Of_nil0_W q_Id (fun r_6 => ((r_6.length : Int) = 0 → audit_Audit_Count_nil0_W q_Id q_Vlan q_But (fun r_7 => (r_7 = 0 → audit_Audit_Twice_nil0_W  (fun r_8 => ((r_8.length : Int) = 0 → ((r0_1.length : Int) = 0 → ((r1_1.length : Int) = 0 → audit_Audit_Clear_nil0_W  (fun r_9 => (r_9 = 0 → law44_lives_W  (fun r_10 => Q r_10)) ∧ (¬ (r_9 = 0) → Q false))) ∧ (¬ ((r1_1.length : Int) = 0) → Q false)) ∧ (¬ ((r0_1.length : Int) = 0) → Q false)) ∧ (¬ ((r_8.length : Int) = 0) → Q false))) ∧ (¬ (r_7 = 0) → Q false))) ∧ (¬ ((r_6.length : Int) = 0) → Q false))) ∧ (¬ ((r_5.length : Int) = 0) → Q false))) ∧ (¬ (r_4 = 0) → Q false)))))
set_option maxHeartbeats 40000000 in
set_option maxRecDepth 100000 in
theorem law44_AuditNil_walk {F : Fz} {fr : List Ow} {h0 : Heap} (x : List (Int × Int × Int × Int × Str)) (q_Id : Int) (q_Vlan : Int) (q_Want : List (Int × Int)) (q_But : Int × Int) (vx : Value) (vq_Want : Value) (hS : St F (fr) h0) (hL_x : SliceF F h0 5 e_api_Given vx x) (hL_q_Want : SliceF F h0 2 e_api_Spot vq_Want q_Want) {Q : Bool → Prop} (hM : law44_AuditNil_W x q_Id q_Vlan q_Want q_But Q) :
    HC Try.prog 14 #[vx, .agg #[.int .i64 q_Id, .int .i64 q_Vlan, vq_Want, .int .i64 q_But.1, .int .i64 q_But.2]] h0 fun u h' => ∃ (F' : Fz) (r_1 : Bool), u = .bool r_1 ∧ Kp F h0 F' h' ∧ St F' (fr) h' ∧ (SliceF F' h' 5 e_api_Given vx x) ∧ (SliceF F' h' 2 e_api_Spot vq_Want q_Want) ∧ Q r_1 := by
  unfold law44_AuditNil_W at hM
  have hK := Kp.refl F h0
  refine HC.of_HW (n := 76) Try.func14 rfl rfl (Nat.le_of_ble_eq_true rfl) ?_
  refine HW.seq ?_
  refine HW.region ?_
  refine HO.eff (want_none) rfl (st_box (c := #[.int .i64 q_Id, .int .i64 q_Vlan, vq_Want, .int .i64 q_But.1, .int .i64 q_But.2]) (k' := 5) hS rfl rfl) ?_
  rintro _ h_1 ⟨b_1, rfl, hS, hk⟩
  replace hK := hK.trans hk
  replace hL_x := hL_x.kp hk
  replace hL_q_Want := hL_q_Want.kp hk
  refine HO.val (v := .bool false) (want_none) rfl (q_assign rfl) ?_
  refine HO.nil (thenQ_normal (?_))
  refine HW.seq ?_
  refine HW.region ?_
  refine HO.val (v := .pointer none) (want_none) rfl (q_assign rfl) ?_
  refine HO.nil (thenQ_normal (?_))
  refine HW.seq ?_
  refine HW.regionA 16 mixed (fun h => (SliceIs h 5 e_api_Given vx x) ∧ (SliceIs h 2 e_api_Spot vq_Want q_Want) ∧ (Blk h b_1 (.cells #[.int .i64 q_Id, .int .i64 q_Vlan, vq_Want, .int .i64 q_But.1, .int .i64 q_But.2] 102 (0, 0)))) [] (by kernel_rfl) ?_
  refine HA.val (k := 0) (v := .pointer none) rfl rfl (by kernel_rfl) (by kernel_rfl) (want_none) rfl (fun _ ⟨hL_x, hL_q_Want, c201⟩ => q_move rfl) ?_
  refine HA.val (k := 1) (v := .pointer (some ⟨b_1, 0, none⟩)) rfl rfl (by kernel_rfl) (by kernel_rfl) (want_none) rfl (fun _ ⟨hL_x, hL_q_Want, c201⟩ => q_fieldAddr fa_102_0 rfl rfl) ?_
  refine HA.val (k := 2) (v := .int .i64 q_Id) rfl rfl (by kernel_rfl) (by kernel_rfl) (want_none) rfl (fun _ ⟨hL_x, hL_q_Want, c201⟩ => q_load to_3 rfl (Blk.cell c201 rfl)) ?_
  refine HA.val (k := 3) (v := .pointer (some ⟨b_1, 1, none⟩)) rfl rfl (by kernel_rfl) (by kernel_rfl) (want_none) rfl (fun _ ⟨hL_x, hL_q_Want, c201⟩ => q_fieldAddr fa_102_1 rfl rfl) ?_
  refine HA.val (k := 4) (v := .int .i64 q_Vlan) rfl rfl (by kernel_rfl) (by kernel_rfl) (want_none) rfl (fun _ ⟨hL_x, hL_q_Want, c201⟩ => q_load to_3 rfl (Blk.cell c201 rfl)) ?_
  refine HA.val (k := 5) (v := .pointer (some ⟨b_1, 2, none⟩)) rfl rfl (by kernel_rfl) (by kernel_rfl) (want_none) rfl (fun _ ⟨hL_x, hL_q_Want, c201⟩ => q_fieldAddr fa_102_2 rfl rfl) ?_
  refine HA.val (k := 6) (v := vq_Want) rfl rfl (by kernel_rfl) (by kernel_rfl) (want_none) rfl (fun _ ⟨hL_x, hL_q_Want, c201⟩ => q_load to_98 rfl (Blk.cell c201 rfl)) ?_
  refine HA.val (k := 8) (v := .pointer (some ⟨b_1, 3, none⟩)) rfl rfl (by kernel_rfl) (by kernel_rfl) (want_none) rfl (fun _ ⟨hL_x, hL_q_Want, c201⟩ => q_fieldAddr fa_102_3 rfl rfl) ?_
  refine HA.val (k := 9) (v := .agg #[.int .i64 q_But.1, .int .i64 q_But.2]) rfl rfl (by kernel_rfl) (by kernel_rfl) (want_none) rfl (fun _ ⟨hL_x, hL_q_Want, c201⟩ => q_loadAgg (cs := [.int .i64 q_But.1, .int .i64 q_But.2]) ta_100 rfl rfl (Blk.cells (k := 2) c201 rfl)) ?_
  refine HA.one (k := 7) ⟨⟨hL_x.is, hL_q_Want.is, (hS.box 0 rfl)⟩, (Go.Wk.at_nil _ _)⟩ (by kernel_rfl) ?_
  refine HS.call rfl (want_none) rfl (ec en_76 rfl rfl) (law44_own_walk (fr := (Ow.box b_1 102 #[.int .i64 q_Id, .int .i64 q_Vlan, vq_Want, .int .i64 q_But.1, .int .i64 q_But.2] :: fr)) q_Want vq_Want hS hL_q_Want hM) ?_
  rintro vr_1 h_2 ⟨F_1, r_2, _, rfl, hk, hS, _, hM⟩
  replace hK := hK.trans hk
  replace hL_x := hL_x.kp hk
  replace hL_q_Want := hL_q_Want.kp hk
  refine Go.Wk.HA.re (fun h => (SliceIs h 5 e_api_Given vx x) ∧ (SliceIs h 2 e_api_Spot vq_Want q_Want) ∧ (OwnIs h 0 100 2 e_api_Spot vr_1 r_2) ∧ (Blk h b_1 (.cells #[.int .i64 q_Id, .int .i64 q_Vlan, vq_Want, .int .i64 q_But.1, .int .i64 q_But.2] 102 (0, 0)))) [] (fun L_ h_ hL_ ⟨hL_x, hL_q_Want, c244, c201⟩ hs_ => ⟨⟨hL_x, hL_q_Want, c201⟩, (Go.Wk.at_nil _ _)⟩) ?_
  refine HA.one (k := 10) ⟨⟨hL_x.is, hL_q_Want.is, (hS.own 0 rfl), (hS.box 1 rfl)⟩, (Go.Wk.at_nil _ _)⟩ (by kernel_rfl) ?_
  have hZ_1 := hS
  have hkz_1 := (hS.freeze).2
  replace hS := hS.freeze.1
  have hL_1 : SliceF (fun b => F_1 b ∨ (Ow.own 100 2 e_api_Spot vr_1 r_2).foot b) h_2 2 e_api_Spot vr_1 r_2 := ⟨(hZ_1.own 0 rfl).slice, fun _ b hb => .inr hb⟩
  refine HS.call rfl (want_none) rfl (ec en_75 rfl rfl) (audit_Audit_Held_nil0_walk (fr := (Ow.box b_1 102 #[.int .i64 q_Id, .int .i64 q_Vlan, vq_Want, .int .i64 q_But.1, .int .i64 q_But.2] :: fr)) q_Id q_Vlan r_2 q_But vr_1 hS hL_1 hM) ?_
  rintro _ h_3 ⟨F_2, r0_1, r1_1, vr0_1, vr1_1, rfl, hk, hS, _, hM⟩
  obtain ⟨hS, hk⟩ := hZ_1.back hk hS
  generalize (fun b => F_2 b ∧ ¬ (Ow.own 100 2 e_api_Spot vr_1 r_2).foot b) = F_3 at hS hk
  replace hK := hK.trans hk
  replace hL_x := hL_x.kp hk
  replace hL_q_Want := hL_q_Want.kp hk
  refine HA.val (k := 11) (v := .tuple #[vr0_1, vr1_1]) rfl rfl (by kernel_rfl) (by kernel_rfl) (want_none) rfl (fun _ ⟨hL_x, hL_q_Want, c244, c201⟩ => q_move rfl) ?_
  refine HA.val (k := 12) (v := vr0_1) rfl rfl (by kernel_rfl) (by kernel_rfl) (want_none) rfl (fun _ ⟨hL_x, hL_q_Want, c244, c201⟩ => q_extract rfl rfl) ?_
  refine HA.val (k := 13) (v := vr1_1) rfl rfl (by kernel_rfl) (by kernel_rfl) (want_none) rfl (fun _ ⟨hL_x, hL_q_Want, c244, c201⟩ => q_extract rfl rfl) ?_
  refine HA.val (k := 14) (v := vr0_1) rfl rfl (by kernel_rfl) (by kernel_rfl) (want_none) rfl (fun _ ⟨hL_x, hL_q_Want, c244, c201⟩ => q_assign rfl) ?_
  refine HA.val (k := 15) (v := vr1_1) rfl rfl (by kernel_rfl) (by kernel_rfl) (want_none) rfl (fun _ ⟨hL_x, hL_q_Want, c244, c201⟩ => q_assign rfl) ?_
  refine HA.nil ⟨⟨hL_x.is, hL_q_Want.is, (hS.own 0 rfl), (hS.box 3 rfl)⟩, (Go.Wk.at_nil _ _)⟩ (by kernel_rfl) (thenQ_normal (?_))
  refine HW.seq ?_
  refine HW.region ?_
  refine HO.val (v := .pointer none) (want_none) rfl (q_move rfl) ?_
  refine HO.val (v := vx) (want_none) rfl (q_move rfl) ?_
  refine HO.call (want_none) rfl (ec en_73 rfl rfl) (law44_few_walk (fr := (Ow.own 100 2 e_api_Spot vr_1 r_2 :: Ow.own 100 2 e_api_Spot vr0_1 r0_1 :: Ow.own 100 2 e_api_Spot vr1_1 r1_1 :: Ow.box b_1 102 #[.int .i64 q_Id, .int .i64 q_Vlan, vq_Want, .int .i64 q_But.1, .int .i64 q_But.2] :: fr)) x vx hS hL_x hM) ?_
  rintro vr_2 h_4 ⟨F_4, r_3, _, rfl, hk, hS, _, hM⟩
  replace hK := hK.trans hk
  replace hL_x := hL_x.kp hk
  replace hL_q_Want := hL_q_Want.kp hk
  have hZ_2 := hS
  have hkz_2 := (hS.freeze).2
  replace hS := hS.freeze.1
  have hL_2 : SliceF (fun b => F_4 b ∨ (Ow.own 112 5 e_api_Given vr_2 r_3).foot b) h_4 5 e_api_Given vr_2 r_3 := ⟨(hZ_2.own 0 rfl).slice, fun _ b hb => .inr hb⟩
  refine HO.call (want_none) rfl (ec en_74 rfl rfl) (audit_Audit_Add_nil0_walk (fr := (Ow.own 100 2 e_api_Spot vr_1 r_2 :: Ow.own 100 2 e_api_Spot vr0_1 r0_1 :: Ow.own 100 2 e_api_Spot vr1_1 r1_1 :: Ow.box b_1 102 #[.int .i64 q_Id, .int .i64 q_Vlan, vq_Want, .int .i64 q_But.1, .int .i64 q_But.2] :: fr)) r_3 vr_2 hS hL_2 hM) ?_
  rintro _ h_5 ⟨F_5, r_4, rfl, hk, hS, _, hM⟩
  obtain ⟨hS, hk⟩ := hZ_2.back hk hS
  generalize (fun b => F_5 b ∧ ¬ (Ow.own 112 5 e_api_Given vr_2 r_3).foot b) = F_6 at hS hk
  replace hK := hK.trans hk
  replace hL_x := hL_x.kp hk
  replace hL_q_Want := hL_q_Want.kp hk
  refine HO.val (v := .bool (decide (r_4 = 0))) (want_none) rfl (q_eql rfl rfl) ?_
  refine HO.val (v := .bool (decide (r_4 = 0))) (want_none) rfl (q_move rfl) ?_
  rcases Bool.eq_false_or_eq_true (decide (r_4 = 0)) with c_1 | c_1
  · replace hM := hM.1 (of_decide_eq_true c_1)
    refine HO.val (v := .pointer none) (want_by rfl rfl c_1) rfl (q_move rfl) ?_
    refine HO.call (want_by rfl rfl c_1) rfl (ec en_83 rfl rfl) (audit_Audit_Ids_nil0_walk (fr := (Ow.own 112 5 e_api_Given vr_2 r_3 :: Ow.own 100 2 e_api_Spot vr_1 r_2 :: Ow.own 100 2 e_api_Spot vr0_1 r0_1 :: Ow.own 100 2 e_api_Spot vr1_1 r1_1 :: Ow.box b_1 102 #[.int .i64 q_Id, .int .i64 q_Vlan, vq_Want, .int .i64 q_But.1, .int .i64 q_But.2] :: fr))  hS hM) ?_
    rintro vr_3 h_6 ⟨F_7, r_5, _, rfl, hk, hS, hM⟩
    replace hK := hK.trans hk
    replace hL_x := hL_x.kp hk
    replace hL_q_Want := hL_q_Want.kp hk
    refine HO.val (v := .int .i64 (r_5.length : Int)) (want_by rfl rfl c_1) rfl (q_len ts_22 (shp (hS.own 0 rfl).slice) rfl rfl) ?_
    refine HO.val (v := .bool (decide ((r_5.length : Int) = 0))) (want_by rfl rfl c_1) rfl (q_eql rfl rfl) ?_
    refine HO.val (v := .bool (decide ((r_5.length : Int) = 0))) (want_none) rfl (q_pickK true rfl c_1 rfl) ?_
    refine HO.val (v := .bool (decide ((r_5.length : Int) = 0))) (want_none) rfl (q_move rfl) ?_
    rcases Bool.eq_false_or_eq_true (decide ((r_5.length : Int) = 0)) with c_2 | c_2
    · replace hM := hM.1 (of_decide_eq_true c_2)
      refine HO.val (v := .pointer none) (want_by rfl rfl c_2) rfl (q_move rfl) ?_
      refine HO.val (v := .pointer (some ⟨b_1, 0, none⟩)) (want_by rfl rfl c_2) rfl (q_fieldAddr fa_102_0 rfl rfl) ?_
      refine HO.val (v := .int .i64 q_Id) (want_by rfl rfl c_2) rfl (q_load to_3 rfl (Blk.cell (hS.box 5 rfl) rfl)) ?_
      refine HO.call (want_by rfl rfl c_2) rfl (ec en_89 rfl rfl) (audit_Audit_Of_nil0_walk (fr := (Ow.own 3 1 encI vr_3 r_5 :: Ow.own 112 5 e_api_Given vr_2 r_3 :: Ow.own 100 2 e_api_Spot vr_1 r_2 :: Ow.own 100 2 e_api_Spot vr0_1 r0_1 :: Ow.own 100 2 e_api_Spot vr1_1 r1_1 :: Ow.box b_1 102 #[.int .i64 q_Id, .int .i64 q_Vlan, vq_Want, .int .i64 q_But.1, .int .i64 q_But.2] :: fr)) q_Id hS hM) ?_
      rintro vr_4 h_7 ⟨F_8, r_6, _, rfl, hk, hS, hM⟩
      replace hK := hK.trans hk
      replace hL_x := hL_x.kp hk
      replace hL_q_Want := hL_q_Want.kp hk
      refine HO.val (v := .int .i64 (r_6.length : Int)) (want_by rfl rfl c_2) rfl (q_len ts_98 (shp (hS.own 0 rfl).slice) rfl rfl) ?_
      refine HO.val (v := .bool (decide ((r_6.length : Int) = 0))) (want_by rfl rfl c_2) rfl (q_eql rfl rfl) ?_
      refine HO.val (v := .bool (decide ((r_6.length : Int) = 0))) (want_none) rfl (q_pickK true rfl c_2 rfl) ?_
      refine HO.val (v := .bool (decide ((r_6.length : Int) = 0))) (want_none) rfl (q_move rfl) ?_
      rcases Bool.eq_false_or_eq_true (decide ((r_6.length : Int) = 0)) with c_3 | c_3
      · replace hM := hM.1 (of_decide_eq_true c_3)
        refine HO.val (v := .pointer none) (want_by rfl rfl c_3) rfl (q_move rfl) ?_
        refine HO.val (v := .pointer (some ⟨b_1, 0, none⟩)) (want_by rfl rfl c_3) rfl (q_fieldAddr fa_102_0 rfl rfl) ?_
        refine HO.val (v := .int .i64 q_Id) (want_by rfl rfl c_3) rfl (q_load to_3 rfl (Blk.cell (hS.box 6 rfl) rfl)) ?_
        refine HO.val (v := .pointer (some ⟨b_1, 1, none⟩)) (want_by rfl rfl c_3) rfl (q_fieldAddr fa_102_1 rfl rfl) ?_
        refine HO.val (v := .int .i64 q_Vlan) (want_by rfl rfl c_3) rfl (q_load to_3 rfl (Blk.cell (hS.box 6 rfl) rfl)) ?_
        refine HO.val (v := .pointer (some ⟨b_1, 3, none⟩)) (want_by rfl rfl c_3) rfl (q_fieldAddr fa_102_3 rfl rfl) ?_
        refine HO.val (v := .agg #[.int .i64 q_But.1, .int .i64 q_But.2]) (want_by rfl rfl c_3) rfl (q_loadAgg (cs := [.int .i64 q_But.1, .int .i64 q_But.2]) ta_100 rfl rfl (Blk.cells (k := 2) (hS.box 6 rfl) rfl)) ?_
        refine HO.call (want_by rfl rfl c_3) rfl (ec en_88 rfl rfl) (audit_Audit_Count_nil0_walk (fr := (Ow.own 100 2 e_api_Spot vr_4 r_6 :: Ow.own 3 1 encI vr_3 r_5 :: Ow.own 112 5 e_api_Given vr_2 r_3 :: Ow.own 100 2 e_api_Spot vr_1 r_2 :: Ow.own 100 2 e_api_Spot vr0_1 r0_1 :: Ow.own 100 2 e_api_Spot vr1_1 r1_1 :: Ow.box b_1 102 #[.int .i64 q_Id, .int .i64 q_Vlan, vq_Want, .int .i64 q_But.1, .int .i64 q_But.2] :: fr)) q_Id q_Vlan q_But hS hM) ?_
        rintro _ h_8 ⟨F_9, r_7, rfl, hk, hS, hM⟩
        replace hK := hK.trans hk
        replace hL_x := hL_x.kp hk
        replace hL_q_Want := hL_q_Want.kp hk
        refine HO.val (v := .bool (decide (r_7 = 0))) (want_by rfl rfl c_3) rfl (q_eql rfl rfl) ?_
        refine HO.val (v := .bool (decide (r_7 = 0))) (want_none) rfl (q_pickK true rfl c_3 rfl) ?_
        refine HO.val (v := .bool (decide (r_7 = 0))) (want_none) rfl (q_move rfl) ?_
        rcases Bool.eq_false_or_eq_true (decide (r_7 = 0)) with c_4 | c_4
        · replace hM := hM.1 (of_decide_eq_true c_4)
          refine HO.val (v := .pointer none) (want_by rfl rfl c_4) rfl (q_move rfl) ?_
          refine HO.call (want_by rfl rfl c_4) rfl (ec en_77 rfl rfl) (audit_Audit_Twice_nil0_walk (fr := (Ow.own 100 2 e_api_Spot vr_4 r_6 :: Ow.own 3 1 encI vr_3 r_5 :: Ow.own 112 5 e_api_Given vr_2 r_3 :: Ow.own 100 2 e_api_Spot vr_1 r_2 :: Ow.own 100 2 e_api_Spot vr0_1 r0_1 :: Ow.own 100 2 e_api_Spot vr1_1 r1_1 :: Ow.box b_1 102 #[.int .i64 q_Id, .int .i64 q_Vlan, vq_Want, .int .i64 q_But.1, .int .i64 q_But.2] :: fr))  hS hM) ?_
          rintro vr_5 h_9 ⟨F_10, r_8, _, rfl, hk, hS, hM⟩
          replace hK := hK.trans hk
          replace hL_x := hL_x.kp hk
          replace hL_q_Want := hL_q_Want.kp hk
          refine HO.val (v := .int .i64 (r_8.length : Int)) (want_by rfl rfl c_4) rfl (q_len ts_97 (shp (hS.own 0 rfl).slice) rfl rfl) ?_
          refine HO.val (v := .bool (decide ((r_8.length : Int) = 0))) (want_by rfl rfl c_4) rfl (q_eql rfl rfl) ?_
          refine HO.val (v := .bool (decide ((r_8.length : Int) = 0))) (want_none) rfl (q_pickK true rfl c_4 rfl) ?_
          refine HO.val (v := .bool (decide ((r_8.length : Int) = 0))) (want_none) rfl (q_move rfl) ?_
          rcases Bool.eq_false_or_eq_true (decide ((r_8.length : Int) = 0)) with c_5 | c_5
          · replace hM := hM.1 (of_decide_eq_true c_5)
            refine HO.val (v := vr0_1) (want_by rfl rfl c_5) rfl (q_move rfl) ?_
            refine HO.val (v := .int .i64 (r0_1.length : Int)) (want_by rfl rfl c_5) rfl (q_len ts_98 (shp (hS.own 5 rfl).slice) rfl rfl) ?_
            refine HO.val (v := .bool (decide ((r0_1.length : Int) = 0))) (want_by rfl rfl c_5) rfl (q_eql rfl rfl) ?_
            refine HO.val (v := .bool (decide ((r0_1.length : Int) = 0))) (want_none) rfl (q_pickK true rfl c_5 rfl) ?_
            refine HO.val (v := .bool (decide ((r0_1.length : Int) = 0))) (want_none) rfl (q_move rfl) ?_
            rcases Bool.eq_false_or_eq_true (decide ((r0_1.length : Int) = 0)) with c_6 | c_6
            · replace hM := hM.1 (of_decide_eq_true c_6)
              refine HO.val (v := vr1_1) (want_by rfl rfl c_6) rfl (q_move rfl) ?_
              refine HO.val (v := .int .i64 (r1_1.length : Int)) (want_by rfl rfl c_6) rfl (q_len ts_98 (shp (hS.own 6 rfl).slice) rfl rfl) ?_
              refine HO.val (v := .bool (decide ((r1_1.length : Int) = 0))) (want_by rfl rfl c_6) rfl (q_eql rfl rfl) ?_
              refine HO.val (v := .bool (decide ((r1_1.length : Int) = 0))) (want_none) rfl (q_pickK true rfl c_6 rfl) ?_
              refine HO.val (v := .bool (decide ((r1_1.length : Int) = 0))) (want_none) rfl (q_move rfl) ?_
              rcases Bool.eq_false_or_eq_true (decide ((r1_1.length : Int) = 0)) with c_7 | c_7
              · replace hM := hM.1 (of_decide_eq_true c_7)
                refine HO.val (v := .pointer none) (want_by rfl rfl c_7) rfl (q_move rfl) ?_
                refine HO.call (want_by rfl rfl c_7) rfl (ec en_91 rfl rfl) (audit_Audit_Clear_nil0_walk (fr := (Ow.own 112 5 e_api_Given vr_5 r_8 :: Ow.own 100 2 e_api_Spot vr_4 r_6 :: Ow.own 3 1 encI vr_3 r_5 :: Ow.own 112 5 e_api_Given vr_2 r_3 :: Ow.own 100 2 e_api_Spot vr_1 r_2 :: Ow.own 100 2 e_api_Spot vr0_1 r0_1 :: Ow.own 100 2 e_api_Spot vr1_1 r1_1 :: Ow.box b_1 102 #[.int .i64 q_Id, .int .i64 q_Vlan, vq_Want, .int .i64 q_But.1, .int .i64 q_But.2] :: fr))  hS hM) ?_
                rintro _ h_10 ⟨F_11, r_9, rfl, hk, hS, hM⟩
                replace hK := hK.trans hk
                replace hL_x := hL_x.kp hk
                replace hL_q_Want := hL_q_Want.kp hk
                refine HO.val (v := .bool (decide (r_9 = 0))) (want_by rfl rfl c_7) rfl (q_eql rfl rfl) ?_
                refine HO.val (v := .bool (decide (r_9 = 0))) (want_none) rfl (q_pickK true rfl c_7 rfl) ?_
                refine HO.val (v := .bool (decide (r_9 = 0))) (want_none) rfl (q_move rfl) ?_
                rcases Bool.eq_false_or_eq_true (decide (r_9 = 0)) with c_8 | c_8
                · replace hM := hM.1 (of_decide_eq_true c_8)
                  refine HO.call (want_by rfl rfl c_8) rfl (ec en_80 rfl rfl) (law44_lives_walk (fr := (Ow.own 112 5 e_api_Given vr_5 r_8 :: Ow.own 100 2 e_api_Spot vr_4 r_6 :: Ow.own 3 1 encI vr_3 r_5 :: Ow.own 112 5 e_api_Given vr_2 r_3 :: Ow.own 100 2 e_api_Spot vr_1 r_2 :: Ow.own 100 2 e_api_Spot vr0_1 r0_1 :: Ow.own 100 2 e_api_Spot vr1_1 r1_1 :: Ow.box b_1 102 #[.int .i64 q_Id, .int .i64 q_Vlan, vq_Want, .int .i64 q_But.1, .int .i64 q_But.2] :: fr))  hS hM) ?_
                  rintro _ h_11 ⟨F_12, r_10, rfl, hk, hS, hM⟩
                  replace hK := hK.trans hk
                  replace hL_x := hL_x.kp hk
                  replace hL_q_Want := hL_q_Want.kp hk
                  refine HO.val (v := .bool r_10) (want_none) rfl (q_pickK true rfl c_8 rfl) ?_
                  refine HO.val (v := .bool r_10) (want_none) rfl (q_assign rfl) ?_
                  refine HO.nil (thenQ_normal (?_))
                  refine HW.ret (?_)
                  refine ⟨.inr rfl, .bool r_10, res1 rfl (rt rfl), ?_⟩
                  replace hS : St F_12 (fr) h_11 := St.perm (front := [Ow.own 112 5 e_api_Given vr_5 r_8, Ow.own 100 2 e_api_Spot vr_4 r_6, Ow.own 3 1 encI vr_3 r_5, Ow.own 112 5 e_api_Given vr_2 r_3, Ow.own 100 2 e_api_Spot vr_1 r_2, Ow.own 100 2 e_api_Spot vr0_1 r0_1, Ow.own 100 2 e_api_Spot vr1_1 r1_1, Ow.box b_1 102 #[.int .i64 q_Id, .int .i64 q_Vlan, vq_Want, .int .i64 q_But.1, .int .i64 q_But.2]]) (fr := fr) hS [] 8 rfl (by decide) [] rfl
                  exact ⟨F_12, r_10, rfl, hK, hS, hL_x, hL_q_Want, hM⟩
                · replace hM := hM.2 (of_decide_eq_false c_8)
                  refine HO.past (past_by rfl rfl c_8) rfl ?_
                  refine HO.val (v := .bool false) (want_none) rfl (q_pickK false rfl c_8 rfl) ?_
                  refine HO.val (v := .bool false) (want_none) rfl (q_assign rfl) ?_
                  refine HO.nil (thenQ_normal (?_))
                  refine HW.ret (?_)
                  refine ⟨.inr rfl, .bool false, res1 rfl (rt rfl), ?_⟩
                  replace hS : St F_11 (fr) h_10 := St.perm (front := [Ow.own 112 5 e_api_Given vr_5 r_8, Ow.own 100 2 e_api_Spot vr_4 r_6, Ow.own 3 1 encI vr_3 r_5, Ow.own 112 5 e_api_Given vr_2 r_3, Ow.own 100 2 e_api_Spot vr_1 r_2, Ow.own 100 2 e_api_Spot vr0_1 r0_1, Ow.own 100 2 e_api_Spot vr1_1 r1_1, Ow.box b_1 102 #[.int .i64 q_Id, .int .i64 q_Vlan, vq_Want, .int .i64 q_But.1, .int .i64 q_But.2]]) (fr := fr) hS [] 8 rfl (by decide) [] rfl
                  exact ⟨F_11, false, rfl, hK, hS, hL_x, hL_q_Want, hM⟩
              · replace hM := hM.2 (of_decide_eq_false c_7)
                refine HO.past (past_by rfl rfl c_7) rfl ?_
                refine HO.past (past_by rfl rfl c_7) rfl ?_
                refine HO.past (past_by rfl rfl c_7) rfl ?_
                refine HO.val (v := .bool false) (want_none) rfl (q_pickK false rfl c_7 rfl) ?_
                refine HO.val (v := .bool false) (want_none) rfl (q_move rfl) ?_
                refine HO.past (past_some rfl rfl) rfl ?_
                refine HO.val (v := .bool false) (want_none) rfl (q_pick rfl rfl) ?_
                refine HO.val (v := .bool false) (want_none) rfl (q_assign rfl) ?_
                refine HO.nil (thenQ_normal (?_))
                refine HW.ret (?_)
                refine ⟨.inr rfl, .bool false, res1 rfl (rt rfl), ?_⟩
                replace hS : St F_10 (fr) h_9 := St.perm (front := [Ow.own 112 5 e_api_Given vr_5 r_8, Ow.own 100 2 e_api_Spot vr_4 r_6, Ow.own 3 1 encI vr_3 r_5, Ow.own 112 5 e_api_Given vr_2 r_3, Ow.own 100 2 e_api_Spot vr_1 r_2, Ow.own 100 2 e_api_Spot vr0_1 r0_1, Ow.own 100 2 e_api_Spot vr1_1 r1_1, Ow.box b_1 102 #[.int .i64 q_Id, .int .i64 q_Vlan, vq_Want, .int .i64 q_But.1, .int .i64 q_But.2]]) (fr := fr) hS [] 8 rfl (by decide) [] rfl
                exact ⟨F_10, false, rfl, hK, hS, hL_x, hL_q_Want, hM⟩
            · replace hM := hM.2 (of_decide_eq_false c_6)
              refine HO.past (past_by rfl rfl c_6) rfl ?_
              refine HO.past (past_by rfl rfl c_6) rfl ?_
              refine HO.past (past_by rfl rfl c_6) rfl ?_
              refine HO.val (v := .bool false) (want_none) rfl (q_pickK false rfl c_6 rfl) ?_
              refine HO.val (v := .bool false) (want_none) rfl (q_move rfl) ?_
              refine HO.past (past_some rfl rfl) rfl ?_
              refine HO.past (past_some rfl rfl) rfl ?_
              refine HO.past (past_some rfl rfl) rfl ?_
              refine HO.val (v := .bool false) (want_none) rfl (q_pick rfl rfl) ?_
              refine HO.val (v := .bool false) (want_none) rfl (q_move rfl) ?_
              refine HO.past (past_some rfl rfl) rfl ?_
              refine HO.val (v := .bool false) (want_none) rfl (q_pick rfl rfl) ?_
              refine HO.val (v := .bool false) (want_none) rfl (q_assign rfl) ?_
              refine HO.nil (thenQ_normal (?_))
              refine HW.ret (?_)
              refine ⟨.inr rfl, .bool false, res1 rfl (rt rfl), ?_⟩
              replace hS : St F_10 (fr) h_9 := St.perm (front := [Ow.own 112 5 e_api_Given vr_5 r_8, Ow.own 100 2 e_api_Spot vr_4 r_6, Ow.own 3 1 encI vr_3 r_5, Ow.own 112 5 e_api_Given vr_2 r_3, Ow.own 100 2 e_api_Spot vr_1 r_2, Ow.own 100 2 e_api_Spot vr0_1 r0_1, Ow.own 100 2 e_api_Spot vr1_1 r1_1, Ow.box b_1 102 #[.int .i64 q_Id, .int .i64 q_Vlan, vq_Want, .int .i64 q_But.1, .int .i64 q_But.2]]) (fr := fr) hS [] 8 rfl (by decide) [] rfl
              exact ⟨F_10, false, rfl, hK, hS, hL_x, hL_q_Want, hM⟩
          · replace hM := hM.2 (of_decide_eq_false c_5)
            refine HO.past (past_by rfl rfl c_5) rfl ?_
            refine HO.past (past_by rfl rfl c_5) rfl ?_
            refine HO.past (past_by rfl rfl c_5) rfl ?_
            refine HO.val (v := .bool false) (want_none) rfl (q_pickK false rfl c_5 rfl) ?_
            refine HO.val (v := .bool false) (want_none) rfl (q_move rfl) ?_
            refine HO.past (past_some rfl rfl) rfl ?_
            refine HO.past (past_some rfl rfl) rfl ?_
            refine HO.past (past_some rfl rfl) rfl ?_
            refine HO.val (v := .bool false) (want_none) rfl (q_pick rfl rfl) ?_
            refine HO.val (v := .bool false) (want_none) rfl (q_move rfl) ?_
            refine HO.past (past_some rfl rfl) rfl ?_
            refine HO.past (past_some rfl rfl) rfl ?_
            refine HO.past (past_some rfl rfl) rfl ?_
            refine HO.val (v := .bool false) (want_none) rfl (q_pick rfl rfl) ?_
            refine HO.val (v := .bool false) (want_none) rfl (q_move rfl) ?_
            refine HO.past (past_some rfl rfl) rfl ?_
            refine HO.val (v := .bool false) (want_none) rfl (q_pick rfl rfl) ?_
            refine HO.val (v := .bool false) (want_none) rfl (q_assign rfl) ?_
            refine HO.nil (thenQ_normal (?_))
            refine HW.ret (?_)
            refine ⟨.inr rfl, .bool false, res1 rfl (rt rfl), ?_⟩
            replace hS : St F_10 (fr) h_9 := St.perm (front := [Ow.own 112 5 e_api_Given vr_5 r_8, Ow.own 100 2 e_api_Spot vr_4 r_6, Ow.own 3 1 encI vr_3 r_5, Ow.own 112 5 e_api_Given vr_2 r_3, Ow.own 100 2 e_api_Spot vr_1 r_2, Ow.own 100 2 e_api_Spot vr0_1 r0_1, Ow.own 100 2 e_api_Spot vr1_1 r1_1, Ow.box b_1 102 #[.int .i64 q_Id, .int .i64 q_Vlan, vq_Want, .int .i64 q_But.1, .int .i64 q_But.2]]) (fr := fr) hS [] 8 rfl (by decide) [] rfl
            exact ⟨F_10, false, rfl, hK, hS, hL_x, hL_q_Want, hM⟩
        · replace hM := hM.2 (of_decide_eq_false c_4)
          refine HO.past (past_by rfl rfl c_4) rfl ?_
          refine HO.past (past_by rfl rfl c_4) rfl ?_
          refine HO.past (past_by rfl rfl c_4) rfl ?_
          refine HO.past (past_by rfl rfl c_4) rfl ?_
          refine HO.val (v := .bool false) (want_none) rfl (q_pickK false rfl c_4 rfl) ?_
          refine HO.val (v := .bool false) (want_none) rfl (q_move rfl) ?_
          refine HO.past (past_some rfl rfl) rfl ?_
          refine HO.past (past_some rfl rfl) rfl ?_
          refine HO.past (past_some rfl rfl) rfl ?_
          refine HO.val (v := .bool false) (want_none) rfl (q_pick rfl rfl) ?_
          refine HO.val (v := .bool false) (want_none) rfl (q_move rfl) ?_
          refine HO.past (past_some rfl rfl) rfl ?_
          refine HO.past (past_some rfl rfl) rfl ?_
          refine HO.past (past_some rfl rfl) rfl ?_
          refine HO.val (v := .bool false) (want_none) rfl (q_pick rfl rfl) ?_
          refine HO.val (v := .bool false) (want_none) rfl (q_move rfl) ?_
          refine HO.past (past_some rfl rfl) rfl ?_
          refine HO.past (past_some rfl rfl) rfl ?_
          refine HO.past (past_some rfl rfl) rfl ?_
          refine HO.val (v := .bool false) (want_none) rfl (q_pick rfl rfl) ?_
          refine HO.val (v := .bool false) (want_none) rfl (q_move rfl) ?_
          refine HO.past (past_some rfl rfl) rfl ?_
          refine HO.val (v := .bool false) (want_none) rfl (q_pick rfl rfl) ?_
          refine HO.val (v := .bool false) (want_none) rfl (q_assign rfl) ?_
          refine HO.nil (thenQ_normal (?_))
          refine HW.ret (?_)
          refine ⟨.inr rfl, .bool false, res1 rfl (rt rfl), ?_⟩
          replace hS : St F_9 (fr) h_8 := St.perm (front := [Ow.own 100 2 e_api_Spot vr_4 r_6, Ow.own 3 1 encI vr_3 r_5, Ow.own 112 5 e_api_Given vr_2 r_3, Ow.own 100 2 e_api_Spot vr_1 r_2, Ow.own 100 2 e_api_Spot vr0_1 r0_1, Ow.own 100 2 e_api_Spot vr1_1 r1_1, Ow.box b_1 102 #[.int .i64 q_Id, .int .i64 q_Vlan, vq_Want, .int .i64 q_But.1, .int .i64 q_But.2]]) (fr := fr) hS [] 7 rfl (by decide) [] rfl
          exact ⟨F_9, false, rfl, hK, hS, hL_x, hL_q_Want, hM⟩
      · replace hM := hM.2 (of_decide_eq_false c_3)
        refine HO.past (past_by rfl rfl c_3) rfl ?_
        refine HO.past (past_by rfl rfl c_3) rfl ?_
        refine HO.past (past_by rfl rfl c_3) rfl ?_
        refine HO.past (past_by rfl rfl c_3) rfl ?_
        refine HO.past (past_by rfl rfl c_3) rfl ?_
        refine HO.past (past_by rfl rfl c_3) rfl ?_
        refine HO.past (past_by rfl rfl c_3) rfl ?_
        refine HO.past (past_by rfl rfl c_3) rfl ?_
        refine HO.past (past_by rfl rfl c_3) rfl ?_
        refine HO.val (v := .bool false) (want_none) rfl (q_pickK false rfl c_3 rfl) ?_
        refine HO.val (v := .bool false) (want_none) rfl (q_move rfl) ?_
        refine HO.past (past_some rfl rfl) rfl ?_
        refine HO.past (past_some rfl rfl) rfl ?_
        refine HO.past (past_some rfl rfl) rfl ?_
        refine HO.past (past_some rfl rfl) rfl ?_
        refine HO.val (v := .bool false) (want_none) rfl (q_pick rfl rfl) ?_
        refine HO.val (v := .bool false) (want_none) rfl (q_move rfl) ?_
        refine HO.past (past_some rfl rfl) rfl ?_
        refine HO.past (past_some rfl rfl) rfl ?_
        refine HO.past (past_some rfl rfl) rfl ?_
        refine HO.val (v := .bool false) (want_none) rfl (q_pick rfl rfl) ?_
        refine HO.val (v := .bool false) (want_none) rfl (q_move rfl) ?_
        refine HO.past (past_some rfl rfl) rfl ?_
        refine HO.past (past_some rfl rfl) rfl ?_
        refine HO.past (past_some rfl rfl) rfl ?_
        refine HO.val (v := .bool false) (want_none) rfl (q_pick rfl rfl) ?_
        refine HO.val (v := .bool false) (want_none) rfl (q_move rfl) ?_
        refine HO.past (past_some rfl rfl) rfl ?_
        refine HO.past (past_some rfl rfl) rfl ?_
        refine HO.past (past_some rfl rfl) rfl ?_
        refine HO.val (v := .bool false) (want_none) rfl (q_pick rfl rfl) ?_
        refine HO.val (v := .bool false) (want_none) rfl (q_move rfl) ?_
        refine HO.past (past_some rfl rfl) rfl ?_
        refine HO.val (v := .bool false) (want_none) rfl (q_pick rfl rfl) ?_
        refine HO.val (v := .bool false) (want_none) rfl (q_assign rfl) ?_
        refine HO.nil (thenQ_normal (?_))
        refine HW.ret (?_)
        refine ⟨.inr rfl, .bool false, res1 rfl (rt rfl), ?_⟩
        replace hS : St F_8 (fr) h_7 := St.perm (front := [Ow.own 100 2 e_api_Spot vr_4 r_6, Ow.own 3 1 encI vr_3 r_5, Ow.own 112 5 e_api_Given vr_2 r_3, Ow.own 100 2 e_api_Spot vr_1 r_2, Ow.own 100 2 e_api_Spot vr0_1 r0_1, Ow.own 100 2 e_api_Spot vr1_1 r1_1, Ow.box b_1 102 #[.int .i64 q_Id, .int .i64 q_Vlan, vq_Want, .int .i64 q_But.1, .int .i64 q_But.2]]) (fr := fr) hS [] 7 rfl (by decide) [] rfl
        exact ⟨F_8, false, rfl, hK, hS, hL_x, hL_q_Want, hM⟩
    · replace hM := hM.2 (of_decide_eq_false c_2)
      refine HO.past (past_by rfl rfl c_2) rfl ?_
      refine HO.past (past_by rfl rfl c_2) rfl ?_
      refine HO.past (past_by rfl rfl c_2) rfl ?_
      refine HO.past (past_by rfl rfl c_2) rfl ?_
      refine HO.past (past_by rfl rfl c_2) rfl ?_
      refine HO.past (past_by rfl rfl c_2) rfl ?_
      refine HO.val (v := .bool false) (want_none) rfl (q_pickK false rfl c_2 rfl) ?_
      refine HO.val (v := .bool false) (want_none) rfl (q_move rfl) ?_
      refine HO.past (past_some rfl rfl) rfl ?_
      refine HO.past (past_some rfl rfl) rfl ?_
      refine HO.past (past_some rfl rfl) rfl ?_
      refine HO.past (past_some rfl rfl) rfl ?_
      refine HO.past (past_some rfl rfl) rfl ?_
      refine HO.past (past_some rfl rfl) rfl ?_
      refine HO.past (past_some rfl rfl) rfl ?_
      refine HO.past (past_some rfl rfl) rfl ?_
      refine HO.past (past_some rfl rfl) rfl ?_
      refine HO.val (v := .bool false) (want_none) rfl (q_pick rfl rfl) ?_
      refine HO.val (v := .bool false) (want_none) rfl (q_move rfl) ?_
      refine HO.past (past_some rfl rfl) rfl ?_
      refine HO.past (past_some rfl rfl) rfl ?_
      refine HO.past (past_some rfl rfl) rfl ?_
      refine HO.past (past_some rfl rfl) rfl ?_
      refine HO.val (v := .bool false) (want_none) rfl (q_pick rfl rfl) ?_
      refine HO.val (v := .bool false) (want_none) rfl (q_move rfl) ?_
      refine HO.past (past_some rfl rfl) rfl ?_
      refine HO.past (past_some rfl rfl) rfl ?_
      refine HO.past (past_some rfl rfl) rfl ?_
      refine HO.val (v := .bool false) (want_none) rfl (q_pick rfl rfl) ?_
      refine HO.val (v := .bool false) (want_none) rfl (q_move rfl) ?_
      refine HO.past (past_some rfl rfl) rfl ?_
      refine HO.past (past_some rfl rfl) rfl ?_
      refine HO.past (past_some rfl rfl) rfl ?_
      refine HO.val (v := .bool false) (want_none) rfl (q_pick rfl rfl) ?_
      refine HO.val (v := .bool false) (want_none) rfl (q_move rfl) ?_
      refine HO.past (past_some rfl rfl) rfl ?_
      refine HO.past (past_some rfl rfl) rfl ?_
      refine HO.past (past_some rfl rfl) rfl ?_
      refine HO.val (v := .bool false) (want_none) rfl (q_pick rfl rfl) ?_
      refine HO.val (v := .bool false) (want_none) rfl (q_move rfl) ?_
      refine HO.past (past_some rfl rfl) rfl ?_
      refine HO.val (v := .bool false) (want_none) rfl (q_pick rfl rfl) ?_
      refine HO.val (v := .bool false) (want_none) rfl (q_assign rfl) ?_
      refine HO.nil (thenQ_normal (?_))
      refine HW.ret (?_)
      refine ⟨.inr rfl, .bool false, res1 rfl (rt rfl), ?_⟩
      replace hS : St F_7 (fr) h_6 := St.perm (front := [Ow.own 3 1 encI vr_3 r_5, Ow.own 112 5 e_api_Given vr_2 r_3, Ow.own 100 2 e_api_Spot vr_1 r_2, Ow.own 100 2 e_api_Spot vr0_1 r0_1, Ow.own 100 2 e_api_Spot vr1_1 r1_1, Ow.box b_1 102 #[.int .i64 q_Id, .int .i64 q_Vlan, vq_Want, .int .i64 q_But.1, .int .i64 q_But.2]]) (fr := fr) hS [] 6 rfl (by decide) [] rfl
      exact ⟨F_7, false, rfl, hK, hS, hL_x, hL_q_Want, hM⟩
  · replace hM := hM.2 (of_decide_eq_false c_1)
    refine HO.past (past_by rfl rfl c_1) rfl ?_
    refine HO.past (past_by rfl rfl c_1) rfl ?_
    refine HO.past (past_by rfl rfl c_1) rfl ?_
    refine HO.past (past_by rfl rfl c_1) rfl ?_
    refine HO.val (v := .bool false) (want_none) rfl (q_pickK false rfl c_1 rfl) ?_
    refine HO.val (v := .bool false) (want_none) rfl (q_move rfl) ?_
    refine HO.past (past_some rfl rfl) rfl ?_
    refine HO.past (past_some rfl rfl) rfl ?_
    refine HO.past (past_some rfl rfl) rfl ?_
    refine HO.past (past_some rfl rfl) rfl ?_
    refine HO.past (past_some rfl rfl) rfl ?_
    refine HO.past (past_some rfl rfl) rfl ?_
    refine HO.val (v := .bool false) (want_none) rfl (q_pick rfl rfl) ?_
    refine HO.val (v := .bool false) (want_none) rfl (q_move rfl) ?_
    refine HO.past (past_some rfl rfl) rfl ?_
    refine HO.past (past_some rfl rfl) rfl ?_
    refine HO.past (past_some rfl rfl) rfl ?_
    refine HO.past (past_some rfl rfl) rfl ?_
    refine HO.past (past_some rfl rfl) rfl ?_
    refine HO.past (past_some rfl rfl) rfl ?_
    refine HO.past (past_some rfl rfl) rfl ?_
    refine HO.past (past_some rfl rfl) rfl ?_
    refine HO.past (past_some rfl rfl) rfl ?_
    refine HO.val (v := .bool false) (want_none) rfl (q_pick rfl rfl) ?_
    refine HO.val (v := .bool false) (want_none) rfl (q_move rfl) ?_
    refine HO.past (past_some rfl rfl) rfl ?_
    refine HO.past (past_some rfl rfl) rfl ?_
    refine HO.past (past_some rfl rfl) rfl ?_
    refine HO.past (past_some rfl rfl) rfl ?_
    refine HO.val (v := .bool false) (want_none) rfl (q_pick rfl rfl) ?_
    refine HO.val (v := .bool false) (want_none) rfl (q_move rfl) ?_
    refine HO.past (past_some rfl rfl) rfl ?_
    refine HO.past (past_some rfl rfl) rfl ?_
    refine HO.past (past_some rfl rfl) rfl ?_
    refine HO.val (v := .bool false) (want_none) rfl (q_pick rfl rfl) ?_
    refine HO.val (v := .bool false) (want_none) rfl (q_move rfl) ?_
    refine HO.past (past_some rfl rfl) rfl ?_
    refine HO.past (past_some rfl rfl) rfl ?_
    refine HO.past (past_some rfl rfl) rfl ?_
    refine HO.val (v := .bool false) (want_none) rfl (q_pick rfl rfl) ?_
    refine HO.val (v := .bool false) (want_none) rfl (q_move rfl) ?_
    refine HO.past (past_some rfl rfl) rfl ?_
    refine HO.past (past_some rfl rfl) rfl ?_
    refine HO.past (past_some rfl rfl) rfl ?_
    refine HO.val (v := .bool false) (want_none) rfl (q_pick rfl rfl) ?_
    refine HO.val (v := .bool false) (want_none) rfl (q_move rfl) ?_
    refine HO.past (past_some rfl rfl) rfl ?_
    refine HO.val (v := .bool false) (want_none) rfl (q_pick rfl rfl) ?_
    refine HO.val (v := .bool false) (want_none) rfl (q_assign rfl) ?_
    refine HO.nil (thenQ_normal (?_))
    refine HW.ret (?_)
    refine ⟨.inr rfl, .bool false, res1 rfl (rt rfl), ?_⟩
    replace hS : St F_6 (fr) h_5 := St.perm (front := [Ow.own 112 5 e_api_Given vr_2 r_3, Ow.own 100 2 e_api_Spot vr_1 r_2, Ow.own 100 2 e_api_Spot vr0_1 r0_1, Ow.own 100 2 e_api_Spot vr1_1 r1_1, Ow.box b_1 102 #[.int .i64 q_Id, .int .i64 q_Vlan, vq_Want, .int .i64 q_But.1, .int .i64 q_But.2]]) (fr := fr) hS [] 5 rfl (by decide) [] rfl
    exact ⟨F_6, false, rfl, hK, hS, hL_x, hL_q_Want, hM⟩

def law44_taken_l1 (l : List (Int × Int × Int × Int × Str)) (Q : (List (Int × Int × Int × Int × Str)) → Prop) (K_1 : (List (Int × Int × Int × Int × Str)) → Int → Prop) (out_1 : List (Int × Int × Int × Int × Str)) (i_1 : Int) : Prop :=
  (i_1 < (l.length : Int) → ((0 : Int) ≤ i_1 ∧ i_1 < (l.length : Int)) ∧ ((0 < ((gi l i_1).1) → ((out_1.length + ([(gi l i_1)] : List (Int × Int × Int × Int × Str)).length) * 48 ≤ 140737488355328) ∧ ((I64 (i_1 + 1)) ∧ (K_1 (out_1 ++ ([(gi l i_1)] : List (Int × Int × Int × Int × Str))) (i_1 + 1)))) ∧ (¬ (0 < ((gi l i_1).1)) → (I64 (i_1 + 1)) ∧ (K_1 out_1 (i_1 + 1))))) ∧ (¬ (i_1 < (l.length : Int)) → Q out_1)
def law44_taken_W (l : List (Int × Int × Int × Int × Str)) (Q : (List (Int × Int × Int × Int × Str)) → Prop) : Prop :=
  loopW (fun (K_1 : ((List (Int × Int × Int × Int × Str)) × Int) → Prop) (s : (List (Int × Int × Int × Int × Str)) × Int) => law44_taken_l1 l Q (fun out_1 i_1 => K_1 (out_1, i_1)) s.1 s.2) ([], 0)
set_option maxHeartbeats 40000000 in
set_option maxRecDepth 100000 in
theorem law44_taken_walk {F : Fz} {fr : List Ow} {h0 : Heap} (l : List (Int × Int × Int × Int × Str)) (vl : Value) (hS : St F (fr) h0) (hL_l : SliceF F h0 5 e_api_Given vl l) {Q : (List (Int × Int × Int × Int × Str)) → Prop} (hM : law44_taken_W l Q) :
    HC Try.prog 72 #[vl] h0 fun u h' => ∃ (F' : Fz) (r_1 : List (Int × Int × Int × Int × Str)) (vr_1 : Value), u = vr_1 ∧ Kp F h0 F' h' ∧ St F' (Ow.own 112 5 e_api_Given vr_1 r_1 :: fr) h' ∧ (SliceF F' h' 5 e_api_Given vl l) ∧ Q r_1 := by
  unfold law44_taken_W at hM
  have hK := Kp.refl F h0
  refine HC.of_HW (n := 26) Try.func72 rfl rfl (Nat.le_of_ble_eq_true rfl) ?_
  refine HW.seq ?_
  refine HW.region ?_
  refine HO.val (v := .slice none 0 0) (want_none) rfl (q_assign rfl) ?_
  refine HO.nil (thenQ_normal (?_))
  refine HW.seq ?_
  refine HW.region ?_
  refine HO.eff (want_none) rfl (st_litEmpty (α := Int × Int × Int × Int × Str) e_api_Given hS tl_97) ?_
  rintro _ h_1 ⟨b_1, rfl, hS, hk⟩
  replace hK := hK.trans hk
  replace hL_l := hL_l.kp hk
  refine HO.val (v := .slice (some ⟨b_1, 0, none⟩) 0 0) (want_none) rfl (q_assign rfl) ?_
  refine HO.nil (thenQ_normal (?_))
  refine HW.seq ?_
  refine HW.seq ?_
  refine HW.region ?_
  refine HO.val (v := .int .i64 0) (want_none) rfl (q_assign rfl) ?_
  refine HO.nil (thenQ_normal (?_))
  refine HW.block ?_
  obtain ⟨I_1, m_1, hI_1, hR_1⟩ := hM
  refine HW.loop (S := (List (Int × Int × Int × Int × Str)) × Int) (fun s f h => match s with | (out_1, i_1) => ∃ (F' : Fz) (vout_1 : Value), f 0 = vl ∧ f 2 = .slice none 0 0 ∧ f 3 = vout_1 ∧ f 4 = .int .i64 i_1 ∧ Kp F h0 F' h ∧ St F' (Ow.own 112 5 e_api_Given vout_1 out_1 :: fr) h ∧ (SliceF F' h 5 e_api_Given vl l) ∧ I_1 (out_1, i_1)) m_1 ([], 0) ⟨F, .slice (some ⟨b_1, 0, none⟩) 0 0, rfl, rfl, rfl, rfl, hK, hS, hL_l, hI_1⟩ ?_
  rintro ⟨out_1, i_1⟩ f_1 h_2 ⟨F_1, vout_1, e0, e2, e3, e4, hK, hS, hL_l, hI0⟩
  obtain ⟨K_1, hKe_1⟩ : ∃ K : (List (Int × Int × Int × Int × Str)) → Int → Prop, K = fun out_1' i_1' => I_1 (out_1', i_1') ∧ m_1 (out_1', i_1') < m_1 (out_1, i_1) := ⟨_, rfl⟩
  have hM : law44_taken_l1 l Q K_1 out_1 i_1 := by rw [hKe_1]; exact hR_1 (out_1, i_1) hI0
  unfold law44_taken_l1 at hM
  refine HW.fr [(0, vl), (2, .slice none 0 0), (3, vout_1), (4, .int .i64 i_1)] ⟨e0, e2, e3, e4, trivial⟩ ?_
  refine HW.seq ?_
  refine HW.seq ?_
  refine HW.region ?_
  refine HO.val (v := .int .i64 i_1) (want_none) rfl (q_move rfl) ?_
  refine HO.val (v := vl) (want_none) rfl (q_move rfl) ?_
  refine HO.val (v := .int .i64 (l.length : Int)) (want_none) rfl (q_len ts_97 (shp hL_l.is) rfl rfl) ?_
  refine HO.val (v := .bool (decide (i_1 < (l.length : Int)))) (want_none) rfl (q_lss rfl rfl) ?_
  refine HO.nil (thenQ_normal (?_))
  refine HW.cond (decide (i_1 < (l.length : Int))) rfl (fun c_1 => ?_) (fun c_1 => ?_)
  · replace hM := hM.1 (of_decide_eq_true c_1)
    refine HW.skip (thenQ_normal (?_))
    refine HW.seq ?_
    refine HW.block ?_
    refine HW.seq ?_
    refine HW.region ?_
    refine HO.val (v := vl) (want_none) rfl (q_move rfl) ?_
    refine HO.val (v := .int .i64 i_1) (want_none) rfl (q_move rfl) ?_
    obtain ⟨ho_1, hM⟩ := hM
    refine HO.val (v := elemPtr 5 vl (i_1).toNat) (want_none) rfl (q_idx ts_97 hL_l.is rfl rfl ho_1) ?_
    refine HO.val (v := fieldPtr 5 vl (i_1).toNat 0) (want_none) rfl (q_fldElem fa_112_0 hL_l.is rfl ho_1) ?_
    refine HO.val (v := .int .i64 ((gi l i_1).1)) (want_none) rfl (q_ldField to_3 hL_l.is rfl ho_1 (by decide) rfl) ?_
    refine HO.val (v := .bool (decide (0 < ((gi l i_1).1)))) (want_none) rfl (q_gtr rfl rfl) ?_
    refine HO.nil (thenQ_normal (?_))
    refine HW.cond (decide (0 < ((gi l i_1).1))) rfl (fun c_2 => ?_) (fun c_2 => ?_)
    · replace hM := hM.1 (of_decide_eq_true c_2)
      refine HW.region ?_
      refine HO.val (v := vout_1) (want_none) rfl (q_move rfl) ?_
      refine HO.val (v := vl) (want_none) rfl (q_move rfl) ?_
      refine HO.val (v := .int .i64 i_1) (want_none) rfl (q_move rfl) ?_
      refine HO.val (v := elemPtr 5 vl (i_1).toNat) (want_none) rfl (q_idx ts_97 hL_l.is rfl rfl ho_1) ?_
      refine HO.val (v := .agg #[.int .i64 ((gi l i_1).1), .int .i64 ((gi l i_1).2.1), .int .i64 ((gi l i_1).2.2.1), .int .i64 ((gi l i_1).2.2.2.1), .string (bs ((gi l i_1).2.2.2.2))]) (want_none) rfl (q_ldElemAgg (cs := [.int .i64 ((gi l i_1).1), .int .i64 ((gi l i_1).2.1), .int .i64 ((gi l i_1).2.2.1), .int .i64 ((gi l i_1).2.2.2.1), .string (bs ((gi l i_1).2.2.2.2))]) ta_112 hL_l.is rfl ho_1 rfl) ?_
      refine HO.eff (want_none) rfl (st_lit (enc := e_api_Given) (cells := #[.int .i64 ((gi l i_1).1), .int .i64 ((gi l i_1).2.1), .int .i64 ((gi l i_1).2.2.1), .int .i64 ((gi l i_1).2.2.2.1), .string (bs ((gi l i_1).2.2.2.2))]) #[.int .i64 0, .int .i64 0, .int .i64 0, .int .i64 0, .string (bs [])] ([(gi l i_1)] : List (Int × Int × Int × Int × Str)) hS tl_97 (by decide) (by decide) (by kernel_rfl) (by kernel_rfl) rfl (by intro x hx; rfl) rfl) ?_
      rintro _ h_3 ⟨b_2, rfl, hS, hk⟩
      replace hK := hK.trans hk
      replace hL_l := hL_l.kp hk
      obtain ⟨ho_2, hM⟩ := hM
      refine HO.eff (want_none) rfl (st_append te_97 hS (i := 1) rfl (hS.own 0 rfl).slice rfl rfl rfl (by intro a _ u hu; simp [e_api_Given, encI, encN, encB, encT] at hu; rcases hu with rfl | rfl | rfl | rfl | rfl <;> rfl) ho_2 (by omega)) ?_
      rintro v_1 h_4 ⟨hS, hk⟩
      replace hS : St F_1 (Ow.own 112 5 e_api_Given (.slice (some ⟨b_2, 0, none⟩) 1 1) ([(gi l i_1)] : List (Int × Int × Int × Int × Str)) :: Ow.own 112 5 e_api_Given v_1 (out_1 ++ ([(gi l i_1)] : List (Int × Int × Int × Int × Str))) :: fr) h_4 := hS
      replace hK := hK.trans hk
      replace hL_l := hL_l.kp hk
      refine HO.val (v := v_1) (want_none) rfl (q_assign rfl) ?_
      refine HO.nil (blockQ_normal (thenQ_normal (?_)))
      refine HW.region ?_
      refine HO.val (v := .int .i64 i_1) (want_none) rfl (q_move rfl) ?_
      obtain ⟨ho_3, hM⟩ := hM
      refine HO.val (v := .int .i64 (i_1 + 1)) (want_none) rfl (q_addN _ rfl rfl rfl ho_3.1 ho_3.2) ?_
      refine HO.val (v := .int .i64 (i_1 + 1)) (want_none) rfl (q_assign rfl) ?_
      refine HO.nil (thenQ_normal (?_))
      replace hS : St F_1 (Ow.own 112 5 e_api_Given v_1 (out_1 ++ ([(gi l i_1)] : List (Int × Int × Int × Int × Str))) :: fr) h_4 := St.perm (front := [Ow.own 112 5 e_api_Given (.slice (some ⟨b_2, 0, none⟩) 1 1) ([(gi l i_1)] : List (Int × Int × Int × Int × Str)), Ow.own 112 5 e_api_Given v_1 (out_1 ++ ([(gi l i_1)] : List (Int × Int × Int × Int × Str)))]) (fr := fr) hS [1] 2 rfl (by decide) [Ow.own 112 5 e_api_Given v_1 (out_1 ++ ([(gi l i_1)] : List (Int × Int × Int × Int × Str)))] rfl
      rw [hKe_1] at hM
      exact ⟨(out_1 ++ ([(gi l i_1)] : List (Int × Int × Int × Int × Str)), i_1 + 1), ⟨F_1, v_1, rfl, rfl, rfl, rfl, hK, hS, hL_l, hM.1⟩, hM.2⟩
    · replace hM := hM.2 (of_decide_eq_false c_2)
      refine HW.skip (blockQ_normal (thenQ_normal (?_)))
      refine HW.region ?_
      refine HO.val (v := .int .i64 i_1) (want_none) rfl (q_move rfl) ?_
      obtain ⟨ho_4, hM⟩ := hM
      refine HO.val (v := .int .i64 (i_1 + 1)) (want_none) rfl (q_addN _ rfl rfl rfl ho_4.1 ho_4.2) ?_
      refine HO.val (v := .int .i64 (i_1 + 1)) (want_none) rfl (q_assign rfl) ?_
      refine HO.nil (thenQ_normal (?_))
      rw [hKe_1] at hM
      exact ⟨(out_1, i_1 + 1), ⟨F_1, vout_1, rfl, rfl, rfl, rfl, hK, hS, hL_l, hM.1⟩, hM.2⟩
  · replace hM := hM.2 (of_decide_eq_false c_1)
    refine HW.exit (thenQ_exit (thenQ_exit (blockQ_exit (thenQ_normal (?_)))))
    refine HW.seq ?_
    refine HW.region ?_
    refine HO.val (v := vout_1) (want_none) rfl (q_move rfl) ?_
    refine HO.val (v := vout_1) (want_none) rfl (q_assign rfl) ?_
    refine HO.nil (thenQ_normal (?_))
    refine HW.ret (?_)
    refine ⟨.inr rfl, vout_1, res1 rfl (rt rfl), ?_⟩
    exact ⟨F_1, out_1, vout_1, rfl, hK, hS, hL_l, hM⟩

def ref44_Count_l1 (l : List (Int × Int × Int × Int × Str)) (id : Int) (vlan : Int) (at1 : Int × Int) (Q : Int → Prop) (K_1 : Int → Int → Prop) (n_1 : Int) (i_1 : Int) : Prop :=
  (i_1 < (l.length : Int) → ((0 : Int) ≤ i_1 ∧ i_1 < (l.length : Int)) ∧ ((((gi l i_1).1) = id → (((gi l i_1).2.2.1) = vlan → (((gi l i_1).2.1) = at1.1 → (((gi l i_1).2.2.2.1) = at1.2 → (I64 (n_1 + 1)) ∧ ((I64 (i_1 + 1)) ∧ (K_1 (n_1 + 1) (i_1 + 1)))) ∧ (¬ (((gi l i_1).2.2.2.1) = at1.2) → (I64 (i_1 + 1)) ∧ (K_1 n_1 (i_1 + 1)))) ∧ (¬ (((gi l i_1).2.1) = at1.1) → (I64 (i_1 + 1)) ∧ (K_1 n_1 (i_1 + 1)))) ∧ (¬ (((gi l i_1).2.2.1) = vlan) → (I64 (i_1 + 1)) ∧ (K_1 n_1 (i_1 + 1)))) ∧ (¬ (((gi l i_1).1) = id) → (I64 (i_1 + 1)) ∧ (K_1 n_1 (i_1 + 1))))) ∧ (¬ (i_1 < (l.length : Int)) → Q n_1)
def ref44_Count_W (l : List (Int × Int × Int × Int × Str)) (id : Int) (vlan : Int) (at1 : Int × Int) (Q : Int → Prop) : Prop :=
  loopW (fun (K_1 : (Int × Int) → Prop) (s : Int × Int) => ref44_Count_l1 l id vlan at1 Q (fun n_1 i_1 => K_1 (n_1, i_1)) s.1 s.2) (0, 0)
set_option maxHeartbeats 40000000 in
set_option maxRecDepth 100000 in
theorem ref44_Count_walk {F : Fz} {fr : List Ow} {h0 : Heap} (l : List (Int × Int × Int × Int × Str)) (id : Int) (vlan : Int) (at1 : Int × Int) (vl : Value) (hS : St F (fr) h0) (hL_l : SliceF F h0 5 e_api_Given vl l) {Q : Int → Prop} (hM : ref44_Count_W l id vlan at1 Q) :
    HC Try.prog 78 #[vl, .int .i64 id, .int .i64 vlan, .agg #[.int .i64 at1.1, .int .i64 at1.2]] h0 fun u h' => ∃ (F' : Fz) (r_1 : Int), u = .int .i64 r_1 ∧ Kp F h0 F' h' ∧ St F' (fr) h' ∧ (SliceF F' h' 5 e_api_Given vl l) ∧ Q r_1 := by
  unfold ref44_Count_W at hM
  have hK := Kp.refl F h0
  refine HC.of_HW (n := 56) Try.func78 rfl rfl (Nat.le_of_ble_eq_true rfl) ?_
  refine HW.seq ?_
  refine HW.region ?_
  refine HO.eff (want_none) rfl (st_box (c := #[.int .i64 at1.1, .int .i64 at1.2]) (k' := 2) hS rfl rfl) ?_
  rintro _ h_1 ⟨b_1, rfl, hS, hk⟩
  replace hK := hK.trans hk
  replace hL_l := hL_l.kp hk
  refine HO.val (v := .int .i64 0) (want_none) rfl (q_assign rfl) ?_
  refine HO.nil (thenQ_normal (?_))
  refine HW.seq ?_
  refine HW.region ?_
  refine HO.val (v := .int .i64 0) (want_none) rfl (q_assign rfl) ?_
  refine HO.nil (thenQ_normal (?_))
  refine HW.seq ?_
  refine HW.seq ?_
  refine HW.region ?_
  refine HO.val (v := .int .i64 0) (want_none) rfl (q_assign rfl) ?_
  refine HO.nil (thenQ_normal (?_))
  refine HW.block ?_
  obtain ⟨I_1, m_1, hI_1, hR_1⟩ := hM
  refine HW.loop (S := Int × Int) (fun s f h => match s with | (n_1, i_1) => ∃ (F' : Fz), f 0 = vl ∧ f 1 = .int .i64 id ∧ f 2 = .int .i64 vlan ∧ f 7 = .pointer (some ⟨b_1, 0, none⟩) ∧ f 8 = .int .i64 0 ∧ f 9 = .int .i64 n_1 ∧ f 10 = .int .i64 i_1 ∧ Kp F h0 F' h ∧ St F' (Ow.box b_1 100 #[.int .i64 at1.1, .int .i64 at1.2] :: fr) h ∧ (SliceF F' h 5 e_api_Given vl l) ∧ I_1 (n_1, i_1)) m_1 (0, 0) ⟨F, rfl, rfl, rfl, rfl, rfl, rfl, rfl, hK, hS, hL_l, hI_1⟩ ?_
  rintro ⟨n_1, i_1⟩ f_1 h_2 ⟨F_1, e0, e1, e2, e7, e8, e9, e10, hK, hS, hL_l, hI0⟩
  obtain ⟨K_1, hKe_1⟩ : ∃ K : Int → Int → Prop, K = fun n_1' i_1' => I_1 (n_1', i_1') ∧ m_1 (n_1', i_1') < m_1 (n_1, i_1) := ⟨_, rfl⟩
  have hM : ref44_Count_l1 l id vlan at1 Q K_1 n_1 i_1 := by rw [hKe_1]; exact hR_1 (n_1, i_1) hI0
  unfold ref44_Count_l1 at hM
  refine HW.fr [(0, vl), (1, .int .i64 id), (2, .int .i64 vlan), (7, .pointer (some ⟨b_1, 0, none⟩)), (8, .int .i64 0), (9, .int .i64 n_1), (10, .int .i64 i_1)] ⟨e0, e1, e2, e7, e8, e9, e10, trivial⟩ ?_
  refine HW.seq ?_
  refine HW.seq ?_
  refine HW.region ?_
  refine HO.val (v := .int .i64 i_1) (want_none) rfl (q_move rfl) ?_
  refine HO.val (v := vl) (want_none) rfl (q_move rfl) ?_
  refine HO.val (v := .int .i64 (l.length : Int)) (want_none) rfl (q_len ts_97 (shp hL_l.is) rfl rfl) ?_
  refine HO.val (v := .bool (decide (i_1 < (l.length : Int)))) (want_none) rfl (q_lss rfl rfl) ?_
  refine HO.nil (thenQ_normal (?_))
  refine HW.cond (decide (i_1 < (l.length : Int))) rfl (fun c_1 => ?_) (fun c_1 => ?_)
  · replace hM := hM.1 (of_decide_eq_true c_1)
    refine HW.skip (thenQ_normal (?_))
    refine HW.seq ?_
    refine HW.block ?_
    refine HW.seq ?_
    refine HW.regionA 36 mixed (fun h => (SliceIs h 5 e_api_Given vl l) ∧ (Blk h b_1 (.cells #[.int .i64 at1.1, .int .i64 at1.2] 100 (0, 0)))) [] (by kernel_rfl) ?_
    refine HA.val (k := 0) (v := vl) rfl rfl (by kernel_rfl) (by kernel_rfl) (want_none) rfl (fun _ ⟨hL_l, c302⟩ => q_move rfl) ?_
    refine HA.val (k := 1) (v := .int .i64 i_1) rfl rfl (by kernel_rfl) (by kernel_rfl) (want_none) rfl (fun _ ⟨hL_l, c302⟩ => q_move rfl) ?_
    obtain ⟨ho_1, hM⟩ := hM
    refine HA.val (k := 2) (v := elemPtr 5 vl (i_1).toNat) rfl rfl (by kernel_rfl) (by kernel_rfl) (want_none) rfl (fun _ ⟨hL_l, c302⟩ => q_idx ts_97 hL_l rfl rfl ho_1) ?_
    refine HA.val (k := 3) (v := fieldPtr 5 vl (i_1).toNat 0) rfl rfl (by kernel_rfl) (by kernel_rfl) (want_none) rfl (fun _ ⟨hL_l, c302⟩ => q_fldElem fa_112_0 hL_l rfl ho_1) ?_
    refine HA.val (k := 4) (v := .int .i64 ((gi l i_1).1)) rfl rfl (by kernel_rfl) (by kernel_rfl) (want_none) rfl (fun _ ⟨hL_l, c302⟩ => q_ldField to_3 hL_l rfl ho_1 (by decide) rfl) ?_
    refine HA.val (k := 5) (v := .int .i64 id) rfl rfl (by kernel_rfl) (by kernel_rfl) (want_none) rfl (fun _ ⟨hL_l, c302⟩ => q_move rfl) ?_
    refine HA.val (k := 6) (v := .bool (decide (((gi l i_1).1) = id))) rfl rfl (by kernel_rfl) (by kernel_rfl) (want_none) rfl (fun _ ⟨hL_l, c302⟩ => q_eql rfl rfl) ?_
    refine HA.val (k := 7) (v := .bool (decide (((gi l i_1).1) = id))) rfl rfl (by kernel_rfl) (by kernel_rfl) (want_none) rfl (fun _ ⟨hL_l, c302⟩ => q_move rfl) ?_
    rcases Bool.eq_false_or_eq_true (decide (((gi l i_1).1) = id)) with c_2 | c_2
    · replace hM := hM.1 (of_decide_eq_true c_2)
      refine HA.val (k := 8) (v := vl) rfl rfl (by kernel_rfl) (by kernel_rfl) (want_by rfl rfl c_2) rfl (fun _ ⟨hL_l, c302⟩ => q_move rfl) ?_
      refine HA.val (k := 9) (v := .int .i64 i_1) rfl rfl (by kernel_rfl) (by kernel_rfl) (want_by rfl rfl c_2) rfl (fun _ ⟨hL_l, c302⟩ => q_move rfl) ?_
      refine HA.val (k := 10) (v := elemPtr 5 vl (i_1).toNat) rfl rfl (by kernel_rfl) (by kernel_rfl) (want_by rfl rfl c_2) rfl (fun _ ⟨hL_l, c302⟩ => q_idx ts_97 hL_l rfl rfl ho_1) ?_
      refine HA.val (k := 11) (v := fieldPtr 5 vl (i_1).toNat 2) rfl rfl (by kernel_rfl) (by kernel_rfl) (want_by rfl rfl c_2) rfl (fun _ ⟨hL_l, c302⟩ => q_fldElem fa_112_2 hL_l rfl ho_1) ?_
      refine HA.val (k := 12) (v := .int .i64 ((gi l i_1).2.2.1)) rfl rfl (by kernel_rfl) (by kernel_rfl) (want_by rfl rfl c_2) rfl (fun _ ⟨hL_l, c302⟩ => q_ldField to_3 hL_l rfl ho_1 (by decide) rfl) ?_
      refine HA.val (k := 13) (v := .int .i64 vlan) rfl rfl (by kernel_rfl) (by kernel_rfl) (want_by rfl rfl c_2) rfl (fun _ ⟨hL_l, c302⟩ => q_move rfl) ?_
      refine HA.val (k := 14) (v := .bool (decide (((gi l i_1).2.2.1) = vlan))) rfl rfl (by kernel_rfl) (by kernel_rfl) (want_by rfl rfl c_2) rfl (fun _ ⟨hL_l, c302⟩ => q_eql rfl rfl) ?_
      refine HA.val (k := 15) (v := .bool (decide (((gi l i_1).2.2.1) = vlan))) rfl rfl (by kernel_rfl) (by kernel_rfl) (want_none) rfl (fun _ ⟨hL_l, c302⟩ => q_pickK true rfl c_2 rfl) ?_
      refine HA.val (k := 16) (v := .bool (decide (((gi l i_1).2.2.1) = vlan))) rfl rfl (by kernel_rfl) (by kernel_rfl) (want_none) rfl (fun _ ⟨hL_l, c302⟩ => q_move rfl) ?_
      rcases Bool.eq_false_or_eq_true (decide (((gi l i_1).2.2.1) = vlan)) with c_3 | c_3
      · replace hM := hM.1 (of_decide_eq_true c_3)
        refine HA.val (k := 17) (v := vl) rfl rfl (by kernel_rfl) (by kernel_rfl) (want_by rfl rfl c_3) rfl (fun _ ⟨hL_l, c302⟩ => q_move rfl) ?_
        refine HA.val (k := 18) (v := .int .i64 i_1) rfl rfl (by kernel_rfl) (by kernel_rfl) (want_by rfl rfl c_3) rfl (fun _ ⟨hL_l, c302⟩ => q_move rfl) ?_
        refine HA.val (k := 19) (v := elemPtr 5 vl (i_1).toNat) rfl rfl (by kernel_rfl) (by kernel_rfl) (want_by rfl rfl c_3) rfl (fun _ ⟨hL_l, c302⟩ => q_idx ts_97 hL_l rfl rfl ho_1) ?_
        refine HA.val (k := 20) (v := fieldPtr 5 vl (i_1).toNat 1) rfl rfl (by kernel_rfl) (by kernel_rfl) (want_by rfl rfl c_3) rfl (fun _ ⟨hL_l, c302⟩ => q_fldElem fa_112_1 hL_l rfl ho_1) ?_
        refine HA.val (k := 21) (v := .int .i64 ((gi l i_1).2.1)) rfl rfl (by kernel_rfl) (by kernel_rfl) (want_by rfl rfl c_3) rfl (fun _ ⟨hL_l, c302⟩ => q_ldField to_3 hL_l rfl ho_1 (by decide) rfl) ?_
        refine HA.val (k := 22) (v := .pointer (some ⟨b_1, 0, none⟩)) rfl rfl (by kernel_rfl) (by kernel_rfl) (want_by rfl rfl c_3) rfl (fun _ ⟨hL_l, c302⟩ => q_fieldAddr fa_100_0 rfl rfl) ?_
        refine HA.val (k := 23) (v := .int .i64 at1.1) rfl rfl (by kernel_rfl) (by kernel_rfl) (want_by rfl rfl c_3) rfl (fun _ ⟨hL_l, c302⟩ => q_load to_3 rfl (Blk.cell c302 rfl)) ?_
        refine HA.val (k := 24) (v := .bool (decide (((gi l i_1).2.1) = at1.1))) rfl rfl (by kernel_rfl) (by kernel_rfl) (want_by rfl rfl c_3) rfl (fun _ ⟨hL_l, c302⟩ => q_eql rfl rfl) ?_
        refine HA.val (k := 25) (v := .bool (decide (((gi l i_1).2.1) = at1.1))) rfl rfl (by kernel_rfl) (by kernel_rfl) (want_none) rfl (fun _ ⟨hL_l, c302⟩ => q_pickK true rfl c_3 rfl) ?_
        refine HA.val (k := 26) (v := .bool (decide (((gi l i_1).2.1) = at1.1))) rfl rfl (by kernel_rfl) (by kernel_rfl) (want_none) rfl (fun _ ⟨hL_l, c302⟩ => q_move rfl) ?_
        rcases Bool.eq_false_or_eq_true (decide (((gi l i_1).2.1) = at1.1)) with c_4 | c_4
        · replace hM := hM.1 (of_decide_eq_true c_4)
          refine HA.val (k := 27) (v := vl) rfl rfl (by kernel_rfl) (by kernel_rfl) (want_by rfl rfl c_4) rfl (fun _ ⟨hL_l, c302⟩ => q_move rfl) ?_
          refine HA.val (k := 28) (v := .int .i64 i_1) rfl rfl (by kernel_rfl) (by kernel_rfl) (want_by rfl rfl c_4) rfl (fun _ ⟨hL_l, c302⟩ => q_move rfl) ?_
          refine HA.val (k := 29) (v := elemPtr 5 vl (i_1).toNat) rfl rfl (by kernel_rfl) (by kernel_rfl) (want_by rfl rfl c_4) rfl (fun _ ⟨hL_l, c302⟩ => q_idx ts_97 hL_l rfl rfl ho_1) ?_
          refine HA.val (k := 30) (v := fieldPtr 5 vl (i_1).toNat 3) rfl rfl (by kernel_rfl) (by kernel_rfl) (want_by rfl rfl c_4) rfl (fun _ ⟨hL_l, c302⟩ => q_fldElem fa_112_3 hL_l rfl ho_1) ?_
          refine HA.val (k := 31) (v := .int .i64 ((gi l i_1).2.2.2.1)) rfl rfl (by kernel_rfl) (by kernel_rfl) (want_by rfl rfl c_4) rfl (fun _ ⟨hL_l, c302⟩ => q_ldField to_3 hL_l rfl ho_1 (by decide) rfl) ?_
          refine HA.val (k := 32) (v := .pointer (some ⟨b_1, 1, none⟩)) rfl rfl (by kernel_rfl) (by kernel_rfl) (want_by rfl rfl c_4) rfl (fun _ ⟨hL_l, c302⟩ => q_fieldAddr fa_100_1 rfl rfl) ?_
          refine HA.val (k := 33) (v := .int .i64 at1.2) rfl rfl (by kernel_rfl) (by kernel_rfl) (want_by rfl rfl c_4) rfl (fun _ ⟨hL_l, c302⟩ => q_load to_3 rfl (Blk.cell c302 rfl)) ?_
          refine HA.val (k := 34) (v := .bool (decide (((gi l i_1).2.2.2.1) = at1.2))) rfl rfl (by kernel_rfl) (by kernel_rfl) (want_by rfl rfl c_4) rfl (fun _ ⟨hL_l, c302⟩ => q_eql rfl rfl) ?_
          refine HA.val (k := 35) (v := .bool (decide (((gi l i_1).2.2.2.1) = at1.2))) rfl rfl (by kernel_rfl) (by kernel_rfl) (want_none) rfl (fun _ ⟨hL_l, c302⟩ => q_pickK true rfl c_4 rfl) ?_
          refine HA.nil ⟨⟨hL_l.is, (hS.box 0 rfl)⟩, (Go.Wk.at_nil _ _)⟩ (by kernel_rfl) (thenQ_normal (?_))
          refine HW.cond (decide (((gi l i_1).2.2.2.1) = at1.2)) rfl (fun c_5 => ?_) (fun c_5 => ?_)
          · replace hM := hM.1 (of_decide_eq_true c_5)
            refine HW.region ?_
            refine HO.val (v := .int .i64 n_1) (want_none) rfl (q_move rfl) ?_
            obtain ⟨ho_2, hM⟩ := hM
            refine HO.val (v := .int .i64 (n_1 + 1)) (want_none) rfl (q_addN _ rfl rfl rfl ho_2.1 ho_2.2) ?_
            refine HO.val (v := .int .i64 (n_1 + 1)) (want_none) rfl (q_assign rfl) ?_
            refine HO.nil (blockQ_normal (thenQ_normal (?_)))
            refine HW.region ?_
            refine HO.val (v := .int .i64 i_1) (want_none) rfl (q_move rfl) ?_
            obtain ⟨ho_3, hM⟩ := hM
            refine HO.val (v := .int .i64 (i_1 + 1)) (want_none) rfl (q_addN _ rfl rfl rfl ho_3.1 ho_3.2) ?_
            refine HO.val (v := .int .i64 (i_1 + 1)) (want_none) rfl (q_assign rfl) ?_
            refine HO.nil (thenQ_normal (?_))
            rw [hKe_1] at hM
            exact ⟨(n_1 + 1, i_1 + 1), ⟨F_1, rfl, rfl, rfl, rfl, rfl, rfl, rfl, hK, hS, hL_l, hM.1⟩, hM.2⟩
          · replace hM := hM.2 (of_decide_eq_false c_5)
            refine HW.skip (blockQ_normal (thenQ_normal (?_)))
            refine HW.region ?_
            refine HO.val (v := .int .i64 i_1) (want_none) rfl (q_move rfl) ?_
            obtain ⟨ho_4, hM⟩ := hM
            refine HO.val (v := .int .i64 (i_1 + 1)) (want_none) rfl (q_addN _ rfl rfl rfl ho_4.1 ho_4.2) ?_
            refine HO.val (v := .int .i64 (i_1 + 1)) (want_none) rfl (q_assign rfl) ?_
            refine HO.nil (thenQ_normal (?_))
            rw [hKe_1] at hM
            exact ⟨(n_1, i_1 + 1), ⟨F_1, rfl, rfl, rfl, rfl, rfl, rfl, rfl, hK, hS, hL_l, hM.1⟩, hM.2⟩
        · replace hM := hM.2 (of_decide_eq_false c_4)
          refine HA.past (k := 27) rfl rfl (by kernel_rfl) (by kernel_rfl) (past_by rfl rfl c_4) rfl ?_
          refine HA.past (k := 28) rfl rfl (by kernel_rfl) (by kernel_rfl) (past_by rfl rfl c_4) rfl ?_
          refine HA.past (k := 29) rfl rfl (by kernel_rfl) (by kernel_rfl) (past_by rfl rfl c_4) rfl ?_
          refine HA.past (k := 30) rfl rfl (by kernel_rfl) (by kernel_rfl) (past_by rfl rfl c_4) rfl ?_
          refine HA.past (k := 31) rfl rfl (by kernel_rfl) (by kernel_rfl) (past_by rfl rfl c_4) rfl ?_
          refine HA.past (k := 32) rfl rfl (by kernel_rfl) (by kernel_rfl) (past_by rfl rfl c_4) rfl ?_
          refine HA.past (k := 33) rfl rfl (by kernel_rfl) (by kernel_rfl) (past_by rfl rfl c_4) rfl ?_
          refine HA.past (k := 34) rfl rfl (by kernel_rfl) (by kernel_rfl) (past_by rfl rfl c_4) rfl ?_
          refine HA.val (k := 35) (v := .bool false) rfl rfl (by kernel_rfl) (by kernel_rfl) (want_none) rfl (fun _ ⟨hL_l, c302⟩ => q_pickK false rfl c_4 rfl) ?_
          refine HA.nil ⟨⟨hL_l.is, (hS.box 0 rfl)⟩, (Go.Wk.at_nil _ _)⟩ (by kernel_rfl) (thenQ_normal (?_))
          refine HW.condF rfl ?_
          refine HW.skip (blockQ_normal (thenQ_normal (?_)))
          refine HW.region ?_
          refine HO.val (v := .int .i64 i_1) (want_none) rfl (q_move rfl) ?_
          obtain ⟨ho_5, hM⟩ := hM
          refine HO.val (v := .int .i64 (i_1 + 1)) (want_none) rfl (q_addN _ rfl rfl rfl ho_5.1 ho_5.2) ?_
          refine HO.val (v := .int .i64 (i_1 + 1)) (want_none) rfl (q_assign rfl) ?_
          refine HO.nil (thenQ_normal (?_))
          rw [hKe_1] at hM
          exact ⟨(n_1, i_1 + 1), ⟨F_1, rfl, rfl, rfl, rfl, rfl, rfl, rfl, hK, hS, hL_l, hM.1⟩, hM.2⟩
      · replace hM := hM.2 (of_decide_eq_false c_3)
        refine HA.past (k := 17) rfl rfl (by kernel_rfl) (by kernel_rfl) (past_by rfl rfl c_3) rfl ?_
        refine HA.past (k := 18) rfl rfl (by kernel_rfl) (by kernel_rfl) (past_by rfl rfl c_3) rfl ?_
        refine HA.past (k := 19) rfl rfl (by kernel_rfl) (by kernel_rfl) (past_by rfl rfl c_3) rfl ?_
        refine HA.past (k := 20) rfl rfl (by kernel_rfl) (by kernel_rfl) (past_by rfl rfl c_3) rfl ?_
        refine HA.past (k := 21) rfl rfl (by kernel_rfl) (by kernel_rfl) (past_by rfl rfl c_3) rfl ?_
        refine HA.past (k := 22) rfl rfl (by kernel_rfl) (by kernel_rfl) (past_by rfl rfl c_3) rfl ?_
        refine HA.past (k := 23) rfl rfl (by kernel_rfl) (by kernel_rfl) (past_by rfl rfl c_3) rfl ?_
        refine HA.past (k := 24) rfl rfl (by kernel_rfl) (by kernel_rfl) (past_by rfl rfl c_3) rfl ?_
        refine HA.val (k := 25) (v := .bool false) rfl rfl (by kernel_rfl) (by kernel_rfl) (want_none) rfl (fun _ ⟨hL_l, c302⟩ => q_pickK false rfl c_3 rfl) ?_
        refine HA.val (k := 26) (v := .bool false) rfl rfl (by kernel_rfl) (by kernel_rfl) (want_none) rfl (fun _ ⟨hL_l, c302⟩ => q_move rfl) ?_
        refine HA.past (k := 27) rfl rfl (by kernel_rfl) (by kernel_rfl) (past_some rfl rfl) rfl ?_
        refine HA.past (k := 28) rfl rfl (by kernel_rfl) (by kernel_rfl) (past_some rfl rfl) rfl ?_
        refine HA.past (k := 29) rfl rfl (by kernel_rfl) (by kernel_rfl) (past_some rfl rfl) rfl ?_
        refine HA.past (k := 30) rfl rfl (by kernel_rfl) (by kernel_rfl) (past_some rfl rfl) rfl ?_
        refine HA.past (k := 31) rfl rfl (by kernel_rfl) (by kernel_rfl) (past_some rfl rfl) rfl ?_
        refine HA.past (k := 32) rfl rfl (by kernel_rfl) (by kernel_rfl) (past_some rfl rfl) rfl ?_
        refine HA.past (k := 33) rfl rfl (by kernel_rfl) (by kernel_rfl) (past_some rfl rfl) rfl ?_
        refine HA.past (k := 34) rfl rfl (by kernel_rfl) (by kernel_rfl) (past_some rfl rfl) rfl ?_
        refine HA.val (k := 35) (v := .bool false) rfl rfl (by kernel_rfl) (by kernel_rfl) (want_none) rfl (fun _ ⟨hL_l, c302⟩ => q_pick rfl rfl) ?_
        refine HA.nil ⟨⟨hL_l.is, (hS.box 0 rfl)⟩, (Go.Wk.at_nil _ _)⟩ (by kernel_rfl) (thenQ_normal (?_))
        refine HW.condF rfl ?_
        refine HW.skip (blockQ_normal (thenQ_normal (?_)))
        refine HW.region ?_
        refine HO.val (v := .int .i64 i_1) (want_none) rfl (q_move rfl) ?_
        obtain ⟨ho_6, hM⟩ := hM
        refine HO.val (v := .int .i64 (i_1 + 1)) (want_none) rfl (q_addN _ rfl rfl rfl ho_6.1 ho_6.2) ?_
        refine HO.val (v := .int .i64 (i_1 + 1)) (want_none) rfl (q_assign rfl) ?_
        refine HO.nil (thenQ_normal (?_))
        rw [hKe_1] at hM
        exact ⟨(n_1, i_1 + 1), ⟨F_1, rfl, rfl, rfl, rfl, rfl, rfl, rfl, hK, hS, hL_l, hM.1⟩, hM.2⟩
    · replace hM := hM.2 (of_decide_eq_false c_2)
      refine HA.past (k := 8) rfl rfl (by kernel_rfl) (by kernel_rfl) (past_by rfl rfl c_2) rfl ?_
      refine HA.past (k := 9) rfl rfl (by kernel_rfl) (by kernel_rfl) (past_by rfl rfl c_2) rfl ?_
      refine HA.past (k := 10) rfl rfl (by kernel_rfl) (by kernel_rfl) (past_by rfl rfl c_2) rfl ?_
      refine HA.past (k := 11) rfl rfl (by kernel_rfl) (by kernel_rfl) (past_by rfl rfl c_2) rfl ?_
      refine HA.past (k := 12) rfl rfl (by kernel_rfl) (by kernel_rfl) (past_by rfl rfl c_2) rfl ?_
      refine HA.past (k := 13) rfl rfl (by kernel_rfl) (by kernel_rfl) (past_by rfl rfl c_2) rfl ?_
      refine HA.past (k := 14) rfl rfl (by kernel_rfl) (by kernel_rfl) (past_by rfl rfl c_2) rfl ?_
      refine HA.val (k := 15) (v := .bool false) rfl rfl (by kernel_rfl) (by kernel_rfl) (want_none) rfl (fun _ ⟨hL_l, c302⟩ => q_pickK false rfl c_2 rfl) ?_
      refine HA.val (k := 16) (v := .bool false) rfl rfl (by kernel_rfl) (by kernel_rfl) (want_none) rfl (fun _ ⟨hL_l, c302⟩ => q_move rfl) ?_
      refine HA.past (k := 17) rfl rfl (by kernel_rfl) (by kernel_rfl) (past_some rfl rfl) rfl ?_
      refine HA.past (k := 18) rfl rfl (by kernel_rfl) (by kernel_rfl) (past_some rfl rfl) rfl ?_
      refine HA.past (k := 19) rfl rfl (by kernel_rfl) (by kernel_rfl) (past_some rfl rfl) rfl ?_
      refine HA.past (k := 20) rfl rfl (by kernel_rfl) (by kernel_rfl) (past_some rfl rfl) rfl ?_
      refine HA.past (k := 21) rfl rfl (by kernel_rfl) (by kernel_rfl) (past_some rfl rfl) rfl ?_
      refine HA.past (k := 22) rfl rfl (by kernel_rfl) (by kernel_rfl) (past_some rfl rfl) rfl ?_
      refine HA.past (k := 23) rfl rfl (by kernel_rfl) (by kernel_rfl) (past_some rfl rfl) rfl ?_
      refine HA.past (k := 24) rfl rfl (by kernel_rfl) (by kernel_rfl) (past_some rfl rfl) rfl ?_
      refine HA.val (k := 25) (v := .bool false) rfl rfl (by kernel_rfl) (by kernel_rfl) (want_none) rfl (fun _ ⟨hL_l, c302⟩ => q_pick rfl rfl) ?_
      refine HA.val (k := 26) (v := .bool false) rfl rfl (by kernel_rfl) (by kernel_rfl) (want_none) rfl (fun _ ⟨hL_l, c302⟩ => q_move rfl) ?_
      refine HA.past (k := 27) rfl rfl (by kernel_rfl) (by kernel_rfl) (past_some rfl rfl) rfl ?_
      refine HA.past (k := 28) rfl rfl (by kernel_rfl) (by kernel_rfl) (past_some rfl rfl) rfl ?_
      refine HA.past (k := 29) rfl rfl (by kernel_rfl) (by kernel_rfl) (past_some rfl rfl) rfl ?_
      refine HA.past (k := 30) rfl rfl (by kernel_rfl) (by kernel_rfl) (past_some rfl rfl) rfl ?_
      refine HA.past (k := 31) rfl rfl (by kernel_rfl) (by kernel_rfl) (past_some rfl rfl) rfl ?_
      refine HA.past (k := 32) rfl rfl (by kernel_rfl) (by kernel_rfl) (past_some rfl rfl) rfl ?_
      refine HA.past (k := 33) rfl rfl (by kernel_rfl) (by kernel_rfl) (past_some rfl rfl) rfl ?_
      refine HA.past (k := 34) rfl rfl (by kernel_rfl) (by kernel_rfl) (past_some rfl rfl) rfl ?_
      refine HA.val (k := 35) (v := .bool false) rfl rfl (by kernel_rfl) (by kernel_rfl) (want_none) rfl (fun _ ⟨hL_l, c302⟩ => q_pick rfl rfl) ?_
      refine HA.nil ⟨⟨hL_l.is, (hS.box 0 rfl)⟩, (Go.Wk.at_nil _ _)⟩ (by kernel_rfl) (thenQ_normal (?_))
      refine HW.condF rfl ?_
      refine HW.skip (blockQ_normal (thenQ_normal (?_)))
      refine HW.region ?_
      refine HO.val (v := .int .i64 i_1) (want_none) rfl (q_move rfl) ?_
      obtain ⟨ho_7, hM⟩ := hM
      refine HO.val (v := .int .i64 (i_1 + 1)) (want_none) rfl (q_addN _ rfl rfl rfl ho_7.1 ho_7.2) ?_
      refine HO.val (v := .int .i64 (i_1 + 1)) (want_none) rfl (q_assign rfl) ?_
      refine HO.nil (thenQ_normal (?_))
      rw [hKe_1] at hM
      exact ⟨(n_1, i_1 + 1), ⟨F_1, rfl, rfl, rfl, rfl, rfl, rfl, rfl, hK, hS, hL_l, hM.1⟩, hM.2⟩
  · replace hM := hM.2 (of_decide_eq_false c_1)
    refine HW.exit (thenQ_exit (thenQ_exit (blockQ_exit (thenQ_normal (?_)))))
    refine HW.seq ?_
    refine HW.region ?_
    refine HO.val (v := .int .i64 n_1) (want_none) rfl (q_move rfl) ?_
    refine HO.val (v := .int .i64 n_1) (want_none) rfl (q_assign rfl) ?_
    refine HO.nil (thenQ_normal (?_))
    refine HW.ret (?_)
    refine ⟨.inr rfl, .int .i64 n_1, res1 rfl (rt rfl), ?_⟩
    replace hS : St F_1 (fr) h_2 := St.perm (front := [Ow.box b_1 100 #[.int .i64 at1.1, .int .i64 at1.2]]) (fr := fr) hS [] 1 rfl (by decide) [] rfl
    exact ⟨F_1, n_1, rfl, hK, hS, hL_l, hM⟩

def ref44_Has_l1 (l : List (Int × Int)) (s1 : Int × Int) (Q : Bool → Prop) (K_1 : Int → Prop) (i_1 : Int) : Prop :=
  (i_1 < (l.length : Int) → ((0 : Int) ≤ i_1 ∧ i_1 < (l.length : Int)) ∧ ((((gi l i_1) : Int × Int) = s1 → Q true) ∧ (¬ (((gi l i_1) : Int × Int) = s1) → (I64 (i_1 + 1)) ∧ (K_1 (i_1 + 1))))) ∧ (¬ (i_1 < (l.length : Int)) → Q false)
def ref44_Has_W (l : List (Int × Int)) (s1 : Int × Int) (Q : Bool → Prop) : Prop :=
  loopW (fun (K_1 : Int → Prop) (s : Int) => ref44_Has_l1 l s1 Q K_1 s) 0
set_option maxHeartbeats 40000000 in
set_option maxRecDepth 100000 in
theorem ref44_Has_walk {F : Fz} {fr : List Ow} {h0 : Heap} (l : List (Int × Int)) (s1 : Int × Int) (vl : Value) (hS : St F (fr) h0) (hL_l : SliceF F h0 2 e_api_Spot vl l) {Q : Bool → Prop} (hM : ref44_Has_W l s1 Q) :
    HC Try.prog 79 #[vl, .agg #[.int .i64 s1.1, .int .i64 s1.2]] h0 fun u h' => ∃ (F' : Fz) (r_1 : Bool), u = .bool r_1 ∧ Kp F h0 F' h' ∧ St F' (fr) h' ∧ (SliceF F' h' 2 e_api_Spot vl l) ∧ Q r_1 := by
  unfold ref44_Has_W at hM
  have hK := Kp.refl F h0
  refine HC.of_HW (n := 18) Try.func79 rfl rfl (Nat.le_of_ble_eq_true rfl) ?_
  refine HW.seq ?_
  refine HW.region ?_
  refine HO.eff (want_none) rfl (st_box (c := #[.int .i64 s1.1, .int .i64 s1.2]) (k' := 2) hS rfl rfl) ?_
  rintro _ h_1 ⟨b_1, rfl, hS, hk⟩
  replace hK := hK.trans hk
  replace hL_l := hL_l.kp hk
  refine HO.val (v := .bool false) (want_none) rfl (q_assign rfl) ?_
  refine HO.nil (thenQ_normal (?_))
  refine HW.seq ?_
  refine HW.seq ?_
  refine HW.region ?_
  refine HO.val (v := .int .i64 0) (want_none) rfl (q_assign rfl) ?_
  refine HO.nil (thenQ_normal (?_))
  refine HW.block ?_
  obtain ⟨I_1, m_1, hI_1, hR_1⟩ := hM
  refine HW.loop (S := Int) (fun i_1 f h => ∃ (F' : Fz), f 0 = vl ∧ f 3 = .pointer (some ⟨b_1, 0, none⟩) ∧ f 4 = .bool false ∧ f 5 = .int .i64 i_1 ∧ Kp F h0 F' h ∧ St F' (Ow.box b_1 100 #[.int .i64 s1.1, .int .i64 s1.2] :: fr) h ∧ (SliceF F' h 2 e_api_Spot vl l) ∧ I_1 i_1) m_1 0 ⟨F, rfl, rfl, rfl, rfl, hK, hS, hL_l, hI_1⟩ ?_
  rintro i_1 f_1 h_2 ⟨F_1, e0, e3, e4, e5, hK, hS, hL_l, hI0⟩
  obtain ⟨K_1, hKe_1⟩ : ∃ K : Int → Prop, K = fun i_1' => I_1 i_1' ∧ m_1 i_1' < m_1 i_1 := ⟨_, rfl⟩
  have hM : ref44_Has_l1 l s1 Q K_1 i_1 := by rw [hKe_1]; exact hR_1 i_1 hI0
  unfold ref44_Has_l1 at hM
  refine HW.fr [(0, vl), (3, .pointer (some ⟨b_1, 0, none⟩)), (4, .bool false), (5, .int .i64 i_1)] ⟨e0, e3, e4, e5, trivial⟩ ?_
  refine HW.seq ?_
  refine HW.seq ?_
  refine HW.region ?_
  refine HO.val (v := .int .i64 i_1) (want_none) rfl (q_move rfl) ?_
  refine HO.val (v := vl) (want_none) rfl (q_move rfl) ?_
  refine HO.val (v := .int .i64 (l.length : Int)) (want_none) rfl (q_len ts_98 (shp hL_l.is) rfl rfl) ?_
  refine HO.val (v := .bool (decide (i_1 < (l.length : Int)))) (want_none) rfl (q_lss rfl rfl) ?_
  refine HO.nil (thenQ_normal (?_))
  refine HW.cond (decide (i_1 < (l.length : Int))) rfl (fun c_1 => ?_) (fun c_1 => ?_)
  · replace hM := hM.1 (of_decide_eq_true c_1)
    refine HW.skip (thenQ_normal (?_))
    refine HW.seq ?_
    refine HW.block ?_
    refine HW.seq ?_
    refine HW.regionA 6 mixed (fun h => (SliceIs h 2 e_api_Spot vl l) ∧ (Blk h b_1 (.cells #[.int .i64 s1.1, .int .i64 s1.2] 100 (0, 0)))) [] (by kernel_rfl) ?_
    refine HA.val (k := 0) (v := vl) rfl rfl (by kernel_rfl) (by kernel_rfl) (want_none) rfl (fun _ ⟨hL_l, c302⟩ => q_move rfl) ?_
    refine HA.val (k := 1) (v := .int .i64 i_1) rfl rfl (by kernel_rfl) (by kernel_rfl) (want_none) rfl (fun _ ⟨hL_l, c302⟩ => q_move rfl) ?_
    obtain ⟨ho_1, hM⟩ := hM
    refine HA.val (k := 2) (v := elemPtr 2 vl (i_1).toNat) rfl rfl (by kernel_rfl) (by kernel_rfl) (want_none) rfl (fun _ ⟨hL_l, c302⟩ => q_idx ts_98 hL_l rfl rfl ho_1) ?_
    refine HA.val (k := 3) (v := .agg #[.int .i64 ((gi l i_1).1), .int .i64 ((gi l i_1).2)]) rfl rfl (by kernel_rfl) (by kernel_rfl) (want_none) rfl (fun _ ⟨hL_l, c302⟩ => q_ldElemAgg (cs := [.int .i64 ((gi l i_1).1), .int .i64 ((gi l i_1).2)]) ta_100 hL_l rfl ho_1 rfl) ?_
    refine HA.val (k := 4) (v := .agg #[.int .i64 s1.1, .int .i64 s1.2]) rfl rfl (by kernel_rfl) (by kernel_rfl) (want_none) rfl (fun _ ⟨hL_l, c302⟩ => q_loadAgg (cs := [.int .i64 s1.1, .int .i64 s1.2]) ta_100 rfl rfl (Blk.cells (k := 2) c302 rfl)) ?_
    refine HA.val (k := 5) (v := .bool (decide (((gi l i_1) : Int × Int) = s1))) rfl rfl (by kernel_rfl) (by kernel_rfl) (want_none) rfl (fun _ ⟨hL_l, c302⟩ => q_eqlAgg (a := (gi l i_1)) (b := s1) (fun a b w => teq_100 9998 a b w) (by kernel_rfl) rfl rfl rfl rfl) ?_
    refine HA.nil ⟨⟨hL_l.is, (hS.box 0 rfl)⟩, (Go.Wk.at_nil _ _)⟩ (by kernel_rfl) (thenQ_normal (?_))
    refine HW.cond (decide (((gi l i_1) : Int × Int) = s1)) rfl (fun c_2 => ?_) (fun c_2 => ?_)
    · replace hM := hM.1 (of_decide_eq_true c_2)
      refine HW.seq ?_
      refine HW.region ?_
      refine HO.val (v := .bool true) (want_none) rfl (q_assign rfl) ?_
      refine HO.nil (thenQ_normal (?_))
      refine HW.ret (blockQ_ret (thenQ_ret (thenQ_ret (blockQ_ret (thenQ_ret (?_))))))
      refine ⟨.inr rfl, .bool true, res1 rfl (rt rfl), ?_⟩
      replace hS : St F_1 (fr) h_2 := St.perm (front := [Ow.box b_1 100 #[.int .i64 s1.1, .int .i64 s1.2]]) (fr := fr) hS [] 1 rfl (by decide) [] rfl
      exact ⟨F_1, true, rfl, hK, hS, hL_l, hM⟩
    · replace hM := hM.2 (of_decide_eq_false c_2)
      refine HW.skip (blockQ_normal (thenQ_normal (?_)))
      refine HW.region ?_
      refine HO.val (v := .int .i64 i_1) (want_none) rfl (q_move rfl) ?_
      obtain ⟨ho_2, hM⟩ := hM
      refine HO.val (v := .int .i64 (i_1 + 1)) (want_none) rfl (q_addN _ rfl rfl rfl ho_2.1 ho_2.2) ?_
      refine HO.val (v := .int .i64 (i_1 + 1)) (want_none) rfl (q_assign rfl) ?_
      refine HO.nil (thenQ_normal (?_))
      rw [hKe_1] at hM
      exact ⟨i_1 + 1, ⟨F_1, rfl, rfl, rfl, rfl, hK, hS, hL_l, hM.1⟩, hM.2⟩
  · replace hM := hM.2 (of_decide_eq_false c_1)
    refine HW.exit (thenQ_exit (thenQ_exit (blockQ_exit (thenQ_normal (?_)))))
    refine HW.seq ?_
    refine HW.region ?_
    refine HO.val (v := .bool false) (want_none) rfl (q_assign rfl) ?_
    refine HO.nil (thenQ_normal (?_))
    refine HW.ret (?_)
    refine ⟨.inr rfl, .bool false, res1 rfl (rt rfl), ?_⟩
    replace hS : St F_1 (fr) h_2 := St.perm (front := [Ow.box b_1 100 #[.int .i64 s1.1, .int .i64 s1.2]]) (fr := fr) hS [] 1 rfl (by decide) [] rfl
    exact ⟨F_1, false, rfl, hK, hS, hL_l, hM⟩
end Go.Wk
