/- test -/
import Derived.Test.YtnemfpgfgblpbaaAudW3
set_option linter.unusedSimpArgs false
set_option linter.unusedVariables false
set_option linter.unusedSectionVars false
namespace Go.Wk
open Go.HL
open Go.Proofs hiding encI
variable [DM]

def ref44_Add_j2 (l : List (Int × Int)) (s1 : Int × Int) (Q : (List (Int × Int)) → Prop) (n_1 : Int) : Prop :=
  ((0 : Int) ≤ n_1 ∧ n_1 ≤ (l.length : Int)) ∧ (((([] : List (Int × Int)).length + (cut l 0 n_1).length) * 16 ≤ 140737488355328) ∧ ((((([] : List (Int × Int)) ++ (cut l 0 n_1)).length + ([s1] : List (Int × Int)).length) * 16 ≤ 140737488355328) ∧ (((((([] : List (Int × Int)) ++ (cut l 0 n_1)) ++ ([s1] : List (Int × Int))).length + (cut l n_1 (l.length : Int)).length) * 16 ≤ 140737488355328) ∧ (Q (((([] : List (Int × Int)) ++ (cut l 0 n_1)) ++ ([s1] : List (Int × Int))) ++ (cut l n_1 (l.length : Int)))))))
def ref44_Add_j1 (l : List (Int × Int)) (s1 : Int × Int) (Q : (List (Int × Int)) → Prop) (n_1 : Int) : Prop :=
  (n_1 < (l.length : Int) → ((0 : Int) ≤ n_1 ∧ n_1 < (l.length : Int)) ∧ ((((gi l n_1) : Int × Int) = s1 → Q l) ∧ (¬ (((gi l n_1) : Int × Int) = s1) → ref44_Add_j2 l s1 Q n_1))) ∧ (¬ (n_1 < (l.length : Int)) → ref44_Add_j2 l s1 Q n_1)
def ref44_Add_l1 (l : List (Int × Int)) (s1 : Int × Int) (Q : (List (Int × Int)) → Prop) (K_1 : Int → Prop) (n_2 : Int) : Prop :=
  (n_2 < (l.length : Int) → ((0 : Int) ≤ n_2 ∧ n_2 < (l.length : Int)) ∧ ((((gi l n_2).1) < s1.1 → (I64 (n_2 + 1)) ∧ (K_1 (n_2 + 1))) ∧ (¬ (((gi l n_2).1) < s1.1) → (((gi l n_2).1) = s1.1 → (((gi l n_2).2) < s1.2 → (I64 (n_2 + 1)) ∧ (K_1 (n_2 + 1))) ∧ (¬ (((gi l n_2).2) < s1.2) → ref44_Add_j1 l s1 Q n_2)) ∧ (¬ (((gi l n_2).1) = s1.1) → ref44_Add_j1 l s1 Q n_2)))) ∧ (¬ (n_2 < (l.length : Int)) → ref44_Add_j1 l s1 Q n_2)
def ref44_Add_W (l : List (Int × Int)) (s1 : Int × Int) (Q : (List (Int × Int)) → Prop) : Prop :=
  loopW (fun (K_1 : Int → Prop) (s : Int) => ref44_Add_l1 l s1 Q K_1 s) 0
set_option maxHeartbeats 40000000 in
set_option maxRecDepth 100000 in
theorem ref44_Add_walk {F : Fz} {fr : List Ow} {h0 : Heap} (l : List (Int × Int)) (s1 : Int × Int) (vl : Value) (hS : St F (fr) h0) (hL_l : SliceF F h0 2 e_api_Spot vl l) {Q : (List (Int × Int)) → Prop} (hM : ref44_Add_W l s1 Q) :
    HC Try.prog 119 #[vl, .agg #[.int .i64 s1.1, .int .i64 s1.2]] h0 fun u h' => ∃ (F' : Fz) (r_1 : List (Int × Int)) (vr_1 : Value), u = vr_1 ∧ Kp F h0 F' h' ∧ St F' (fr) h' ∧ (SliceF F' h' 2 e_api_Spot vl l) ∧ (SliceF F' h' 2 e_api_Spot vr_1 r_1) ∧ Q r_1 := by
  unfold ref44_Add_W at hM
  have hK := Kp.refl F h0
  refine HC.of_HW (n := 67) Try.func119 rfl rfl (Nat.le_of_ble_eq_true rfl) ?_
  refine HW.seq ?_
  refine HW.region ?_
  refine HO.eff (want_none) rfl (st_box (c := #[.int .i64 s1.1, .int .i64 s1.2]) (k' := 2) hS rfl rfl) ?_
  rintro _ h_1 ⟨b_1, rfl, hS, hk⟩
  replace hK := hK.trans hk
  replace hL_l := hL_l.kp hk
  refine HO.val (v := .slice none 0 0) (want_none) rfl (q_assign rfl) ?_
  refine HO.nil (thenQ_normal (?_))
  refine HW.seq ?_
  refine HW.region ?_
  refine HO.val (v := .int .i64 0) (want_none) rfl (q_assign rfl) ?_
  refine HO.nil (thenQ_normal (?_))
  refine HW.seq_mid (fun f h => ∃ (F' : Fz) (n_1 : Int), f 0 = vl ∧ f 3 = .pointer (some ⟨b_1, 0, none⟩) ∧ f 4 = .slice none 0 0 ∧ f 5 = .int .i64 n_1 ∧ Kp F h0 F' h ∧ St F' (Ow.box b_1 100 #[.int .i64 s1.1, .int .i64 s1.2] :: fr) h ∧ (SliceF F' h 2 e_api_Spot vl l) ∧ ref44_Add_j1 l s1 Q n_1) ?_ ?_
  · refine HW.block ?_
    obtain ⟨I_1, m_1, hI_1, hR_1⟩ := hM
    refine HW.loop (S := Int) (fun n_2 f h => ∃ (F' : Fz), f 0 = vl ∧ f 3 = .pointer (some ⟨b_1, 0, none⟩) ∧ f 4 = .slice none 0 0 ∧ f 5 = .int .i64 n_2 ∧ Kp F h0 F' h ∧ St F' (Ow.box b_1 100 #[.int .i64 s1.1, .int .i64 s1.2] :: fr) h ∧ (SliceF F' h 2 e_api_Spot vl l) ∧ I_1 n_2) m_1 0 ⟨F, rfl, rfl, rfl, rfl, hK, hS, hL_l, hI_1⟩ ?_
    rintro n_2 f_1 h_2 ⟨F_1, e0, e3, e4, e5, hK, hS, hL_l, hI0⟩
    obtain ⟨K_1, hKe_1⟩ : ∃ K : Int → Prop, K = fun n_2' => I_1 n_2' ∧ m_1 n_2' < m_1 n_2 := ⟨_, rfl⟩
    have hM : ref44_Add_l1 l s1 Q K_1 n_2 := by rw [hKe_1]; exact hR_1 n_2 hI0
    unfold ref44_Add_l1 at hM
    refine HW.fr [(0, vl), (3, .pointer (some ⟨b_1, 0, none⟩)), (4, .slice none 0 0), (5, .int .i64 n_2)] ⟨e0, e3, e4, e5, trivial⟩ ?_
    refine HW.seq ?_
    refine HW.seq ?_
    refine HW.regionA 34 mixed (fun h => (SliceIs h 2 e_api_Spot vl l) ∧ (Blk h b_1 (.cells #[.int .i64 s1.1, .int .i64 s1.2] 100 (0, 0)))) [] (by kernel_rfl) ?_
    refine HA.val (k := 0) (v := .int .i64 n_2) rfl rfl (by kernel_rfl) (by kernel_rfl) (want_none) rfl (fun _ ⟨hL_l, c303⟩ => q_move rfl) ?_
    refine HA.val (k := 1) (v := vl) rfl rfl (by kernel_rfl) (by kernel_rfl) (want_none) rfl (fun _ ⟨hL_l, c303⟩ => q_move rfl) ?_
    refine HA.val (k := 2) (v := .int .i64 (l.length : Int)) rfl rfl (by kernel_rfl) (by kernel_rfl) (want_none) rfl (fun _ ⟨hL_l, c303⟩ => q_len ts_98 (shp hL_l) rfl rfl) ?_
    refine HA.val (k := 3) (v := .bool (decide (n_2 < (l.length : Int)))) rfl rfl (by kernel_rfl) (by kernel_rfl) (want_none) rfl (fun _ ⟨hL_l, c303⟩ => q_lss rfl rfl) ?_
    refine HA.val (k := 4) (v := .bool (decide (n_2 < (l.length : Int)))) rfl rfl (by kernel_rfl) (by kernel_rfl) (want_none) rfl (fun _ ⟨hL_l, c303⟩ => q_move rfl) ?_
    rcases Bool.eq_false_or_eq_true (decide (n_2 < (l.length : Int))) with c_1 | c_1
    · replace hM := hM.1 (of_decide_eq_true c_1)
      refine HA.val (k := 5) (v := vl) rfl rfl (by kernel_rfl) (by kernel_rfl) (want_by rfl rfl c_1) rfl (fun _ ⟨hL_l, c303⟩ => q_move rfl) ?_
      refine HA.val (k := 6) (v := .int .i64 n_2) rfl rfl (by kernel_rfl) (by kernel_rfl) (want_by rfl rfl c_1) rfl (fun _ ⟨hL_l, c303⟩ => q_move rfl) ?_
      obtain ⟨ho_1, hM⟩ := hM
      refine HA.val (k := 7) (v := elemPtr 2 vl (n_2).toNat) rfl rfl (by kernel_rfl) (by kernel_rfl) (want_by rfl rfl c_1) rfl (fun _ ⟨hL_l, c303⟩ => q_idx ts_98 hL_l rfl rfl ho_1) ?_
      refine HA.val (k := 8) (v := fieldPtr 2 vl (n_2).toNat 0) rfl rfl (by kernel_rfl) (by kernel_rfl) (want_by rfl rfl c_1) rfl (fun _ ⟨hL_l, c303⟩ => q_fldElem fa_100_0 hL_l rfl ho_1) ?_
      refine HA.val (k := 9) (v := .int .i64 ((gi l n_2).1)) rfl rfl (by kernel_rfl) (by kernel_rfl) (want_by rfl rfl c_1) rfl (fun _ ⟨hL_l, c303⟩ => q_ldField to_3 hL_l rfl ho_1 (by decide) rfl) ?_
      refine HA.val (k := 10) (v := .pointer (some ⟨b_1, 0, none⟩)) rfl rfl (by kernel_rfl) (by kernel_rfl) (want_by rfl rfl c_1) rfl (fun _ ⟨hL_l, c303⟩ => q_fieldAddr fa_100_0 rfl rfl) ?_
      refine HA.val (k := 11) (v := .int .i64 s1.1) rfl rfl (by kernel_rfl) (by kernel_rfl) (want_by rfl rfl c_1) rfl (fun _ ⟨hL_l, c303⟩ => q_load to_3 rfl (Blk.cell c303 rfl)) ?_
      refine HA.val (k := 12) (v := .bool (decide (((gi l n_2).1) < s1.1))) rfl rfl (by kernel_rfl) (by kernel_rfl) (want_by rfl rfl c_1) rfl (fun _ ⟨hL_l, c303⟩ => q_lss rfl rfl) ?_
      refine HA.val (k := 13) (v := .bool (decide (((gi l n_2).1) < s1.1))) rfl rfl (by kernel_rfl) (by kernel_rfl) (want_by rfl rfl c_1) rfl (fun _ ⟨hL_l, c303⟩ => q_move rfl) ?_
      rcases Bool.eq_false_or_eq_true (decide (((gi l n_2).1) < s1.1)) with c_2 | c_2
      · replace hM := hM.1 (of_decide_eq_true c_2)
        refine HA.past (k := 14) rfl rfl (by kernel_rfl) (by kernel_rfl) (past_by rfl rfl c_2) rfl ?_
        refine HA.past (k := 15) rfl rfl (by kernel_rfl) (by kernel_rfl) (past_by rfl rfl c_2) rfl ?_
        refine HA.past (k := 16) rfl rfl (by kernel_rfl) (by kernel_rfl) (past_by rfl rfl c_2) rfl ?_
        refine HA.past (k := 17) rfl rfl (by kernel_rfl) (by kernel_rfl) (past_by rfl rfl c_2) rfl ?_
        refine HA.past (k := 18) rfl rfl (by kernel_rfl) (by kernel_rfl) (past_by rfl rfl c_2) rfl ?_
        refine HA.past (k := 19) rfl rfl (by kernel_rfl) (by kernel_rfl) (past_by rfl rfl c_2) rfl ?_
        refine HA.past (k := 20) rfl rfl (by kernel_rfl) (by kernel_rfl) (past_by rfl rfl c_2) rfl ?_
        refine HA.past (k := 21) rfl rfl (by kernel_rfl) (by kernel_rfl) (past_by rfl rfl c_2) rfl ?_
        refine HA.past (k := 22) rfl rfl (by kernel_rfl) (by kernel_rfl) (past_by rfl rfl c_2) rfl ?_
        refine HA.past (k := 23) rfl rfl (by kernel_rfl) (by kernel_rfl) (past_undef rfl rfl) rfl ?_
        refine HA.past (k := 24) rfl rfl (by kernel_rfl) (by kernel_rfl) (past_undef rfl rfl) rfl ?_
        refine HA.past (k := 25) rfl rfl (by kernel_rfl) (by kernel_rfl) (past_undef rfl rfl) rfl ?_
        refine HA.past (k := 26) rfl rfl (by kernel_rfl) (by kernel_rfl) (past_undef rfl rfl) rfl ?_
        refine HA.past (k := 27) rfl rfl (by kernel_rfl) (by kernel_rfl) (past_undef rfl rfl) rfl ?_
        refine HA.past (k := 28) rfl rfl (by kernel_rfl) (by kernel_rfl) (past_undef rfl rfl) rfl ?_
        refine HA.past (k := 29) rfl rfl (by kernel_rfl) (by kernel_rfl) (past_undef rfl rfl) rfl ?_
        refine HA.past (k := 30) rfl rfl (by kernel_rfl) (by kernel_rfl) (past_undef rfl rfl) rfl ?_
        refine HA.past (k := 31) rfl rfl (by kernel_rfl) (by kernel_rfl) (past_by rfl rfl c_2) rfl ?_
        refine HA.val (k := 32) (v := .bool true) rfl rfl (by kernel_rfl) (by kernel_rfl) (want_by rfl rfl c_1) rfl (fun _ ⟨hL_l, c303⟩ => q_pickK true rfl c_2 rfl) ?_
        refine HA.val (k := 33) (v := .bool true) rfl rfl (by kernel_rfl) (by kernel_rfl) (want_none) rfl (fun _ ⟨hL_l, c303⟩ => q_pickK true rfl c_1 rfl) ?_
        refine HA.nil ⟨⟨hL_l.is, (hS.box 0 rfl)⟩, (Go.Wk.at_nil _ _)⟩ (by kernel_rfl) (thenQ_normal (?_))
        refine HW.condT rfl ?_
        refine HW.skip (thenQ_normal (?_))
        refine HW.block ?_
        refine HW.region ?_
        refine HO.val (v := .int .i64 n_2) (want_none) rfl (q_move rfl) ?_
        obtain ⟨ho_2, hM⟩ := hM
        refine HO.val (v := .int .i64 (n_2 + 1)) (want_none) rfl (q_addN _ rfl rfl rfl ho_2.1 ho_2.2) ?_
        refine HO.val (v := .int .i64 (n_2 + 1)) (want_none) rfl (q_assign rfl) ?_
        refine HO.nil (blockQ_normal (thenQ_normal (?_)))
        rw [hKe_1] at hM
        exact ⟨n_2 + 1, ⟨F_1, rfl, rfl, rfl, rfl, hK, hS, hL_l, hM.1⟩, hM.2⟩
      · replace hM := hM.2 (of_decide_eq_false c_2)
        refine HA.val (k := 14) (v := vl) rfl rfl (by kernel_rfl) (by kernel_rfl) (want_by rfl rfl c_2) rfl (fun _ ⟨hL_l, c303⟩ => q_move rfl) ?_
        refine HA.val (k := 15) (v := .int .i64 n_2) rfl rfl (by kernel_rfl) (by kernel_rfl) (want_by rfl rfl c_2) rfl (fun _ ⟨hL_l, c303⟩ => q_move rfl) ?_
        refine HA.val (k := 16) (v := elemPtr 2 vl (n_2).toNat) rfl rfl (by kernel_rfl) (by kernel_rfl) (want_by rfl rfl c_2) rfl (fun _ ⟨hL_l, c303⟩ => q_idx ts_98 hL_l rfl rfl ho_1) ?_
        refine HA.val (k := 17) (v := fieldPtr 2 vl (n_2).toNat 0) rfl rfl (by kernel_rfl) (by kernel_rfl) (want_by rfl rfl c_2) rfl (fun _ ⟨hL_l, c303⟩ => q_fldElem fa_100_0 hL_l rfl ho_1) ?_
        refine HA.val (k := 18) (v := .int .i64 ((gi l n_2).1)) rfl rfl (by kernel_rfl) (by kernel_rfl) (want_by rfl rfl c_2) rfl (fun _ ⟨hL_l, c303⟩ => q_ldField to_3 hL_l rfl ho_1 (by decide) rfl) ?_
        refine HA.val (k := 19) (v := .pointer (some ⟨b_1, 0, none⟩)) rfl rfl (by kernel_rfl) (by kernel_rfl) (want_by rfl rfl c_2) rfl (fun _ ⟨hL_l, c303⟩ => q_fieldAddr fa_100_0 rfl rfl) ?_
        refine HA.val (k := 20) (v := .int .i64 s1.1) rfl rfl (by kernel_rfl) (by kernel_rfl) (want_by rfl rfl c_2) rfl (fun _ ⟨hL_l, c303⟩ => q_load to_3 rfl (Blk.cell c303 rfl)) ?_
        refine HA.val (k := 21) (v := .bool (decide (((gi l n_2).1) = s1.1))) rfl rfl (by kernel_rfl) (by kernel_rfl) (want_by rfl rfl c_2) rfl (fun _ ⟨hL_l, c303⟩ => q_eql rfl rfl) ?_
        refine HA.val (k := 22) (v := .bool (decide (((gi l n_2).1) = s1.1))) rfl rfl (by kernel_rfl) (by kernel_rfl) (want_by rfl rfl c_2) rfl (fun _ ⟨hL_l, c303⟩ => q_move rfl) ?_
        rcases Bool.eq_false_or_eq_true (decide (((gi l n_2).1) = s1.1)) with c_3 | c_3
        · replace hM := hM.1 (of_decide_eq_true c_3)
          refine HA.val (k := 23) (v := vl) rfl rfl (by kernel_rfl) (by kernel_rfl) (want_by rfl rfl c_3) rfl (fun _ ⟨hL_l, c303⟩ => q_move rfl) ?_
          refine HA.val (k := 24) (v := .int .i64 n_2) rfl rfl (by kernel_rfl) (by kernel_rfl) (want_by rfl rfl c_3) rfl (fun _ ⟨hL_l, c303⟩ => q_move rfl) ?_
          refine HA.val (k := 25) (v := elemPtr 2 vl (n_2).toNat) rfl rfl (by kernel_rfl) (by kernel_rfl) (want_by rfl rfl c_3) rfl (fun _ ⟨hL_l, c303⟩ => q_idx ts_98 hL_l rfl rfl ho_1) ?_
          refine HA.val (k := 26) (v := fieldPtr 2 vl (n_2).toNat 1) rfl rfl (by kernel_rfl) (by kernel_rfl) (want_by rfl rfl c_3) rfl (fun _ ⟨hL_l, c303⟩ => q_fldElem fa_100_1 hL_l rfl ho_1) ?_
          refine HA.val (k := 27) (v := .int .i64 ((gi l n_2).2)) rfl rfl (by kernel_rfl) (by kernel_rfl) (want_by rfl rfl c_3) rfl (fun _ ⟨hL_l, c303⟩ => q_ldField to_3 hL_l rfl ho_1 (by decide) rfl) ?_
          refine HA.val (k := 28) (v := .pointer (some ⟨b_1, 1, none⟩)) rfl rfl (by kernel_rfl) (by kernel_rfl) (want_by rfl rfl c_3) rfl (fun _ ⟨hL_l, c303⟩ => q_fieldAddr fa_100_1 rfl rfl) ?_
          refine HA.val (k := 29) (v := .int .i64 s1.2) rfl rfl (by kernel_rfl) (by kernel_rfl) (want_by rfl rfl c_3) rfl (fun _ ⟨hL_l, c303⟩ => q_load to_3 rfl (Blk.cell c303 rfl)) ?_
          refine HA.val (k := 30) (v := .bool (decide (((gi l n_2).2) < s1.2))) rfl rfl (by kernel_rfl) (by kernel_rfl) (want_by rfl rfl c_3) rfl (fun _ ⟨hL_l, c303⟩ => q_lss rfl rfl) ?_
          refine HA.val (k := 31) (v := .bool (decide (((gi l n_2).2) < s1.2))) rfl rfl (by kernel_rfl) (by kernel_rfl) (want_by rfl rfl c_2) rfl (fun _ ⟨hL_l, c303⟩ => q_pickK true rfl c_3 rfl) ?_
          refine HA.val (k := 32) (v := .bool (decide (((gi l n_2).2) < s1.2))) rfl rfl (by kernel_rfl) (by kernel_rfl) (want_by rfl rfl c_1) rfl (fun _ ⟨hL_l, c303⟩ => q_pickK false rfl c_2 rfl) ?_
          refine HA.val (k := 33) (v := .bool (decide (((gi l n_2).2) < s1.2))) rfl rfl (by kernel_rfl) (by kernel_rfl) (want_none) rfl (fun _ ⟨hL_l, c303⟩ => q_pickK true rfl c_1 rfl) ?_
          refine HA.nil ⟨⟨hL_l.is, (hS.box 0 rfl)⟩, (Go.Wk.at_nil _ _)⟩ (by kernel_rfl) (thenQ_normal (?_))
          refine HW.cond (decide (((gi l n_2).2) < s1.2)) rfl (fun c_4 => ?_) (fun c_4 => ?_)
          · replace hM := hM.1 (of_decide_eq_true c_4)
            refine HW.skip (thenQ_normal (?_))
            refine HW.block ?_
            refine HW.region ?_
            refine HO.val (v := .int .i64 n_2) (want_none) rfl (q_move rfl) ?_
            obtain ⟨ho_3, hM⟩ := hM
            refine HO.val (v := .int .i64 (n_2 + 1)) (want_none) rfl (q_addN _ rfl rfl rfl ho_3.1 ho_3.2) ?_
            refine HO.val (v := .int .i64 (n_2 + 1)) (want_none) rfl (q_assign rfl) ?_
            refine HO.nil (blockQ_normal (thenQ_normal (?_)))
            rw [hKe_1] at hM
            exact ⟨n_2 + 1, ⟨F_1, rfl, rfl, rfl, rfl, hK, hS, hL_l, hM.1⟩, hM.2⟩
          · replace hM := hM.2 (of_decide_eq_false c_4)
            refine HW.exit (thenQ_exit (thenQ_exit (blockQ_exit (thenQ_normal (?_)))))
            exact ⟨F_1, n_2, rfl, rfl, rfl, rfl, hK, hS, hL_l, hM⟩
        · replace hM := hM.2 (of_decide_eq_false c_3)
          refine HA.past (k := 23) rfl rfl (by kernel_rfl) (by kernel_rfl) (past_by rfl rfl c_3) rfl ?_
          refine HA.past (k := 24) rfl rfl (by kernel_rfl) (by kernel_rfl) (past_by rfl rfl c_3) rfl ?_
          refine HA.past (k := 25) rfl rfl (by kernel_rfl) (by kernel_rfl) (past_by rfl rfl c_3) rfl ?_
          refine HA.past (k := 26) rfl rfl (by kernel_rfl) (by kernel_rfl) (past_by rfl rfl c_3) rfl ?_
          refine HA.past (k := 27) rfl rfl (by kernel_rfl) (by kernel_rfl) (past_by rfl rfl c_3) rfl ?_
          refine HA.past (k := 28) rfl rfl (by kernel_rfl) (by kernel_rfl) (past_by rfl rfl c_3) rfl ?_
          refine HA.past (k := 29) rfl rfl (by kernel_rfl) (by kernel_rfl) (past_by rfl rfl c_3) rfl ?_
          refine HA.past (k := 30) rfl rfl (by kernel_rfl) (by kernel_rfl) (past_by rfl rfl c_3) rfl ?_
          refine HA.val (k := 31) (v := .bool false) rfl rfl (by kernel_rfl) (by kernel_rfl) (want_by rfl rfl c_2) rfl (fun _ ⟨hL_l, c303⟩ => q_pickK false rfl c_3 rfl) ?_
          refine HA.val (k := 32) (v := .bool false) rfl rfl (by kernel_rfl) (by kernel_rfl) (want_by rfl rfl c_1) rfl (fun _ ⟨hL_l, c303⟩ => q_pickK false rfl c_2 rfl) ?_
          refine HA.val (k := 33) (v := .bool false) rfl rfl (by kernel_rfl) (by kernel_rfl) (want_none) rfl (fun _ ⟨hL_l, c303⟩ => q_pickK true rfl c_1 rfl) ?_
          refine HA.nil ⟨⟨hL_l.is, (hS.box 0 rfl)⟩, (Go.Wk.at_nil _ _)⟩ (by kernel_rfl) (thenQ_normal (?_))
          refine HW.condF rfl ?_
          refine HW.exit (thenQ_exit (thenQ_exit (blockQ_exit (thenQ_normal (?_)))))
          exact ⟨F_1, n_2, rfl, rfl, rfl, rfl, hK, hS, hL_l, hM⟩
    · replace hM := hM.2 (of_decide_eq_false c_1)
      refine HA.past (k := 5) rfl rfl (by kernel_rfl) (by kernel_rfl) (past_by rfl rfl c_1) rfl ?_
      refine HA.past (k := 6) rfl rfl (by kernel_rfl) (by kernel_rfl) (past_by rfl rfl c_1) rfl ?_
      refine HA.past (k := 7) rfl rfl (by kernel_rfl) (by kernel_rfl) (past_by rfl rfl c_1) rfl ?_
      refine HA.past (k := 8) rfl rfl (by kernel_rfl) (by kernel_rfl) (past_by rfl rfl c_1) rfl ?_
      refine HA.past (k := 9) rfl rfl (by kernel_rfl) (by kernel_rfl) (past_by rfl rfl c_1) rfl ?_
      refine HA.past (k := 10) rfl rfl (by kernel_rfl) (by kernel_rfl) (past_by rfl rfl c_1) rfl ?_
      refine HA.past (k := 11) rfl rfl (by kernel_rfl) (by kernel_rfl) (past_by rfl rfl c_1) rfl ?_
      refine HA.past (k := 12) rfl rfl (by kernel_rfl) (by kernel_rfl) (past_by rfl rfl c_1) rfl ?_
      refine HA.past (k := 13) rfl rfl (by kernel_rfl) (by kernel_rfl) (past_by rfl rfl c_1) rfl ?_
      refine HA.past (k := 14) rfl rfl (by kernel_rfl) (by kernel_rfl) (past_undef rfl rfl) rfl ?_
      refine HA.past (k := 15) rfl rfl (by kernel_rfl) (by kernel_rfl) (past_undef rfl rfl) rfl ?_
      refine HA.past (k := 16) rfl rfl (by kernel_rfl) (by kernel_rfl) (past_undef rfl rfl) rfl ?_
      refine HA.past (k := 17) rfl rfl (by kernel_rfl) (by kernel_rfl) (past_undef rfl rfl) rfl ?_
      refine HA.past (k := 18) rfl rfl (by kernel_rfl) (by kernel_rfl) (past_undef rfl rfl) rfl ?_
      refine HA.past (k := 19) rfl rfl (by kernel_rfl) (by kernel_rfl) (past_undef rfl rfl) rfl ?_
      refine HA.past (k := 20) rfl rfl (by kernel_rfl) (by kernel_rfl) (past_undef rfl rfl) rfl ?_
      refine HA.past (k := 21) rfl rfl (by kernel_rfl) (by kernel_rfl) (past_undef rfl rfl) rfl ?_
      refine HA.past (k := 22) rfl rfl (by kernel_rfl) (by kernel_rfl) (past_undef rfl rfl) rfl ?_
      refine HA.past (k := 23) rfl rfl (by kernel_rfl) (by kernel_rfl) (past_undef rfl rfl) rfl ?_
      refine HA.past (k := 24) rfl rfl (by kernel_rfl) (by kernel_rfl) (past_undef rfl rfl) rfl ?_
      refine HA.past (k := 25) rfl rfl (by kernel_rfl) (by kernel_rfl) (past_undef rfl rfl) rfl ?_
      refine HA.past (k := 26) rfl rfl (by kernel_rfl) (by kernel_rfl) (past_undef rfl rfl) rfl ?_
      refine HA.past (k := 27) rfl rfl (by kernel_rfl) (by kernel_rfl) (past_undef rfl rfl) rfl ?_
      refine HA.past (k := 28) rfl rfl (by kernel_rfl) (by kernel_rfl) (past_undef rfl rfl) rfl ?_
      refine HA.past (k := 29) rfl rfl (by kernel_rfl) (by kernel_rfl) (past_undef rfl rfl) rfl ?_
      refine HA.past (k := 30) rfl rfl (by kernel_rfl) (by kernel_rfl) (past_undef rfl rfl) rfl ?_
      refine HA.past (k := 31) rfl rfl (by kernel_rfl) (by kernel_rfl) (past_undef rfl rfl) rfl ?_
      refine HA.past (k := 32) rfl rfl (by kernel_rfl) (by kernel_rfl) (past_by rfl rfl c_1) rfl ?_
      refine HA.val (k := 33) (v := .bool false) rfl rfl (by kernel_rfl) (by kernel_rfl) (want_none) rfl (fun _ ⟨hL_l, c303⟩ => q_pickK false rfl c_1 rfl) ?_
      refine HA.nil ⟨⟨hL_l.is, (hS.box 0 rfl)⟩, (Go.Wk.at_nil _ _)⟩ (by kernel_rfl) (thenQ_normal (?_))
      refine HW.condF rfl ?_
      refine HW.exit (thenQ_exit (thenQ_exit (blockQ_exit (thenQ_normal (?_)))))
      exact ⟨F_1, n_2, rfl, rfl, rfl, rfl, hK, hS, hL_l, hM⟩
  · rintro f_2 h_3 ⟨F_2, n_1, e0, e3, e4, e5, hK, hS, hL_l, hM⟩
    unfold ref44_Add_j1 at hM
    refine HW.fr [(0, vl), (3, .pointer (some ⟨b_1, 0, none⟩)), (4, .slice none 0 0), (5, .int .i64 n_1)] ⟨e0, e3, e4, e5, trivial⟩ ?_
    refine HW.seq_mid (fun f h => ∃ (F' : Fz), f 0 = vl ∧ f 3 = .pointer (some ⟨b_1, 0, none⟩) ∧ f 4 = .slice none 0 0 ∧ f 5 = .int .i64 n_1 ∧ Kp F h0 F' h ∧ St F' (Ow.box b_1 100 #[.int .i64 s1.1, .int .i64 s1.2] :: fr) h ∧ (SliceF F' h 2 e_api_Spot vl l) ∧ ref44_Add_j2 l s1 Q n_1) ?_ ?_
    · refine HW.seq ?_
      refine HW.regionA 12 mixed (fun h => (SliceIs h 2 e_api_Spot vl l) ∧ (Blk h b_1 (.cells #[.int .i64 s1.1, .int .i64 s1.2] 100 (0, 0)))) [] (by kernel_rfl) ?_
      refine HA.val (k := 0) (v := .int .i64 n_1) rfl rfl (by kernel_rfl) (by kernel_rfl) (want_none) rfl (fun _ ⟨hL_l, c202⟩ => q_move rfl) ?_
      refine HA.val (k := 1) (v := vl) rfl rfl (by kernel_rfl) (by kernel_rfl) (want_none) rfl (fun _ ⟨hL_l, c202⟩ => q_move rfl) ?_
      refine HA.val (k := 2) (v := .int .i64 (l.length : Int)) rfl rfl (by kernel_rfl) (by kernel_rfl) (want_none) rfl (fun _ ⟨hL_l, c202⟩ => q_len ts_98 (shp hL_l) rfl rfl) ?_
      refine HA.val (k := 3) (v := .bool (decide (n_1 < (l.length : Int)))) rfl rfl (by kernel_rfl) (by kernel_rfl) (want_none) rfl (fun _ ⟨hL_l, c202⟩ => q_lss rfl rfl) ?_
      refine HA.val (k := 4) (v := .bool (decide (n_1 < (l.length : Int)))) rfl rfl (by kernel_rfl) (by kernel_rfl) (want_none) rfl (fun _ ⟨hL_l, c202⟩ => q_move rfl) ?_
      rcases Bool.eq_false_or_eq_true (decide (n_1 < (l.length : Int))) with c_5 | c_5
      · replace hM := hM.1 (of_decide_eq_true c_5)
        refine HA.val (k := 5) (v := vl) rfl rfl (by kernel_rfl) (by kernel_rfl) (want_by rfl rfl c_5) rfl (fun _ ⟨hL_l, c202⟩ => q_move rfl) ?_
        refine HA.val (k := 6) (v := .int .i64 n_1) rfl rfl (by kernel_rfl) (by kernel_rfl) (want_by rfl rfl c_5) rfl (fun _ ⟨hL_l, c202⟩ => q_move rfl) ?_
        obtain ⟨ho_4, hM⟩ := hM
        refine HA.val (k := 7) (v := elemPtr 2 vl (n_1).toNat) rfl rfl (by kernel_rfl) (by kernel_rfl) (want_by rfl rfl c_5) rfl (fun _ ⟨hL_l, c202⟩ => q_idx ts_98 hL_l rfl rfl ho_4) ?_
        refine HA.val (k := 8) (v := .agg #[.int .i64 ((gi l n_1).1), .int .i64 ((gi l n_1).2)]) rfl rfl (by kernel_rfl) (by kernel_rfl) (want_by rfl rfl c_5) rfl (fun _ ⟨hL_l, c202⟩ => q_ldElemAgg (cs := [.int .i64 ((gi l n_1).1), .int .i64 ((gi l n_1).2)]) ta_100 hL_l rfl ho_4 rfl) ?_
        refine HA.val (k := 9) (v := .agg #[.int .i64 s1.1, .int .i64 s1.2]) rfl rfl (by kernel_rfl) (by kernel_rfl) (want_by rfl rfl c_5) rfl (fun _ ⟨hL_l, c202⟩ => q_loadAgg (cs := [.int .i64 s1.1, .int .i64 s1.2]) ta_100 rfl rfl (Blk.cells (k := 2) c202 rfl)) ?_
        refine HA.val (k := 10) (v := .bool (decide (((gi l n_1) : Int × Int) = s1))) rfl rfl (by kernel_rfl) (by kernel_rfl) (want_by rfl rfl c_5) rfl (fun _ ⟨hL_l, c202⟩ => q_eqlAgg (a := (gi l n_1)) (b := s1) (fun a b w => teq_100 9998 a b w) (by kernel_rfl) rfl rfl rfl rfl) ?_
        refine HA.val (k := 11) (v := .bool (decide (((gi l n_1) : Int × Int) = s1))) rfl rfl (by kernel_rfl) (by kernel_rfl) (want_none) rfl (fun _ ⟨hL_l, c202⟩ => q_pickK true rfl c_5 rfl) ?_
        refine HA.nil ⟨⟨hL_l.is, (hS.box 0 rfl)⟩, (Go.Wk.at_nil _ _)⟩ (by kernel_rfl) (thenQ_normal (?_))
        refine HW.cond (decide (((gi l n_1) : Int × Int) = s1)) rfl (fun c_6 => ?_) (fun c_6 => ?_)
        · replace hM := hM.1 (of_decide_eq_true c_6)
          refine HW.seq ?_
          refine HW.region ?_
          refine HO.val (v := vl) (want_none) rfl (q_move rfl) ?_
          refine HO.val (v := vl) (want_none) rfl (q_assign rfl) ?_
          refine HO.nil (thenQ_normal (?_))
          refine HW.ret (thenQ_ret (?_))
          refine ⟨.inr rfl, vl, res1 rfl (rt rfl), ?_⟩
          replace hS : St F_2 (fr) h_3 := St.perm (front := [Ow.box b_1 100 #[.int .i64 s1.1, .int .i64 s1.2]]) (fr := fr) hS [] 1 rfl (by decide) [] rfl
          exact ⟨F_2, l, vl, rfl, hK, hS, hL_l, hL_l, hM⟩
        · replace hM := hM.2 (of_decide_eq_false c_6)
          refine HW.skip (thenQ_normal (?_))
          exact ⟨F_2, rfl, rfl, rfl, rfl, hK, hS, hL_l, hM⟩
      · replace hM := hM.2 (of_decide_eq_false c_5)
        refine HA.past (k := 5) rfl rfl (by kernel_rfl) (by kernel_rfl) (past_by rfl rfl c_5) rfl ?_
        refine HA.past (k := 6) rfl rfl (by kernel_rfl) (by kernel_rfl) (past_by rfl rfl c_5) rfl ?_
        refine HA.past (k := 7) rfl rfl (by kernel_rfl) (by kernel_rfl) (past_by rfl rfl c_5) rfl ?_
        refine HA.past (k := 8) rfl rfl (by kernel_rfl) (by kernel_rfl) (past_by rfl rfl c_5) rfl ?_
        refine HA.past (k := 9) rfl rfl (by kernel_rfl) (by kernel_rfl) (past_by rfl rfl c_5) rfl ?_
        refine HA.past (k := 10) rfl rfl (by kernel_rfl) (by kernel_rfl) (past_by rfl rfl c_5) rfl ?_
        refine HA.val (k := 11) (v := .bool false) rfl rfl (by kernel_rfl) (by kernel_rfl) (want_none) rfl (fun _ ⟨hL_l, c202⟩ => q_pickK false rfl c_5 rfl) ?_
        refine HA.nil ⟨⟨hL_l.is, (hS.box 0 rfl)⟩, (Go.Wk.at_nil _ _)⟩ (by kernel_rfl) (thenQ_normal (?_))
        refine HW.condF rfl ?_
        refine HW.skip (thenQ_normal (?_))
        exact ⟨F_2, rfl, rfl, rfl, rfl, hK, hS, hL_l, hM⟩
    · rintro f_3 h_4 ⟨F_3, e0, e3, e4, e5, hK, hS, hL_l, hM⟩
      unfold ref44_Add_j2 at hM
      refine HW.fr [(0, vl), (3, .pointer (some ⟨b_1, 0, none⟩)), (4, .slice none 0 0), (5, .int .i64 n_1)] ⟨e0, e3, e4, e5, trivial⟩ ?_
      refine HW.seq ?_
      obtain ⟨ho_5, hM⟩ := hM
      obtain ⟨ho_6, hM⟩ := hM
      obtain ⟨ho_7, hM⟩ := hM
      obtain ⟨ho_8, hM⟩ := hM
      refine HW.regionA 13 mixed (fun h => (SliceIs h 2 e_api_Spot vl l) ∧ (Blk h b_1 (.cells #[.int .i64 s1.1, .int .i64 s1.2] 100 (0, 0)))) [] (by kernel_rfl) ?_
      refine HA.val (k := 1) (v := vl) rfl rfl (by kernel_rfl) (by kernel_rfl) (want_none) rfl (fun _ ⟨hL_l, c203⟩ => q_move rfl) ?_
      refine HA.val (k := 2) (v := .int .i64 n_1) rfl rfl (by kernel_rfl) (by kernel_rfl) (want_none) rfl (fun _ ⟨hL_l, c203⟩ => q_move rfl) ?_
      refine HA.val (k := 3) (v := cutV 2 vl (0 : Int).toNat (n_1).toNat) rfl rfl (by kernel_rfl) (by kernel_rfl) (want_none) rfl (fun _ ⟨hL_l, c203⟩ => q_slH ts_98 hL_l rfl rfl ho_5) ?_
      refine HA.val (k := 5) (v := .agg #[.int .i64 s1.1, .int .i64 s1.2]) rfl rfl (by kernel_rfl) (by kernel_rfl) (want_none) rfl (fun _ ⟨hL_l, c203⟩ => q_loadAgg (cs := [.int .i64 s1.1, .int .i64 s1.2]) ta_100 rfl rfl (Blk.cells (k := 2) c203 rfl)) ?_
      refine HA.val (k := 8) (v := vl) rfl rfl (by kernel_rfl) (by kernel_rfl) (want_none) rfl (fun _ ⟨hL_l, c203⟩ => q_move rfl) ?_
      refine HA.val (k := 9) (v := .int .i64 n_1) rfl rfl (by kernel_rfl) (by kernel_rfl) (want_none) rfl (fun _ ⟨hL_l, c203⟩ => q_move rfl) ?_
      refine HA.val (k := 10) (v := cutV 2 vl (n_1).toNat ((l.length : Int)).toNat) rfl rfl (by kernel_rfl) (by kernel_rfl) (want_none) rfl (fun _ ⟨hL_l, c203⟩ => q_slL ts_98 hL_l rfl rfl ho_5) ?_
      refine HA.two (k := 0) (k' := 6) ⟨⟨hL_l.is, (hS.box 0 rfl)⟩, (Go.Wk.at_nil _ _)⟩ (by kernel_rfl) ?_ ?_
      · refine HS.eff rfl (want_none) rfl (st_litEmpty (α := Int × Int) e_api_Spot hS tl_98) ?_
        rintro _ h_5 ⟨b_2, rfl, hS, hk⟩
        replace hK := hK.trans hk
        replace hL_l := hL_l.kp hk
        refine Go.Wk.HA.re (fun h => (SliceIs h 2 e_api_Spot vl l) ∧ (Blk h b_1 (.cells #[.int .i64 s1.1, .int .i64 s1.2] 100 (0, 0)))) [(4, fun h => (OwnIs h 0 100 2 e_api_Spot (.slice (some ⟨b_2, 0, none⟩) 0 0) ([] : List (Int × Int))))] (fun L_ h_ hL_ ⟨hL_l, c203⟩ hs_ => ⟨⟨hL_l, c203⟩, (Go.Wk.at_nil _ _)⟩) ?_
        refine HA.two (k := 4) (k' := 6) ⟨⟨hL_l.is, (hS.box 1 rfl)⟩, (at_now (hS.own 0 rfl) (Go.Wk.at_nil _ _))⟩ (by kernel_rfl) ?_ ?_
        · refine HS.eff rfl (want_none) rfl (st_append te_98 hS (i := 0) rfl (cutIs hL_l.is 0 n_1 (Int.le_refl _) ho_5.1 ho_5.2) rfl rfl rfl (by intro a _ u hu; simp [e_api_Spot, encI, encN, encB, encT] at hu; rcases hu with rfl | rfl <;> rfl) ho_6 (by omega)) ?_
          rintro v_1 h_6 ⟨hS, hk⟩
          replace hS : St F_3 (Ow.own 100 2 e_api_Spot v_1 (([] : List (Int × Int)) ++ (cut l 0 n_1)) :: Ow.box b_1 100 #[.int .i64 s1.1, .int .i64 s1.2] :: fr) h_6 := hS
          replace hK := hK.trans hk
          replace hL_l := hL_l.kp hk
          refine Go.Wk.HA.re (fun h => (SliceIs h 2 e_api_Spot vl l) ∧ (Blk h b_1 (.cells #[.int .i64 s1.1, .int .i64 s1.2] 100 (0, 0)))) [(7, fun h => (OwnIs h 0 100 2 e_api_Spot v_1 (([] : List (Int × Int)) ++ (cut l 0 n_1))))] (fun L_ h_ hL_ ⟨hL_l, c203⟩ hs_ => ⟨⟨hL_l, c203⟩, (at_gone hL_ (by kernel_rfl) (Go.Wk.at_nil _ _))⟩) ?_
          refine HA.one (k := 6) ⟨⟨hL_l.is, (hS.box 1 rfl)⟩, (at_now (hS.own 0 rfl) (Go.Wk.at_nil _ _))⟩ (by kernel_rfl) ?_
          refine HS.eff rfl (want_none) rfl (st_lit (enc := e_api_Spot) (cells := #[.int .i64 s1.1, .int .i64 s1.2]) #[.int .i64 0, .int .i64 0] ([s1] : List (Int × Int)) hS tl_98 (by decide) (by decide) (by kernel_rfl) (by kernel_rfl) rfl (by intro x hx; rfl) rfl) ?_
          rintro _ h_7 ⟨b_3, rfl, hS, hk⟩
          replace hK := hK.trans hk
          replace hL_l := hL_l.kp hk
          refine Go.Wk.HA.re (fun h => (SliceIs h 2 e_api_Spot vl l) ∧ (OwnIs h 0 100 2 e_api_Spot (.slice (some ⟨b_3, 0, none⟩) 1 1) ([s1] : List (Int × Int))) ∧ (Blk h b_1 (.cells #[.int .i64 s1.1, .int .i64 s1.2] 100 (0, 0)))) [(7, fun h => (OwnIs h 0 100 2 e_api_Spot v_1 (([] : List (Int × Int)) ++ (cut l 0 n_1))))] (fun L_ h_ hL_ ⟨hL_l, c240, c203⟩ hs_ => ⟨⟨hL_l, c203⟩, (at_keep 0 rfl hs_ (fun c204 => c204) (Go.Wk.at_nil _ _))⟩) ?_
          refine HA.one (k := 7) ⟨⟨hL_l.is, (hS.own 0 rfl), (hS.box 2 rfl)⟩, (at_now (hS.own 1 rfl) (Go.Wk.at_nil _ _))⟩ (by kernel_rfl) ?_
          refine HS.eff rfl (want_none) rfl (st_append te_98 hS (i := 1) rfl (hS.own 0 rfl).slice rfl rfl rfl (by intro a _ u hu; simp [e_api_Spot, encI, encN, encB, encT] at hu; rcases hu with rfl | rfl <;> rfl) ho_7 (by omega)) ?_
          rintro v_2 h_8 ⟨hS, hk⟩
          replace hS : St F_3 (Ow.own 100 2 e_api_Spot (.slice (some ⟨b_3, 0, none⟩) 1 1) ([s1] : List (Int × Int)) :: Ow.own 100 2 e_api_Spot v_2 ((([] : List (Int × Int)) ++ (cut l 0 n_1)) ++ ([s1] : List (Int × Int))) :: Ow.box b_1 100 #[.int .i64 s1.1, .int .i64 s1.2] :: fr) h_8 := hS
          replace hK := hK.trans hk
          replace hL_l := hL_l.kp hk
          refine Go.Wk.HA.re (fun h => (SliceIs h 2 e_api_Spot vl l) ∧ (OwnIs h 0 100 2 e_api_Spot (.slice (some ⟨b_3, 0, none⟩) 1 1) ([s1] : List (Int × Int))) ∧ (Blk h b_1 (.cells #[.int .i64 s1.1, .int .i64 s1.2] 100 (0, 0)))) [(11, fun h => (OwnIs h 0 100 2 e_api_Spot v_2 ((([] : List (Int × Int)) ++ (cut l 0 n_1)) ++ ([s1] : List (Int × Int)))))] (fun L_ h_ hL_ ⟨hL_l, c240, c203⟩ hs_ => ⟨⟨hL_l, c240, c203⟩, (at_gone hL_ (by kernel_rfl) (Go.Wk.at_nil _ _))⟩) ?_
          refine HA.one (k := 11) ⟨⟨hL_l.is, (hS.own 0 rfl), (hS.box 2 rfl)⟩, (at_now (hS.own 1 rfl) (Go.Wk.at_nil _ _))⟩ (by kernel_rfl) ?_
          refine HS.eff rfl (want_none) rfl (st_append te_98 hS (i := 1) rfl (cutIs hL_l.is n_1 (l.length : Int) ho_5.1 ho_5.2 (Int.le_refl _)) rfl rfl rfl (by intro a _ u hu; simp [e_api_Spot, encI, encN, encB, encT] at hu; rcases hu with rfl | rfl <;> rfl) ho_8 (by omega)) ?_
          rintro v_3 h_9 ⟨hS, hk⟩
          replace hS : St F_3 (Ow.own 100 2 e_api_Spot (.slice (some ⟨b_3, 0, none⟩) 1 1) ([s1] : List (Int × Int)) :: Ow.own 100 2 e_api_Spot v_3 (((([] : List (Int × Int)) ++ (cut l 0 n_1)) ++ ([s1] : List (Int × Int))) ++ (cut l n_1 (l.length : Int))) :: Ow.box b_1 100 #[.int .i64 s1.1, .int .i64 s1.2] :: fr) h_9 := hS
          replace hK := hK.trans hk
          replace hL_l := hL_l.kp hk
          refine HA.val (k := 12) (v := v_3) rfl rfl (by kernel_rfl) (by kernel_rfl) (want_none) rfl (fun _ ⟨hL_l, c240, c203⟩ => q_assign rfl) ?_
          refine HA.nil ⟨⟨hL_l.is, (hS.own 0 rfl), (hS.box 2 rfl)⟩, (at_done (by kernel_rfl) (Go.Wk.at_nil _ _))⟩ (by kernel_rfl) (thenQ_normal (?_))
          refine HW.ret (?_)
          refine ⟨.inr rfl, v_3, res1 rfl (rt rfl), ?_⟩
          replace hS : St F_3 (Ow.own 100 2 e_api_Spot v_3 (((([] : List (Int × Int)) ++ (cut l 0 n_1)) ++ ([s1] : List (Int × Int))) ++ (cut l n_1 (l.length : Int))) :: Ow.own 100 2 e_api_Spot (.slice (some ⟨b_3, 0, none⟩) 1 1) ([s1] : List (Int × Int)) :: Ow.box b_1 100 #[.int .i64 s1.1, .int .i64 s1.2] :: fr) h_9 := St.perm (front := [Ow.own 100 2 e_api_Spot (.slice (some ⟨b_3, 0, none⟩) 1 1) ([s1] : List (Int × Int)), Ow.own 100 2 e_api_Spot v_3 (((([] : List (Int × Int)) ++ (cut l 0 n_1)) ++ ([s1] : List (Int × Int))) ++ (cut l n_1 (l.length : Int))), Ow.box b_1 100 #[.int .i64 s1.1, .int .i64 s1.2]]) (fr := fr) hS [1, 0, 2] 3 rfl (by decide) [Ow.own 100 2 e_api_Spot v_3 (((([] : List (Int × Int)) ++ (cut l 0 n_1)) ++ ([s1] : List (Int × Int))) ++ (cut l n_1 (l.length : Int))), Ow.own 100 2 e_api_Spot (.slice (some ⟨b_3, 0, none⟩) 1 1) ([s1] : List (Int × Int)), Ow.box b_1 100 #[.int .i64 s1.1, .int .i64 s1.2]] rfl
          obtain ⟨F_4, hS, hk, hL_2⟩ := hS.freezeOwn
          replace hK := hK.trans hk
          replace hL_l := hL_l.kp hk
          replace hS : St F_4 (fr) h_9 := St.perm (front := [Ow.own 100 2 e_api_Spot (.slice (some ⟨b_3, 0, none⟩) 1 1) ([s1] : List (Int × Int)), Ow.box b_1 100 #[.int .i64 s1.1, .int .i64 s1.2]]) (fr := fr) hS [] 2 rfl (by decide) [] rfl
          exact ⟨F_4, ((([] : List (Int × Int)) ++ (cut l 0 n_1)) ++ ([s1] : List (Int × Int))) ++ (cut l n_1 (l.length : Int)), v_3, rfl, hK, hS, hL_l, hL_2, hM⟩
        · refine HS.eff rfl (want_none) rfl (st_lit (enc := e_api_Spot) (cells := #[.int .i64 s1.1, .int .i64 s1.2]) #[.int .i64 0, .int .i64 0] ([s1] : List (Int × Int)) hS tl_98 (by decide) (by decide) (by kernel_rfl) (by kernel_rfl) rfl (by intro x hx; rfl) rfl) ?_
          rintro _ h_6 ⟨b_3, rfl, hS, hk⟩
          replace hK := hK.trans hk
          replace hL_l := hL_l.kp hk
          refine Go.Wk.HA.re (fun h => (SliceIs h 2 e_api_Spot vl l) ∧ (OwnIs h 0 100 2 e_api_Spot (.slice (some ⟨b_3, 0, none⟩) 1 1) ([s1] : List (Int × Int))) ∧ (Blk h b_1 (.cells #[.int .i64 s1.1, .int .i64 s1.2] 100 (0, 0)))) [(4, fun h => (OwnIs h 0 100 2 e_api_Spot (.slice (some ⟨b_2, 0, none⟩) 0 0) ([] : List (Int × Int))))] (fun L_ h_ hL_ ⟨hL_l, c240, c203⟩ hs_ => ⟨⟨hL_l, c203⟩, (at_keep 0 rfl hs_ (fun c204 => c204) (Go.Wk.at_nil _ _))⟩) ?_
          refine HA.one (k := 4) ⟨⟨hL_l.is, (hS.own 0 rfl), (hS.box 2 rfl)⟩, (at_now (hS.own 1 rfl) (Go.Wk.at_nil _ _))⟩ (by kernel_rfl) ?_
          refine HS.eff rfl (want_none) rfl (st_append te_98 hS (i := 1) rfl (cutIs hL_l.is 0 n_1 (Int.le_refl _) ho_5.1 ho_5.2) rfl rfl rfl (by intro a _ u hu; simp [e_api_Spot, encI, encN, encB, encT] at hu; rcases hu with rfl | rfl <;> rfl) ho_6 (by omega)) ?_
          rintro v_1 h_7 ⟨hS, hk⟩
          replace hS : St F_3 (Ow.own 100 2 e_api_Spot (.slice (some ⟨b_3, 0, none⟩) 1 1) ([s1] : List (Int × Int)) :: Ow.own 100 2 e_api_Spot v_1 (([] : List (Int × Int)) ++ (cut l 0 n_1)) :: Ow.box b_1 100 #[.int .i64 s1.1, .int .i64 s1.2] :: fr) h_7 := hS
          replace hK := hK.trans hk
          replace hL_l := hL_l.kp hk
          refine Go.Wk.HA.re (fun h => (SliceIs h 2 e_api_Spot vl l) ∧ (OwnIs h 0 100 2 e_api_Spot (.slice (some ⟨b_3, 0, none⟩) 1 1) ([s1] : List (Int × Int))) ∧ (Blk h b_1 (.cells #[.int .i64 s1.1, .int .i64 s1.2] 100 (0, 0)))) [(7, fun h => (OwnIs h 0 100 2 e_api_Spot v_1 (([] : List (Int × Int)) ++ (cut l 0 n_1))))] (fun L_ h_ hL_ ⟨hL_l, c240, c203⟩ hs_ => ⟨⟨hL_l, c240, c203⟩, (at_gone hL_ (by kernel_rfl) (Go.Wk.at_nil _ _))⟩) ?_
          refine HA.one (k := 7) ⟨⟨hL_l.is, (hS.own 0 rfl), (hS.box 2 rfl)⟩, (at_now (hS.own 1 rfl) (Go.Wk.at_nil _ _))⟩ (by kernel_rfl) ?_
          refine HS.eff rfl (want_none) rfl (st_append te_98 hS (i := 1) rfl (hS.own 0 rfl).slice rfl rfl rfl (by intro a _ u hu; simp [e_api_Spot, encI, encN, encB, encT] at hu; rcases hu with rfl | rfl <;> rfl) ho_7 (by omega)) ?_
          rintro v_2 h_8 ⟨hS, hk⟩
          replace hS : St F_3 (Ow.own 100 2 e_api_Spot (.slice (some ⟨b_3, 0, none⟩) 1 1) ([s1] : List (Int × Int)) :: Ow.own 100 2 e_api_Spot v_2 ((([] : List (Int × Int)) ++ (cut l 0 n_1)) ++ ([s1] : List (Int × Int))) :: Ow.box b_1 100 #[.int .i64 s1.1, .int .i64 s1.2] :: fr) h_8 := hS
          replace hK := hK.trans hk
          replace hL_l := hL_l.kp hk
          refine Go.Wk.HA.re (fun h => (SliceIs h 2 e_api_Spot vl l) ∧ (OwnIs h 0 100 2 e_api_Spot (.slice (some ⟨b_3, 0, none⟩) 1 1) ([s1] : List (Int × Int))) ∧ (Blk h b_1 (.cells #[.int .i64 s1.1, .int .i64 s1.2] 100 (0, 0)))) [(11, fun h => (OwnIs h 0 100 2 e_api_Spot v_2 ((([] : List (Int × Int)) ++ (cut l 0 n_1)) ++ ([s1] : List (Int × Int)))))] (fun L_ h_ hL_ ⟨hL_l, c240, c203⟩ hs_ => ⟨⟨hL_l, c240, c203⟩, (at_gone hL_ (by kernel_rfl) (Go.Wk.at_nil _ _))⟩) ?_
          refine HA.one (k := 11) ⟨⟨hL_l.is, (hS.own 0 rfl), (hS.box 2 rfl)⟩, (at_now (hS.own 1 rfl) (Go.Wk.at_nil _ _))⟩ (by kernel_rfl) ?_
          refine HS.eff rfl (want_none) rfl (st_append te_98 hS (i := 1) rfl (cutIs hL_l.is n_1 (l.length : Int) ho_5.1 ho_5.2 (Int.le_refl _)) rfl rfl rfl (by intro a _ u hu; simp [e_api_Spot, encI, encN, encB, encT] at hu; rcases hu with rfl | rfl <;> rfl) ho_8 (by omega)) ?_
          rintro v_3 h_9 ⟨hS, hk⟩
          replace hS : St F_3 (Ow.own 100 2 e_api_Spot (.slice (some ⟨b_3, 0, none⟩) 1 1) ([s1] : List (Int × Int)) :: Ow.own 100 2 e_api_Spot v_3 (((([] : List (Int × Int)) ++ (cut l 0 n_1)) ++ ([s1] : List (Int × Int))) ++ (cut l n_1 (l.length : Int))) :: Ow.box b_1 100 #[.int .i64 s1.1, .int .i64 s1.2] :: fr) h_9 := hS
          replace hK := hK.trans hk
          replace hL_l := hL_l.kp hk
          refine HA.val (k := 12) (v := v_3) rfl rfl (by kernel_rfl) (by kernel_rfl) (want_none) rfl (fun _ ⟨hL_l, c240, c203⟩ => q_assign rfl) ?_
          refine HA.nil ⟨⟨hL_l.is, (hS.own 0 rfl), (hS.box 2 rfl)⟩, (at_done (by kernel_rfl) (Go.Wk.at_nil _ _))⟩ (by kernel_rfl) (thenQ_normal (?_))
          refine HW.ret (?_)
          refine ⟨.inr rfl, v_3, res1 rfl (rt rfl), ?_⟩
          replace hS : St F_3 (Ow.own 100 2 e_api_Spot v_3 (((([] : List (Int × Int)) ++ (cut l 0 n_1)) ++ ([s1] : List (Int × Int))) ++ (cut l n_1 (l.length : Int))) :: Ow.own 100 2 e_api_Spot (.slice (some ⟨b_3, 0, none⟩) 1 1) ([s1] : List (Int × Int)) :: Ow.box b_1 100 #[.int .i64 s1.1, .int .i64 s1.2] :: fr) h_9 := St.perm (front := [Ow.own 100 2 e_api_Spot (.slice (some ⟨b_3, 0, none⟩) 1 1) ([s1] : List (Int × Int)), Ow.own 100 2 e_api_Spot v_3 (((([] : List (Int × Int)) ++ (cut l 0 n_1)) ++ ([s1] : List (Int × Int))) ++ (cut l n_1 (l.length : Int))), Ow.box b_1 100 #[.int .i64 s1.1, .int .i64 s1.2]]) (fr := fr) hS [1, 0, 2] 3 rfl (by decide) [Ow.own 100 2 e_api_Spot v_3 (((([] : List (Int × Int)) ++ (cut l 0 n_1)) ++ ([s1] : List (Int × Int))) ++ (cut l n_1 (l.length : Int))), Ow.own 100 2 e_api_Spot (.slice (some ⟨b_3, 0, none⟩) 1 1) ([s1] : List (Int × Int)), Ow.box b_1 100 #[.int .i64 s1.1, .int .i64 s1.2]] rfl
          obtain ⟨F_4, hS, hk, hL_2⟩ := hS.freezeOwn
          replace hK := hK.trans hk
          replace hL_l := hL_l.kp hk
          replace hS : St F_4 (fr) h_9 := St.perm (front := [Ow.own 100 2 e_api_Spot (.slice (some ⟨b_3, 0, none⟩) 1 1) ([s1] : List (Int × Int)), Ow.box b_1 100 #[.int .i64 s1.1, .int .i64 s1.2]]) (fr := fr) hS [] 2 rfl (by decide) [] rfl
          exact ⟨F_4, ((([] : List (Int × Int)) ++ (cut l 0 n_1)) ++ ([s1] : List (Int × Int))) ++ (cut l n_1 (l.length : Int)), v_3, rfl, hK, hS, hL_l, hL_2, hM⟩
      · refine HS.eff rfl (want_none) rfl (st_lit (enc := e_api_Spot) (cells := #[.int .i64 s1.1, .int .i64 s1.2]) #[.int .i64 0, .int .i64 0] ([s1] : List (Int × Int)) hS tl_98 (by decide) (by decide) (by kernel_rfl) (by kernel_rfl) rfl (by intro x hx; rfl) rfl) ?_
        rintro _ h_5 ⟨b_2, rfl, hS, hk⟩
        replace hK := hK.trans hk
        replace hL_l := hL_l.kp hk
        refine Go.Wk.HA.re (fun h => (SliceIs h 2 e_api_Spot vl l) ∧ (OwnIs h 0 100 2 e_api_Spot (.slice (some ⟨b_2, 0, none⟩) 1 1) ([s1] : List (Int × Int))) ∧ (Blk h b_1 (.cells #[.int .i64 s1.1, .int .i64 s1.2] 100 (0, 0)))) [] (fun L_ h_ hL_ ⟨hL_l, c240, c203⟩ hs_ => ⟨⟨hL_l, c203⟩, (Go.Wk.at_nil _ _)⟩) ?_
        refine HA.one (k := 0) ⟨⟨hL_l.is, (hS.own 0 rfl), (hS.box 1 rfl)⟩, (Go.Wk.at_nil _ _)⟩ (by kernel_rfl) ?_
        refine HS.eff rfl (want_none) rfl (st_litEmpty (α := Int × Int) e_api_Spot hS tl_98) ?_
        rintro _ h_6 ⟨b_3, rfl, hS, hk⟩
        replace hK := hK.trans hk
        replace hL_l := hL_l.kp hk
        refine Go.Wk.HA.re (fun h => (SliceIs h 2 e_api_Spot vl l) ∧ (OwnIs h 0 100 2 e_api_Spot (.slice (some ⟨b_2, 0, none⟩) 1 1) ([s1] : List (Int × Int))) ∧ (Blk h b_1 (.cells #[.int .i64 s1.1, .int .i64 s1.2] 100 (0, 0)))) [(4, fun h => (OwnIs h 0 100 2 e_api_Spot (.slice (some ⟨b_3, 0, none⟩) 0 0) ([] : List (Int × Int))))] (fun L_ h_ hL_ ⟨hL_l, c240, c203⟩ hs_ => ⟨⟨hL_l, c240, c203⟩, (Go.Wk.at_nil _ _)⟩) ?_
        refine HA.one (k := 4) ⟨⟨hL_l.is, (hS.own 1 rfl), (hS.box 2 rfl)⟩, (at_now (hS.own 0 rfl) (Go.Wk.at_nil _ _))⟩ (by kernel_rfl) ?_
        refine HS.eff rfl (want_none) rfl (st_append te_98 hS (i := 0) rfl (cutIs hL_l.is 0 n_1 (Int.le_refl _) ho_5.1 ho_5.2) rfl rfl rfl (by intro a _ u hu; simp [e_api_Spot, encI, encN, encB, encT] at hu; rcases hu with rfl | rfl <;> rfl) ho_6 (by omega)) ?_
        rintro v_1 h_7 ⟨hS, hk⟩
        replace hS : St F_3 (Ow.own 100 2 e_api_Spot v_1 (([] : List (Int × Int)) ++ (cut l 0 n_1)) :: Ow.own 100 2 e_api_Spot (.slice (some ⟨b_2, 0, none⟩) 1 1) ([s1] : List (Int × Int)) :: Ow.box b_1 100 #[.int .i64 s1.1, .int .i64 s1.2] :: fr) h_7 := hS
        replace hK := hK.trans hk
        replace hL_l := hL_l.kp hk
        refine Go.Wk.HA.re (fun h => (SliceIs h 2 e_api_Spot vl l) ∧ (OwnIs h 0 100 2 e_api_Spot (.slice (some ⟨b_2, 0, none⟩) 1 1) ([s1] : List (Int × Int))) ∧ (Blk h b_1 (.cells #[.int .i64 s1.1, .int .i64 s1.2] 100 (0, 0)))) [(7, fun h => (OwnIs h 0 100 2 e_api_Spot v_1 (([] : List (Int × Int)) ++ (cut l 0 n_1))))] (fun L_ h_ hL_ ⟨hL_l, c240, c203⟩ hs_ => ⟨⟨hL_l, c240, c203⟩, (at_gone hL_ (by kernel_rfl) (Go.Wk.at_nil _ _))⟩) ?_
        refine HA.one (k := 7) ⟨⟨hL_l.is, (hS.own 1 rfl), (hS.box 2 rfl)⟩, (at_now (hS.own 0 rfl) (Go.Wk.at_nil _ _))⟩ (by kernel_rfl) ?_
        refine HS.eff rfl (want_none) rfl (st_append te_98 hS (i := 0) rfl (hS.own 1 rfl).slice rfl rfl rfl (by intro a _ u hu; simp [e_api_Spot, encI, encN, encB, encT] at hu; rcases hu with rfl | rfl <;> rfl) ho_7 (by omega)) ?_
        rintro v_2 h_8 ⟨hS, hk⟩
        replace hS : St F_3 (Ow.own 100 2 e_api_Spot v_2 ((([] : List (Int × Int)) ++ (cut l 0 n_1)) ++ ([s1] : List (Int × Int))) :: Ow.own 100 2 e_api_Spot (.slice (some ⟨b_2, 0, none⟩) 1 1) ([s1] : List (Int × Int)) :: Ow.box b_1 100 #[.int .i64 s1.1, .int .i64 s1.2] :: fr) h_8 := hS
        replace hK := hK.trans hk
        replace hL_l := hL_l.kp hk
        refine Go.Wk.HA.re (fun h => (SliceIs h 2 e_api_Spot vl l) ∧ (OwnIs h 0 100 2 e_api_Spot (.slice (some ⟨b_2, 0, none⟩) 1 1) ([s1] : List (Int × Int))) ∧ (Blk h b_1 (.cells #[.int .i64 s1.1, .int .i64 s1.2] 100 (0, 0)))) [(11, fun h => (OwnIs h 0 100 2 e_api_Spot v_2 ((([] : List (Int × Int)) ++ (cut l 0 n_1)) ++ ([s1] : List (Int × Int)))))] (fun L_ h_ hL_ ⟨hL_l, c240, c203⟩ hs_ => ⟨⟨hL_l, c240, c203⟩, (at_gone hL_ (by kernel_rfl) (Go.Wk.at_nil _ _))⟩) ?_
        refine HA.one (k := 11) ⟨⟨hL_l.is, (hS.own 1 rfl), (hS.box 2 rfl)⟩, (at_now (hS.own 0 rfl) (Go.Wk.at_nil _ _))⟩ (by kernel_rfl) ?_
        refine HS.eff rfl (want_none) rfl (st_append te_98 hS (i := 0) rfl (cutIs hL_l.is n_1 (l.length : Int) ho_5.1 ho_5.2 (Int.le_refl _)) rfl rfl rfl (by intro a _ u hu; simp [e_api_Spot, encI, encN, encB, encT] at hu; rcases hu with rfl | rfl <;> rfl) ho_8 (by omega)) ?_
        rintro v_3 h_9 ⟨hS, hk⟩
        replace hS : St F_3 (Ow.own 100 2 e_api_Spot v_3 (((([] : List (Int × Int)) ++ (cut l 0 n_1)) ++ ([s1] : List (Int × Int))) ++ (cut l n_1 (l.length : Int))) :: Ow.own 100 2 e_api_Spot (.slice (some ⟨b_2, 0, none⟩) 1 1) ([s1] : List (Int × Int)) :: Ow.box b_1 100 #[.int .i64 s1.1, .int .i64 s1.2] :: fr) h_9 := hS
        replace hK := hK.trans hk
        replace hL_l := hL_l.kp hk
        refine HA.val (k := 12) (v := v_3) rfl rfl (by kernel_rfl) (by kernel_rfl) (want_none) rfl (fun _ ⟨hL_l, c240, c203⟩ => q_assign rfl) ?_
        refine HA.nil ⟨⟨hL_l.is, (hS.own 1 rfl), (hS.box 2 rfl)⟩, (at_done (by kernel_rfl) (Go.Wk.at_nil _ _))⟩ (by kernel_rfl) (thenQ_normal (?_))
        refine HW.ret (?_)
        refine ⟨.inr rfl, v_3, res1 rfl (rt rfl), ?_⟩
        obtain ⟨F_4, hS, hk, hL_2⟩ := hS.freezeOwn
        replace hK := hK.trans hk
        replace hL_l := hL_l.kp hk
        replace hS : St F_4 (fr) h_9 := St.perm (front := [Ow.own 100 2 e_api_Spot (.slice (some ⟨b_2, 0, none⟩) 1 1) ([s1] : List (Int × Int)), Ow.box b_1 100 #[.int .i64 s1.1, .int .i64 s1.2]]) (fr := fr) hS [] 2 rfl (by decide) [] rfl
        exact ⟨F_4, ((([] : List (Int × Int)) ++ (cut l 0 n_1)) ++ ([s1] : List (Int × Int))) ++ (cut l n_1 (l.length : Int)), v_3, rfl, hK, hS, hL_l, hL_2, hM⟩

def ref44_Held_j1 (want : List (Int × Int)) (a_1 : List (Int × Int)) (i_1 : Int) (K_1 : (List (Int × Int)) → Int → Prop) (b_4 : Bool) : Prop :=
  (b_4 = true → ((0 : Int) ≤ i_1 ∧ i_1 < (want.length : Int)) ∧ (ref44_Add_W a_1 (gi want i_1) (fun r_2 => (I64 (i_1 + 1)) ∧ (K_1 r_2 (i_1 + 1))))) ∧ (b_4 = false → (I64 (i_1 + 1)) ∧ (K_1 a_1 (i_1 + 1)))
def ref44_Held_j2 (l : List (Int × Int × Int × Int × Str)) (b_5 : List (Int × Int)) (i_2 : Int) (K_2 : (List (Int × Int)) → Int → Prop) (b_7 : Bool) : Prop :=
  (b_7 = true → ref44_Add_W b_5 ((gi l i_2).2.1, (gi l i_2).2.2.2.1) (fun r_4 => (I64 (i_2 + 1)) ∧ (K_2 r_4 (i_2 + 1)))) ∧ (b_7 = false → (I64 (i_2 + 1)) ∧ (K_2 b_5 (i_2 + 1)))
def ref44_Held_l2 (l : List (Int × Int × Int × Int × Str)) (id : Int) (vlan : Int) (want : List (Int × Int)) (but : Int × Int) (Q : (List (Int × Int)) → (List (Int × Int)) → Prop) (a_1 : List (Int × Int)) (K_2 : (List (Int × Int)) → Int → Prop) (b_5 : List (Int × Int)) (i_2 : Int) : Prop :=
  (i_2 < (l.length : Int) → ((0 : Int) ≤ i_2 ∧ i_2 < (l.length : Int)) ∧ ((((gi l i_2).1) = id → (((gi l i_2).2.2.1) = vlan → ((((gi l i_2).2.1, (gi l i_2).2.2.2.1) : Int × Int) = but → ref44_Held_j2 l b_5 i_2 K_2 true) ∧ (¬ ((((gi l i_2).2.1, (gi l i_2).2.2.2.1) : Int × Int) = but) → ref44_Has_W want ((gi l i_2).2.1, (gi l i_2).2.2.2.1) (fun r_3 => ref44_Held_j2 l b_5 i_2 K_2 (!r_3)))) ∧ (¬ (((gi l i_2).2.2.1) = vlan) → ref44_Held_j2 l b_5 i_2 K_2 false)) ∧ (¬ (((gi l i_2).1) = id) → ref44_Held_j2 l b_5 i_2 K_2 false))) ∧ (¬ (i_2 < (l.length : Int)) → Q a_1 b_5)
def ref44_Held_l1 (l : List (Int × Int × Int × Int × Str)) (id : Int) (vlan : Int) (want : List (Int × Int)) (but : Int × Int) (Q : (List (Int × Int)) → (List (Int × Int)) → Prop) (K_1 : (List (Int × Int)) → Int → Prop) (a_1 : List (Int × Int)) (i_1 : Int) : Prop :=
  (i_1 < (want.length : Int) → ((0 : Int) ≤ i_1 ∧ i_1 < (want.length : Int)) ∧ ((¬ (((gi want i_1) : Int × Int) = but) → ref44_Count_W l id vlan (gi want i_1) (fun r_1 => ref44_Held_j1 want a_1 i_1 K_1 (decide (r_1 = 0)))) ∧ (((gi want i_1) : Int × Int) = but → ref44_Held_j1 want a_1 i_1 K_1 false))) ∧ (¬ (i_1 < (want.length : Int)) → loopW (fun (K_2 : ((List (Int × Int)) × Int) → Prop) (s : (List (Int × Int)) × Int) => ref44_Held_l2 l id vlan want but Q a_1 (fun b_5 i_2 => K_2 (b_5, i_2)) s.1 s.2) ([], 0))
def ref44_Held_W (l : List (Int × Int × Int × Int × Str)) (id : Int) (vlan : Int) (want : List (Int × Int)) (but : Int × Int) (Q : (List (Int × Int)) → (List (Int × Int)) → Prop) : Prop :=
  loopW (fun (K_1 : ((List (Int × Int)) × Int) → Prop) (s : (List (Int × Int)) × Int) => ref44_Held_l1 l id vlan want but Q (fun a_1 i_1 => K_1 (a_1, i_1)) s.1 s.2) ([], 0)
set_option maxHeartbeats 40000000 in
set_option maxRecDepth 100000 in
theorem ref44_Held_walk {F : Fz} {fr : List Ow} {h0 : Heap} (l : List (Int × Int × Int × Int × Str)) (id : Int) (vlan : Int) (want : List (Int × Int)) (but : Int × Int) (vl : Value) (vwant : Value) (hS : St F (fr) h0) (hL_l : SliceF F h0 5 e_api_Given vl l) (hL_want : SliceF F h0 2 e_api_Spot vwant want) {Q : (List (Int × Int)) → (List (Int × Int)) → Prop} (hM : ref44_Held_W l id vlan want but Q) :
    HC Try.prog 86 #[vl, .int .i64 id, .int .i64 vlan, vwant, .agg #[.int .i64 but.1, .int .i64 but.2]] h0 fun u h' => ∃ (F' : Fz) (r0_1 : List (Int × Int)) (r1_1 : List (Int × Int)) (vr0_1 : Value) (vr1_1 : Value), u = .tuple #[vr0_1, vr1_1] ∧ Kp F h0 F' h' ∧ St F' (fr) h' ∧ (SliceF F' h' 5 e_api_Given vl l) ∧ (SliceF F' h' 2 e_api_Spot vwant want) ∧ (SliceF F' h' 2 e_api_Spot vr0_1 r0_1) ∧ (SliceF F' h' 2 e_api_Spot vr1_1 r1_1) ∧ Q r0_1 r1_1 := by
  unfold ref44_Held_W at hM
  have hK := Kp.refl F h0
  refine HC.of_HW (n := 97) Try.func86 rfl rfl (Nat.le_of_ble_eq_true rfl) ?_
  refine HW.seq ?_
  refine HW.region ?_
  refine HO.eff (want_none) rfl (st_box (c := #[.int .i64 but.1, .int .i64 but.2]) (k' := 2) hS rfl rfl) ?_
  rintro _ h_1 ⟨b_1, rfl, hS, hk⟩
  replace hK := hK.trans hk
  replace hL_l := hL_l.kp hk
  replace hL_want := hL_want.kp hk
  refine HO.val (v := .slice none 0 0) (want_none) rfl (q_assign rfl) ?_
  refine HO.val (v := .slice none 0 0) (want_none) rfl (q_assign rfl) ?_
  refine HO.nil (thenQ_normal (?_))
  refine HW.seq ?_
  refine HW.region ?_
  refine HO.eff (want_none) rfl (st_litEmpty (α := Int × Int) e_api_Spot hS tl_98) ?_
  rintro _ h_2 ⟨b_2, rfl, hS, hk⟩
  replace hK := hK.trans hk
  replace hL_l := hL_l.kp hk
  replace hL_want := hL_want.kp hk
  refine HO.eff (want_none) rfl (st_litEmpty (α := Int × Int) e_api_Spot hS tl_98) ?_
  rintro _ h_3 ⟨b_3, rfl, hS, hk⟩
  replace hK := hK.trans hk
  replace hL_l := hL_l.kp hk
  replace hL_want := hL_want.kp hk
  refine HO.val (v := .slice (some ⟨b_2, 0, none⟩) 0 0) (want_none) rfl (q_assign rfl) ?_
  refine HO.val (v := .slice (some ⟨b_3, 0, none⟩) 0 0) (want_none) rfl (q_assign rfl) ?_
  refine HO.nil (thenQ_normal (?_))
  refine HW.seq ?_
  refine HW.seq ?_
  refine HW.region ?_
  refine HO.val (v := .int .i64 0) (want_none) rfl (q_assign rfl) ?_
  refine HO.nil (thenQ_normal (?_))
  refine HW.block ?_
  obtain ⟨I_1, m_1, hI_1, hR_1⟩ := hM
  replace hS : St F (Ow.own 100 2 e_api_Spot (.slice (some ⟨b_2, 0, none⟩) 0 0) ([] : List (Int × Int)) :: Ow.own 100 2 e_api_Spot (.slice (some ⟨b_3, 0, none⟩) 0 0) ([] : List (Int × Int)) :: Ow.box b_1 100 #[.int .i64 but.1, .int .i64 but.2] :: fr) h_3 := St.perm (front := [Ow.own 100 2 e_api_Spot (.slice (some ⟨b_3, 0, none⟩) 0 0) ([] : List (Int × Int)), Ow.own 100 2 e_api_Spot (.slice (some ⟨b_2, 0, none⟩) 0 0) ([] : List (Int × Int)), Ow.box b_1 100 #[.int .i64 but.1, .int .i64 but.2]]) (fr := fr) hS [1, 0, 2] 3 rfl (by decide) [Ow.own 100 2 e_api_Spot (.slice (some ⟨b_2, 0, none⟩) 0 0) ([] : List (Int × Int)), Ow.own 100 2 e_api_Spot (.slice (some ⟨b_3, 0, none⟩) 0 0) ([] : List (Int × Int)), Ow.box b_1 100 #[.int .i64 but.1, .int .i64 but.2]] rfl
  obtain ⟨F_1, hS, hk, hL_4⟩ := hS.freezeOwn
  replace hK := hK.trans hk
  replace hL_l := hL_l.kp hk
  replace hL_want := hL_want.kp hk
  replace hS : St F_1 (Ow.box b_1 100 #[.int .i64 but.1, .int .i64 but.2] :: Ow.own 100 2 e_api_Spot (.slice (some ⟨b_3, 0, none⟩) 0 0) ([] : List (Int × Int)) :: fr) h_3 := St.perm (front := [Ow.own 100 2 e_api_Spot (.slice (some ⟨b_3, 0, none⟩) 0 0) ([] : List (Int × Int)), Ow.box b_1 100 #[.int .i64 but.1, .int .i64 but.2]]) (fr := fr) hS [1, 0] 2 rfl (by decide) [Ow.box b_1 100 #[.int .i64 but.1, .int .i64 but.2], Ow.own 100 2 e_api_Spot (.slice (some ⟨b_3, 0, none⟩) 0 0) ([] : List (Int × Int))] rfl
  refine HW.loop (S := (List (Int × Int)) × Int) (fun s f h => match s with | (a_1, i_1) => ∃ (F' : Fz) (va_1 : Value), f 0 = vl ∧ f 1 = .int .i64 id ∧ f 2 = .int .i64 vlan ∧ f 3 = vwant ∧ f 9 = .pointer (some ⟨b_1, 0, none⟩) ∧ f 10 = .slice none 0 0 ∧ f 11 = .slice none 0 0 ∧ f 12 = va_1 ∧ f 13 = .slice (some ⟨b_3, 0, none⟩) 0 0 ∧ f 14 = .int .i64 i_1 ∧ Kp F h0 F' h ∧ St F' (Ow.box b_1 100 #[.int .i64 but.1, .int .i64 but.2] :: Ow.own 100 2 e_api_Spot (.slice (some ⟨b_3, 0, none⟩) 0 0) ([] : List (Int × Int)) :: fr) h ∧ (SliceF F' h 5 e_api_Given vl l) ∧ (SliceF F' h 2 e_api_Spot vwant want) ∧ (SliceF F' h 2 e_api_Spot va_1 a_1) ∧ I_1 (a_1, i_1)) m_1 ([], 0) ⟨F_1, .slice (some ⟨b_2, 0, none⟩) 0 0, rfl, rfl, rfl, rfl, rfl, rfl, rfl, rfl, rfl, rfl, hK, hS, hL_l, hL_want, hL_4, hI_1⟩ ?_
  rintro ⟨a_1, i_1⟩ f_1 h_4 ⟨F_2, va_1, e0, e1, e2, e3, e9, e10, e11, e12, e13, e14, hK, hS, hL_l, hL_want, hL_3, hI0⟩
  obtain ⟨K_1, hKe_1⟩ : ∃ K : (List (Int × Int)) → Int → Prop, K = fun a_1' i_1' => I_1 (a_1', i_1') ∧ m_1 (a_1', i_1') < m_1 (a_1, i_1) := ⟨_, rfl⟩
  have hM : ref44_Held_l1 l id vlan want but Q K_1 a_1 i_1 := by rw [hKe_1]; exact hR_1 (a_1, i_1) hI0
  unfold ref44_Held_l1 at hM
  refine HW.fr [(0, vl), (1, .int .i64 id), (2, .int .i64 vlan), (3, vwant), (9, .pointer (some ⟨b_1, 0, none⟩)), (10, .slice none 0 0), (11, .slice none 0 0), (12, va_1), (13, .slice (some ⟨b_3, 0, none⟩) 0 0), (14, .int .i64 i_1)] ⟨e0, e1, e2, e3, e9, e10, e11, e12, e13, e14, trivial⟩ ?_
  refine HW.seq ?_
  refine HW.seq ?_
  refine HW.region ?_
  refine HO.val (v := .int .i64 i_1) (want_none) rfl (q_move rfl) ?_
  refine HO.val (v := vwant) (want_none) rfl (q_move rfl) ?_
  refine HO.val (v := .int .i64 (want.length : Int)) (want_none) rfl (q_len ts_98 (shp hL_want.is) rfl rfl) ?_
  refine HO.val (v := .bool (decide (i_1 < (want.length : Int)))) (want_none) rfl (q_lss rfl rfl) ?_
  refine HO.nil (thenQ_normal (?_))
  refine HW.cond (decide (i_1 < (want.length : Int))) rfl (fun c_1 => ?_) (fun c_1 => ?_)
  · replace hM := hM.1 (of_decide_eq_true c_1)
    refine HW.skip (thenQ_normal (?_))
    refine HW.seq ?_
    refine HW.block ?_
    refine HW.seq_mid (fun f h => ∃ (F' : Fz) (b_4 : Bool), f 0 = vl ∧ f 1 = .int .i64 id ∧ f 2 = .int .i64 vlan ∧ f 3 = vwant ∧ f 9 = .pointer (some ⟨b_1, 0, none⟩) ∧ f 10 = .slice none 0 0 ∧ f 11 = .slice none 0 0 ∧ f 12 = va_1 ∧ f 13 = .slice (some ⟨b_3, 0, none⟩) 0 0 ∧ f 14 = .int .i64 i_1 ∧ f 41 = .bool b_4 ∧ Kp F h0 F' h ∧ St F' (Ow.box b_1 100 #[.int .i64 but.1, .int .i64 but.2] :: Ow.own 100 2 e_api_Spot (.slice (some ⟨b_3, 0, none⟩) 0 0) ([] : List (Int × Int)) :: fr) h ∧ (SliceF F' h 5 e_api_Given vl l) ∧ (SliceF F' h 2 e_api_Spot vwant want) ∧ (SliceF F' h 2 e_api_Spot va_1 a_1) ∧ ref44_Held_j1 want a_1 i_1 K_1 b_4) ?_ ?_
    · refine HW.regionA 17 mixed (fun h => (SliceIs h 5 e_api_Given vl l) ∧ (SliceIs h 2 e_api_Spot vwant want) ∧ (SliceIs h 2 e_api_Spot va_1 a_1) ∧ (Blk h b_1 (.cells #[.int .i64 but.1, .int .i64 but.2] 100 (0, 0))) ∧ (OwnIs h 0 100 2 e_api_Spot (.slice (some ⟨b_3, 0, none⟩) 0 0) ([] : List (Int × Int)))) [] (by kernel_rfl) ?_
      refine HA.val (k := 0) (v := vwant) rfl rfl (by kernel_rfl) (by kernel_rfl) (want_none) rfl (fun _ ⟨hL_l, hL_want, hL_3, c354, c355⟩ => q_move rfl) ?_
      refine HA.val (k := 1) (v := .int .i64 i_1) rfl rfl (by kernel_rfl) (by kernel_rfl) (want_none) rfl (fun _ ⟨hL_l, hL_want, hL_3, c354, c355⟩ => q_move rfl) ?_
      obtain ⟨ho_1, hM⟩ := hM
      refine HA.val (k := 2) (v := elemPtr 2 vwant (i_1).toNat) rfl rfl (by kernel_rfl) (by kernel_rfl) (want_none) rfl (fun _ ⟨hL_l, hL_want, hL_3, c354, c355⟩ => q_idx ts_98 hL_want rfl rfl ho_1) ?_
      refine HA.val (k := 3) (v := .agg #[.int .i64 ((gi want i_1).1), .int .i64 ((gi want i_1).2)]) rfl rfl (by kernel_rfl) (by kernel_rfl) (want_none) rfl (fun _ ⟨hL_l, hL_want, hL_3, c354, c355⟩ => q_ldElemAgg (cs := [.int .i64 ((gi want i_1).1), .int .i64 ((gi want i_1).2)]) ta_100 hL_want rfl ho_1 rfl) ?_
      refine HA.val (k := 4) (v := .agg #[.int .i64 but.1, .int .i64 but.2]) rfl rfl (by kernel_rfl) (by kernel_rfl) (want_none) rfl (fun _ ⟨hL_l, hL_want, hL_3, c354, c355⟩ => q_loadAgg (cs := [.int .i64 but.1, .int .i64 but.2]) ta_100 rfl rfl (Blk.cells (k := 2) c354 rfl)) ?_
      refine HA.val (k := 5) (v := .bool (!decide (((gi want i_1) : Int × Int) = but))) rfl rfl (by kernel_rfl) (by kernel_rfl) (want_none) rfl (fun _ ⟨hL_l, hL_want, hL_3, c354, c355⟩ => q_neqAgg (a := (gi want i_1)) (b := but) (fun a b w => teq_100 9998 a b w) (by kernel_rfl) rfl rfl rfl rfl) ?_
      refine HA.val (k := 6) (v := .bool (!decide (((gi want i_1) : Int × Int) = but))) rfl rfl (by kernel_rfl) (by kernel_rfl) (want_none) rfl (fun _ ⟨hL_l, hL_want, hL_3, c354, c355⟩ => q_move rfl) ?_
      rcases Bool.eq_false_or_eq_true (!decide (((gi want i_1) : Int × Int) = but)) with c_2 | c_2
      · replace hM := hM.1 (nd_true c_2)
        refine HA.val (k := 7) (v := vl) rfl rfl (by kernel_rfl) (by kernel_rfl) (want_by rfl rfl c_2) rfl (fun _ ⟨hL_l, hL_want, hL_3, c354, c355⟩ => q_move rfl) ?_
        refine HA.val (k := 8) (v := .int .i64 id) rfl rfl (by kernel_rfl) (by kernel_rfl) (want_by rfl rfl c_2) rfl (fun _ ⟨hL_l, hL_want, hL_3, c354, c355⟩ => q_move rfl) ?_
        refine HA.val (k := 9) (v := .int .i64 vlan) rfl rfl (by kernel_rfl) (by kernel_rfl) (want_by rfl rfl c_2) rfl (fun _ ⟨hL_l, hL_want, hL_3, c354, c355⟩ => q_move rfl) ?_
        refine HA.val (k := 10) (v := vwant) rfl rfl (by kernel_rfl) (by kernel_rfl) (want_by rfl rfl c_2) rfl (fun _ ⟨hL_l, hL_want, hL_3, c354, c355⟩ => q_move rfl) ?_
        refine HA.val (k := 11) (v := .int .i64 i_1) rfl rfl (by kernel_rfl) (by kernel_rfl) (want_by rfl rfl c_2) rfl (fun _ ⟨hL_l, hL_want, hL_3, c354, c355⟩ => q_move rfl) ?_
        refine HA.val (k := 12) (v := elemPtr 2 vwant (i_1).toNat) rfl rfl (by kernel_rfl) (by kernel_rfl) (want_by rfl rfl c_2) rfl (fun _ ⟨hL_l, hL_want, hL_3, c354, c355⟩ => q_idx ts_98 hL_want rfl rfl ho_1) ?_
        refine HA.val (k := 13) (v := .agg #[.int .i64 ((gi want i_1).1), .int .i64 ((gi want i_1).2)]) rfl rfl (by kernel_rfl) (by kernel_rfl) (want_by rfl rfl c_2) rfl (fun _ ⟨hL_l, hL_want, hL_3, c354, c355⟩ => q_ldElemAgg (cs := [.int .i64 ((gi want i_1).1), .int .i64 ((gi want i_1).2)]) ta_100 hL_want rfl ho_1 rfl) ?_
        refine HA.one (k := 14) ⟨⟨hL_l.is, hL_want.is, hL_3.is, (hS.box 0 rfl), (hS.own 1 rfl)⟩, (Go.Wk.at_nil _ _)⟩ (by kernel_rfl) ?_
        refine HS.call rfl (want_by rfl rfl c_2) rfl (ec en_78 rfl rfl) (ref44_Count_walk (fr := (Ow.box b_1 100 #[.int .i64 but.1, .int .i64 but.2] :: Ow.own 100 2 e_api_Spot (.slice (some ⟨b_3, 0, none⟩) 0 0) ([] : List (Int × Int)) :: fr)) l id vlan (gi want i_1) vl hS hL_l hM) ?_
        rintro _ h_5 ⟨F_3, r_1, rfl, hk, hS, _, hM⟩
        replace hK := hK.trans hk
        replace hL_l := hL_l.kp hk
        replace hL_want := hL_want.kp hk
        replace hL_3 := hL_3.kp hk
        refine HA.val (k := 15) (v := .bool (decide (r_1 = 0))) rfl rfl (by kernel_rfl) (by kernel_rfl) (want_by rfl rfl c_2) rfl (fun _ ⟨hL_l, hL_want, hL_3, c354, c355⟩ => q_eql rfl rfl) ?_
        refine HA.val (k := 16) (v := .bool (decide (r_1 = 0))) rfl rfl (by kernel_rfl) (by kernel_rfl) (want_none) rfl (fun _ ⟨hL_l, hL_want, hL_3, c354, c355⟩ => q_pickK true rfl c_2 rfl) ?_
        refine HA.nil ⟨⟨hL_l.is, hL_want.is, hL_3.is, (hS.box 0 rfl), (hS.own 1 rfl)⟩, (Go.Wk.at_nil _ _)⟩ (by kernel_rfl) (thenQ_normal (?_))
        exact ⟨F_3, decide (r_1 = 0), rfl, rfl, rfl, rfl, rfl, rfl, rfl, rfl, rfl, rfl, rfl, hK, hS, hL_l, hL_want, hL_3, hM⟩
      · replace hM := hM.2 (nd_false c_2)
        refine HA.past (k := 7) rfl rfl (by kernel_rfl) (by kernel_rfl) (past_by rfl rfl c_2) rfl ?_
        refine HA.past (k := 8) rfl rfl (by kernel_rfl) (by kernel_rfl) (past_by rfl rfl c_2) rfl ?_
        refine HA.past (k := 9) rfl rfl (by kernel_rfl) (by kernel_rfl) (past_by rfl rfl c_2) rfl ?_
        refine HA.past (k := 10) rfl rfl (by kernel_rfl) (by kernel_rfl) (past_by rfl rfl c_2) rfl ?_
        refine HA.past (k := 11) rfl rfl (by kernel_rfl) (by kernel_rfl) (past_by rfl rfl c_2) rfl ?_
        refine HA.past (k := 12) rfl rfl (by kernel_rfl) (by kernel_rfl) (past_by rfl rfl c_2) rfl ?_
        refine HA.past (k := 13) rfl rfl (by kernel_rfl) (by kernel_rfl) (past_by rfl rfl c_2) rfl ?_
        refine HA.one (k := 14) ⟨⟨hL_l.is, hL_want.is, hL_3.is, (hS.box 0 rfl), (hS.own 1 rfl)⟩, (Go.Wk.at_nil _ _)⟩ (by kernel_rfl) ?_
        refine HS.past rfl (past_by rfl rfl c_2) rfl ?_
        refine HA.past (k := 15) rfl rfl (by kernel_rfl) (by kernel_rfl) (past_by rfl rfl c_2) rfl ?_
        refine HA.val (k := 16) (v := .bool false) rfl rfl (by kernel_rfl) (by kernel_rfl) (want_none) rfl (fun _ ⟨hL_l, hL_want, hL_3, c354, c355⟩ => q_pickK false rfl c_2 rfl) ?_
        refine HA.nil ⟨⟨hL_l.is, hL_want.is, hL_3.is, (hS.box 0 rfl), (hS.own 1 rfl)⟩, (Go.Wk.at_nil _ _)⟩ (by kernel_rfl) (thenQ_normal (?_))
        exact ⟨F_2, false, rfl, rfl, rfl, rfl, rfl, rfl, rfl, rfl, rfl, rfl, rfl, hK, hS, hL_l, hL_want, hL_3, hM⟩
    · rintro f_2 h_6 ⟨F_4, b_4, e0, e1, e2, e3, e9, e10, e11, e12, e13, e14, e41, hK, hS, hL_l, hL_want, hL_3, hM⟩
      unfold ref44_Held_j1 at hM
      refine HW.fr [(0, vl), (1, .int .i64 id), (2, .int .i64 vlan), (3, vwant), (9, .pointer (some ⟨b_1, 0, none⟩)), (10, .slice none 0 0), (11, .slice none 0 0), (12, va_1), (13, .slice (some ⟨b_3, 0, none⟩) 0 0), (14, .int .i64 i_1), (41, .bool b_4)] ⟨e0, e1, e2, e3, e9, e10, e11, e12, e13, e14, e41, trivial⟩ ?_
      refine HW.cond b_4 rfl (fun c_3 => ?_) (fun c_3 => ?_)
      · replace hM := hM.1 c_3
        refine HW.region ?_
        refine HO.val (v := va_1) (want_none) rfl (q_move rfl) ?_
        refine HO.val (v := vwant) (want_none) rfl (q_move rfl) ?_
        refine HO.val (v := .int .i64 i_1) (want_none) rfl (q_move rfl) ?_
        obtain ⟨ho_2, hM⟩ := hM
        refine HO.val (v := elemPtr 2 vwant (i_1).toNat) (want_none) rfl (q_idx ts_98 hL_want.is rfl rfl ho_2) ?_
        refine HO.val (v := .agg #[.int .i64 ((gi want i_1).1), .int .i64 ((gi want i_1).2)]) (want_none) rfl (q_ldElemAgg (cs := [.int .i64 ((gi want i_1).1), .int .i64 ((gi want i_1).2)]) ta_100 hL_want.is rfl ho_2 rfl) ?_
        refine HO.call (want_none) rfl (ec en_119 rfl rfl) (ref44_Add_walk (fr := (Ow.box b_1 100 #[.int .i64 but.1, .int .i64 but.2] :: Ow.own 100 2 e_api_Spot (.slice (some ⟨b_3, 0, none⟩) 0 0) ([] : List (Int × Int)) :: fr)) a_1 (gi want i_1) va_1 hS hL_3 hM) ?_
        rintro vr_1 h_7 ⟨F_5, r_2, _, rfl, hk, hS, _, hL_5, hM⟩
        replace hK := hK.trans hk
        replace hL_l := hL_l.kp hk
        replace hL_want := hL_want.kp hk
        replace hL_3 := hL_3.kp hk
        refine HO.val (v := vr_1) (want_none) rfl (q_assign rfl) ?_
        refine HO.nil (blockQ_normal (thenQ_normal (?_)))
        refine HW.region ?_
        refine HO.val (v := .int .i64 i_1) (want_none) rfl (q_move rfl) ?_
        obtain ⟨ho_3, hM⟩ := hM
        refine HO.val (v := .int .i64 (i_1 + 1)) (want_none) rfl (q_addN _ rfl rfl rfl ho_3.1 ho_3.2) ?_
        refine HO.val (v := .int .i64 (i_1 + 1)) (want_none) rfl (q_assign rfl) ?_
        refine HO.nil (thenQ_normal (?_))
        rw [hKe_1] at hM
        exact ⟨(r_2, i_1 + 1), ⟨F_5, vr_1, rfl, rfl, rfl, rfl, rfl, rfl, rfl, rfl, rfl, rfl, hK, hS, hL_l, hL_want, hL_5, hM.1⟩, hM.2⟩
      · replace hM := hM.2 c_3
        refine HW.skip (blockQ_normal (thenQ_normal (?_)))
        refine HW.region ?_
        refine HO.val (v := .int .i64 i_1) (want_none) rfl (q_move rfl) ?_
        obtain ⟨ho_4, hM⟩ := hM
        refine HO.val (v := .int .i64 (i_1 + 1)) (want_none) rfl (q_addN _ rfl rfl rfl ho_4.1 ho_4.2) ?_
        refine HO.val (v := .int .i64 (i_1 + 1)) (want_none) rfl (q_assign rfl) ?_
        refine HO.nil (thenQ_normal (?_))
        rw [hKe_1] at hM
        exact ⟨(a_1, i_1 + 1), ⟨F_4, va_1, rfl, rfl, rfl, rfl, rfl, rfl, rfl, rfl, rfl, rfl, hK, hS, hL_l, hL_want, hL_3, hM.1⟩, hM.2⟩
  · replace hM := hM.2 (of_decide_eq_false c_1)
    refine HW.exit (thenQ_exit (thenQ_exit (blockQ_exit (thenQ_normal (?_)))))
    refine HW.seq ?_
    refine HW.seq ?_
    refine HW.region ?_
    refine HO.val (v := .int .i64 0) (want_none) rfl (q_assign rfl) ?_
    refine HO.nil (thenQ_normal (?_))
    refine HW.block ?_
    obtain ⟨I_2, m_2, hI_2, hR_2⟩ := hM
    replace hS : St F_2 (Ow.own 100 2 e_api_Spot (.slice (some ⟨b_3, 0, none⟩) 0 0) ([] : List (Int × Int)) :: Ow.box b_1 100 #[.int .i64 but.1, .int .i64 but.2] :: fr) h_4 := St.perm (front := [Ow.box b_1 100 #[.int .i64 but.1, .int .i64 but.2], Ow.own 100 2 e_api_Spot (.slice (some ⟨b_3, 0, none⟩) 0 0) ([] : List (Int × Int))]) (fr := fr) hS [1, 0] 2 rfl (by decide) [Ow.own 100 2 e_api_Spot (.slice (some ⟨b_3, 0, none⟩) 0 0) ([] : List (Int × Int)), Ow.box b_1 100 #[.int .i64 but.1, .int .i64 but.2]] rfl
    obtain ⟨F_6, hS, hk, hL_7⟩ := hS.freezeOwn
    replace hK := hK.trans hk
    replace hL_l := hL_l.kp hk
    replace hL_want := hL_want.kp hk
    replace hL_3 := hL_3.kp hk
    refine HW.loop (S := (List (Int × Int)) × Int) (fun s f h => match s with | (b_5, i_2) => ∃ (F' : Fz) (vb_1 : Value), f 0 = vl ∧ f 1 = .int .i64 id ∧ f 2 = .int .i64 vlan ∧ f 3 = vwant ∧ f 9 = .pointer (some ⟨b_1, 0, none⟩) ∧ f 10 = .slice none 0 0 ∧ f 11 = .slice none 0 0 ∧ f 12 = va_1 ∧ f 13 = vb_1 ∧ f 15 = .int .i64 i_2 ∧ Kp F h0 F' h ∧ St F' (Ow.box b_1 100 #[.int .i64 but.1, .int .i64 but.2] :: fr) h ∧ (SliceF F' h 5 e_api_Given vl l) ∧ (SliceF F' h 2 e_api_Spot vwant want) ∧ (SliceF F' h 2 e_api_Spot va_1 a_1) ∧ (SliceF F' h 2 e_api_Spot vb_1 b_5) ∧ I_2 (b_5, i_2)) m_2 ([], 0) ⟨F_6, .slice (some ⟨b_3, 0, none⟩) 0 0, rfl, rfl, rfl, rfl, rfl, rfl, rfl, rfl, rfl, rfl, hK, hS, hL_l, hL_want, hL_3, hL_7, hI_2⟩ ?_
    rintro ⟨b_5, i_2⟩ f_3 h_8 ⟨F_7, vb_1, e0, e1, e2, e3, e9, e10, e11, e12, e13, e15, hK, hS, hL_l, hL_want, hL_3, hL_6, hI0⟩
    obtain ⟨K_2, hKe_2⟩ : ∃ K : (List (Int × Int)) → Int → Prop, K = fun b_5' i_2' => I_2 (b_5', i_2') ∧ m_2 (b_5', i_2') < m_2 (b_5, i_2) := ⟨_, rfl⟩
    have hM : ref44_Held_l2 l id vlan want but Q a_1 K_2 b_5 i_2 := by rw [hKe_2]; exact hR_2 (b_5, i_2) hI0
    unfold ref44_Held_l2 at hM
    refine HW.fr [(0, vl), (1, .int .i64 id), (2, .int .i64 vlan), (3, vwant), (9, .pointer (some ⟨b_1, 0, none⟩)), (10, .slice none 0 0), (11, .slice none 0 0), (12, va_1), (13, vb_1), (15, .int .i64 i_2)] ⟨e0, e1, e2, e3, e9, e10, e11, e12, e13, e15, trivial⟩ ?_
    refine HW.seq ?_
    refine HW.seq ?_
    refine HW.region ?_
    refine HO.val (v := .int .i64 i_2) (want_none) rfl (q_move rfl) ?_
    refine HO.val (v := vl) (want_none) rfl (q_move rfl) ?_
    refine HO.val (v := .int .i64 (l.length : Int)) (want_none) rfl (q_len ts_97 (shp hL_l.is) rfl rfl) ?_
    refine HO.val (v := .bool (decide (i_2 < (l.length : Int)))) (want_none) rfl (q_lss rfl rfl) ?_
    refine HO.nil (thenQ_normal (?_))
    refine HW.cond (decide (i_2 < (l.length : Int))) rfl (fun c_4 => ?_) (fun c_4 => ?_)
    · replace hM := hM.1 (of_decide_eq_true c_4)
      refine HW.skip (thenQ_normal (?_))
      refine HW.seq ?_
      refine HW.block ?_
      refine HW.seq ?_
      refine HW.regionA 13 mixed (fun h => (SliceIs h 5 e_api_Given vl l) ∧ (SliceIs h 2 e_api_Spot vwant want) ∧ (SliceIs h 2 e_api_Spot va_1 a_1) ∧ (SliceIs h 2 e_api_Spot vb_1 b_5) ∧ (Blk h b_1 (.cells #[.int .i64 but.1, .int .i64 but.2] 100 (0, 0)))) [] (by kernel_rfl) ?_
      refine HA.val (k := 0) (v := vl) rfl rfl (by kernel_rfl) (by kernel_rfl) (want_none) rfl (fun _ ⟨hL_l, hL_want, hL_3, hL_6, c506⟩ => q_move rfl) ?_
      refine HA.val (k := 1) (v := .int .i64 i_2) rfl rfl (by kernel_rfl) (by kernel_rfl) (want_none) rfl (fun _ ⟨hL_l, hL_want, hL_3, hL_6, c506⟩ => q_move rfl) ?_
      obtain ⟨ho_5, hM⟩ := hM
      refine HA.val (k := 2) (v := elemPtr 5 vl (i_2).toNat) rfl rfl (by kernel_rfl) (by kernel_rfl) (want_none) rfl (fun _ ⟨hL_l, hL_want, hL_3, hL_6, c506⟩ => q_idx ts_97 hL_l rfl rfl ho_5) ?_
      refine HA.val (k := 3) (v := fieldPtr 5 vl (i_2).toNat 1) rfl rfl (by kernel_rfl) (by kernel_rfl) (want_none) rfl (fun _ ⟨hL_l, hL_want, hL_3, hL_6, c506⟩ => q_fldElem fa_112_1 hL_l rfl ho_5) ?_
      refine HA.val (k := 4) (v := .int .i64 ((gi l i_2).2.1)) rfl rfl (by kernel_rfl) (by kernel_rfl) (want_none) rfl (fun _ ⟨hL_l, hL_want, hL_3, hL_6, c506⟩ => q_ldField to_3 hL_l rfl ho_5 (by decide) rfl) ?_
      refine HA.val (k := 5) (v := vl) rfl rfl (by kernel_rfl) (by kernel_rfl) (want_none) rfl (fun _ ⟨hL_l, hL_want, hL_3, hL_6, c506⟩ => q_move rfl) ?_
      refine HA.val (k := 6) (v := .int .i64 i_2) rfl rfl (by kernel_rfl) (by kernel_rfl) (want_none) rfl (fun _ ⟨hL_l, hL_want, hL_3, hL_6, c506⟩ => q_move rfl) ?_
      refine HA.val (k := 7) (v := elemPtr 5 vl (i_2).toNat) rfl rfl (by kernel_rfl) (by kernel_rfl) (want_none) rfl (fun _ ⟨hL_l, hL_want, hL_3, hL_6, c506⟩ => q_idx ts_97 hL_l rfl rfl ho_5) ?_
      refine HA.val (k := 8) (v := fieldPtr 5 vl (i_2).toNat 3) rfl rfl (by kernel_rfl) (by kernel_rfl) (want_none) rfl (fun _ ⟨hL_l, hL_want, hL_3, hL_6, c506⟩ => q_fldElem fa_112_3 hL_l rfl ho_5) ?_
      refine HA.val (k := 9) (v := .int .i64 ((gi l i_2).2.2.2.1)) rfl rfl (by kernel_rfl) (by kernel_rfl) (want_none) rfl (fun _ ⟨hL_l, hL_want, hL_3, hL_6, c506⟩ => q_ldField to_3 hL_l rfl ho_5 (by decide) rfl) ?_
      refine HA.val (k := 10) (v := .agg #[.int .i64 ((gi l i_2).2.1), .int .i64 ((gi l i_2).2.2.2.1)]) rfl rfl (by kernel_rfl) (by kernel_rfl) (want_none) rfl (fun _ ⟨hL_l, hL_want, hL_3, hL_6, c506⟩ => q_build tp_100 rfl) ?_
      refine HA.one (k := 11) ⟨⟨hL_l.is, hL_want.is, hL_3.is, hL_6.is, (hS.box 0 rfl)⟩, (Go.Wk.at_nil _ _)⟩ (by kernel_rfl) ?_
      refine HS.eff rfl (want_none) rfl (st_alloc (c := #[.int .i64 0, .int .i64 0]) hS tz_100 rfl) ?_
      rintro _ h_9 ⟨b_6, rfl, hS, hk⟩
      replace hK := hK.trans hk
      replace hL_l := hL_l.kp hk
      replace hL_want := hL_want.kp hk
      replace hL_3 := hL_3.kp hk
      replace hL_6 := hL_6.kp hk
      refine HA.one (k := 12) ⟨⟨hL_l.is, hL_want.is, hL_3.is, hL_6.is, (hS.box 1 rfl)⟩, (Go.Wk.at_nil _ _)⟩ (by kernel_rfl) ?_
      refine HS.sto rfl (want_none) rfl (st_storeAgg (c' := #[.int .i64 ((gi l i_2).2.1), .int .i64 ((gi l i_2).2.2.2.1)]) hS (i := 0) rfl ta_100 rfl rfl rfl (by simp [Value.oneCell']) (Nat.le_of_ble_eq_true rfl) rfl) ?_
      rintro h_10 ⟨hS, hk⟩
      replace hS : St F_7 (Ow.box b_6 100 #[.int .i64 ((gi l i_2).2.1), .int .i64 ((gi l i_2).2.2.2.1)] :: Ow.box b_1 100 #[.int .i64 but.1, .int .i64 but.2] :: fr) h_10 := hS
      replace hK := hK.trans hk
      replace hL_l := hL_l.kp hk
      replace hL_want := hL_want.kp hk
      replace hL_3 := hL_3.kp hk
      replace hL_6 := hL_6.kp hk
      refine HA.nil ⟨⟨hL_l.is, hL_want.is, hL_3.is, hL_6.is, (hS.box 1 rfl)⟩, (Go.Wk.at_nil _ _)⟩ (by kernel_rfl) (thenQ_normal (?_))
      refine HW.seq_mid (fun f h => ∃ (F' : Fz) (b_7 : Bool), f 0 = vl ∧ f 1 = .int .i64 id ∧ f 2 = .int .i64 vlan ∧ f 3 = vwant ∧ f 9 = .pointer (some ⟨b_1, 0, none⟩) ∧ f 10 = .slice none 0 0 ∧ f 11 = .slice none 0 0 ∧ f 12 = va_1 ∧ f 13 = vb_1 ∧ f 15 = .int .i64 i_2 ∧ f 16 = .pointer (some ⟨b_6, 0, none⟩) ∧ f 91 = .bool b_7 ∧ Kp F h0 F' h ∧ St F' (Ow.box b_1 100 #[.int .i64 but.1, .int .i64 but.2] :: Ow.box b_6 100 #[.int .i64 ((gi l i_2).2.1), .int .i64 ((gi l i_2).2.2.2.1)] :: fr) h ∧ (SliceF F' h 5 e_api_Given vl l) ∧ (SliceF F' h 2 e_api_Spot vwant want) ∧ (SliceF F' h 2 e_api_Spot va_1 a_1) ∧ (SliceF F' h 2 e_api_Spot vb_1 b_5) ∧ ref44_Held_j2 l b_5 i_2 K_2 b_7) ?_ ?_
      · refine HW.region ?_
        refine HO.val (v := vl) (want_none) rfl (q_move rfl) ?_
        refine HO.val (v := .int .i64 i_2) (want_none) rfl (q_move rfl) ?_
        refine HO.val (v := elemPtr 5 vl (i_2).toNat) (want_none) rfl (q_idx ts_97 hL_l.is rfl rfl ho_5) ?_
        refine HO.val (v := fieldPtr 5 vl (i_2).toNat 0) (want_none) rfl (q_fldElem fa_112_0 hL_l.is rfl ho_5) ?_
        refine HO.val (v := .int .i64 ((gi l i_2).1)) (want_none) rfl (q_ldField to_3 hL_l.is rfl ho_5 (by decide) rfl) ?_
        refine HO.val (v := .int .i64 id) (want_none) rfl (q_move rfl) ?_
        refine HO.val (v := .bool (decide (((gi l i_2).1) = id))) (want_none) rfl (q_eql rfl rfl) ?_
        refine HO.val (v := .bool (decide (((gi l i_2).1) = id))) (want_none) rfl (q_move rfl) ?_
        rcases Bool.eq_false_or_eq_true (decide (((gi l i_2).1) = id)) with c_5 | c_5
        · replace hM := hM.1 (of_decide_eq_true c_5)
          refine HO.val (v := vl) (want_by rfl rfl c_5) rfl (q_move rfl) ?_
          refine HO.val (v := .int .i64 i_2) (want_by rfl rfl c_5) rfl (q_move rfl) ?_
          refine HO.val (v := elemPtr 5 vl (i_2).toNat) (want_by rfl rfl c_5) rfl (q_idx ts_97 hL_l.is rfl rfl ho_5) ?_
          refine HO.val (v := fieldPtr 5 vl (i_2).toNat 2) (want_by rfl rfl c_5) rfl (q_fldElem fa_112_2 hL_l.is rfl ho_5) ?_
          refine HO.val (v := .int .i64 ((gi l i_2).2.2.1)) (want_by rfl rfl c_5) rfl (q_ldField to_3 hL_l.is rfl ho_5 (by decide) rfl) ?_
          refine HO.val (v := .int .i64 vlan) (want_by rfl rfl c_5) rfl (q_move rfl) ?_
          refine HO.val (v := .bool (decide (((gi l i_2).2.2.1) = vlan))) (want_by rfl rfl c_5) rfl (q_eql rfl rfl) ?_
          refine HO.val (v := .bool (decide (((gi l i_2).2.2.1) = vlan))) (want_none) rfl (q_pickK true rfl c_5 rfl) ?_
          refine HO.val (v := .bool (decide (((gi l i_2).2.2.1) = vlan))) (want_none) rfl (q_move rfl) ?_
          rcases Bool.eq_false_or_eq_true (decide (((gi l i_2).2.2.1) = vlan)) with c_6 | c_6
          · replace hM := hM.1 (of_decide_eq_true c_6)
            refine HO.val (v := .agg #[.int .i64 ((gi l i_2).2.1), .int .i64 ((gi l i_2).2.2.2.1)]) (want_by rfl rfl c_6) rfl (q_loadAgg (cs := [.int .i64 ((gi l i_2).2.1), .int .i64 ((gi l i_2).2.2.2.1)]) ta_100 rfl rfl (Blk.cells (k := 2) (hS.box 0 rfl) rfl)) ?_
            refine HO.val (v := .agg #[.int .i64 but.1, .int .i64 but.2]) (want_by rfl rfl c_6) rfl (q_loadAgg (cs := [.int .i64 but.1, .int .i64 but.2]) ta_100 rfl rfl (Blk.cells (k := 2) (hS.box 1 rfl) rfl)) ?_
            refine HO.val (v := .bool (decide ((((gi l i_2).2.1, (gi l i_2).2.2.2.1) : Int × Int) = but))) (want_by rfl rfl c_6) rfl (q_eqlAgg (a := ((gi l i_2).2.1, (gi l i_2).2.2.2.1)) (b := but) (fun a b w => teq_100 9998 a b w) (by kernel_rfl) rfl rfl rfl rfl) ?_
            refine HO.val (v := .bool (decide ((((gi l i_2).2.1, (gi l i_2).2.2.2.1) : Int × Int) = but))) (want_by rfl rfl c_6) rfl (q_move rfl) ?_
            rcases Bool.eq_false_or_eq_true (decide ((((gi l i_2).2.1, (gi l i_2).2.2.2.1) : Int × Int) = but)) with c_7 | c_7
            · replace hM := hM.1 (of_decide_eq_true c_7)
              refine HO.past (past_by rfl rfl c_7) rfl ?_
              refine HO.past (past_by rfl rfl c_7) rfl ?_
              refine HO.past (past_by rfl rfl c_7) rfl ?_
              refine HO.past (past_by rfl rfl c_7) rfl ?_
              refine HO.val (v := .bool true) (want_by rfl rfl c_6) rfl (q_pickK true rfl c_7 rfl) ?_
              refine HO.val (v := .bool true) (want_none) rfl (q_pickK true rfl c_6 rfl) ?_
              refine HO.nil (thenQ_normal (?_))
              replace hS : St F_7 (Ow.box b_1 100 #[.int .i64 but.1, .int .i64 but.2] :: Ow.box b_6 100 #[.int .i64 ((gi l i_2).2.1), .int .i64 ((gi l i_2).2.2.2.1)] :: fr) h_10 := St.perm (front := [Ow.box b_6 100 #[.int .i64 ((gi l i_2).2.1), .int .i64 ((gi l i_2).2.2.2.1)], Ow.box b_1 100 #[.int .i64 but.1, .int .i64 but.2]]) (fr := fr) hS [1, 0] 2 rfl (by decide) [Ow.box b_1 100 #[.int .i64 but.1, .int .i64 but.2], Ow.box b_6 100 #[.int .i64 ((gi l i_2).2.1), .int .i64 ((gi l i_2).2.2.2.1)]] rfl
              exact ⟨F_7, true, rfl, rfl, rfl, rfl, rfl, rfl, rfl, rfl, rfl, rfl, rfl, rfl, hK, hS, hL_l, hL_want, hL_3, hL_6, hM⟩
            · replace hM := hM.2 (of_decide_eq_false c_7)
              refine HO.val (v := vwant) (want_by rfl rfl c_7) rfl (q_move rfl) ?_
              refine HO.val (v := .agg #[.int .i64 ((gi l i_2).2.1), .int .i64 ((gi l i_2).2.2.2.1)]) (want_by rfl rfl c_7) rfl (q_loadAgg (cs := [.int .i64 ((gi l i_2).2.1), .int .i64 ((gi l i_2).2.2.2.1)]) ta_100 rfl rfl (Blk.cells (k := 2) (hS.box 0 rfl) rfl)) ?_
              refine HO.call (want_by rfl rfl c_7) rfl (ec en_79 rfl rfl) (ref44_Has_walk (fr := (Ow.box b_6 100 #[.int .i64 ((gi l i_2).2.1), .int .i64 ((gi l i_2).2.2.2.1)] :: Ow.box b_1 100 #[.int .i64 but.1, .int .i64 but.2] :: fr)) want ((gi l i_2).2.1, (gi l i_2).2.2.2.1) vwant hS hL_want hM) ?_
              rintro _ h_11 ⟨F_8, r_3, rfl, hk, hS, _, hM⟩
              replace hK := hK.trans hk
              replace hL_l := hL_l.kp hk
              replace hL_want := hL_want.kp hk
              replace hL_3 := hL_3.kp hk
              replace hL_6 := hL_6.kp hk
              refine HO.val (v := .bool (!r_3)) (want_by rfl rfl c_7) rfl (q_not rfl) ?_
              refine HO.val (v := .bool (!r_3)) (want_by rfl rfl c_6) rfl (q_pickK false rfl c_7 rfl) ?_
              refine HO.val (v := .bool (!r_3)) (want_none) rfl (q_pickK true rfl c_6 rfl) ?_
              refine HO.nil (thenQ_normal (?_))
              replace hS : St F_8 (Ow.box b_1 100 #[.int .i64 but.1, .int .i64 but.2] :: Ow.box b_6 100 #[.int .i64 ((gi l i_2).2.1), .int .i64 ((gi l i_2).2.2.2.1)] :: fr) h_11 := St.perm (front := [Ow.box b_6 100 #[.int .i64 ((gi l i_2).2.1), .int .i64 ((gi l i_2).2.2.2.1)], Ow.box b_1 100 #[.int .i64 but.1, .int .i64 but.2]]) (fr := fr) hS [1, 0] 2 rfl (by decide) [Ow.box b_1 100 #[.int .i64 but.1, .int .i64 but.2], Ow.box b_6 100 #[.int .i64 ((gi l i_2).2.1), .int .i64 ((gi l i_2).2.2.2.1)]] rfl
              exact ⟨F_8, !r_3, rfl, rfl, rfl, rfl, rfl, rfl, rfl, rfl, rfl, rfl, rfl, rfl, hK, hS, hL_l, hL_want, hL_3, hL_6, hM⟩
          · replace hM := hM.2 (of_decide_eq_false c_6)
            refine HO.past (past_by rfl rfl c_6) rfl ?_
            refine HO.past (past_by rfl rfl c_6) rfl ?_
            refine HO.past (past_by rfl rfl c_6) rfl ?_
            refine HO.past (past_by rfl rfl c_6) rfl ?_
            refine HO.past (past_undef rfl rfl) rfl ?_
            refine HO.past (past_undef rfl rfl) rfl ?_
            refine HO.past (past_undef rfl rfl) rfl ?_
            refine HO.past (past_undef rfl rfl) rfl ?_
            refine HO.past (past_by rfl rfl c_6) rfl ?_
            refine HO.val (v := .bool false) (want_none) rfl (q_pickK false rfl c_6 rfl) ?_
            refine HO.nil (thenQ_normal (?_))
            replace hS : St F_7 (Ow.box b_1 100 #[.int .i64 but.1, .int .i64 but.2] :: Ow.box b_6 100 #[.int .i64 ((gi l i_2).2.1), .int .i64 ((gi l i_2).2.2.2.1)] :: fr) h_10 := St.perm (front := [Ow.box b_6 100 #[.int .i64 ((gi l i_2).2.1), .int .i64 ((gi l i_2).2.2.2.1)], Ow.box b_1 100 #[.int .i64 but.1, .int .i64 but.2]]) (fr := fr) hS [1, 0] 2 rfl (by decide) [Ow.box b_1 100 #[.int .i64 but.1, .int .i64 but.2], Ow.box b_6 100 #[.int .i64 ((gi l i_2).2.1), .int .i64 ((gi l i_2).2.2.2.1)]] rfl
            exact ⟨F_7, false, rfl, rfl, rfl, rfl, rfl, rfl, rfl, rfl, rfl, rfl, rfl, rfl, hK, hS, hL_l, hL_want, hL_3, hL_6, hM⟩
        · replace hM := hM.2 (of_decide_eq_false c_5)
          refine HO.past (past_by rfl rfl c_5) rfl ?_
          refine HO.past (past_by rfl rfl c_5) rfl ?_
          refine HO.past (past_by rfl rfl c_5) rfl ?_
          refine HO.past (past_by rfl rfl c_5) rfl ?_
          refine HO.past (past_by rfl rfl c_5) rfl ?_
          refine HO.past (past_by rfl rfl c_5) rfl ?_
          refine HO.past (past_by rfl rfl c_5) rfl ?_
          refine HO.val (v := .bool false) (want_none) rfl (q_pickK false rfl c_5 rfl) ?_
          refine HO.val (v := .bool false) (want_none) rfl (q_move rfl) ?_
          refine HO.past (past_some rfl rfl) rfl ?_
          refine HO.past (past_some rfl rfl) rfl ?_
          refine HO.past (past_some rfl rfl) rfl ?_
          refine HO.past (past_some rfl rfl) rfl ?_
          refine HO.past (past_undef rfl rfl) rfl ?_
          refine HO.past (past_undef rfl rfl) rfl ?_
          refine HO.past (past_undef rfl rfl) rfl ?_
          refine HO.past (past_undef rfl rfl) rfl ?_
          refine HO.past (past_some rfl rfl) rfl ?_
          refine HO.val (v := .bool false) (want_none) rfl (q_pick rfl rfl) ?_
          refine HO.nil (thenQ_normal (?_))
          replace hS : St F_7 (Ow.box b_1 100 #[.int .i64 but.1, .int .i64 but.2] :: Ow.box b_6 100 #[.int .i64 ((gi l i_2).2.1), .int .i64 ((gi l i_2).2.2.2.1)] :: fr) h_10 := St.perm (front := [Ow.box b_6 100 #[.int .i64 ((gi l i_2).2.1), .int .i64 ((gi l i_2).2.2.2.1)], Ow.box b_1 100 #[.int .i64 but.1, .int .i64 but.2]]) (fr := fr) hS [1, 0] 2 rfl (by decide) [Ow.box b_1 100 #[.int .i64 but.1, .int .i64 but.2], Ow.box b_6 100 #[.int .i64 ((gi l i_2).2.1), .int .i64 ((gi l i_2).2.2.2.1)]] rfl
          exact ⟨F_7, false, rfl, rfl, rfl, rfl, rfl, rfl, rfl, rfl, rfl, rfl, rfl, rfl, hK, hS, hL_l, hL_want, hL_3, hL_6, hM⟩
      · rintro f_4 h_12 ⟨F_9, b_7, e0, e1, e2, e3, e9, e10, e11, e12, e13, e15, e16, e91, hK, hS, hL_l, hL_want, hL_3, hL_6, hM⟩
        unfold ref44_Held_j2 at hM
        refine HW.fr [(0, vl), (1, .int .i64 id), (2, .int .i64 vlan), (3, vwant), (9, .pointer (some ⟨b_1, 0, none⟩)), (10, .slice none 0 0), (11, .slice none 0 0), (12, va_1), (13, vb_1), (15, .int .i64 i_2), (16, .pointer (some ⟨b_6, 0, none⟩)), (91, .bool b_7)] ⟨e0, e1, e2, e3, e9, e10, e11, e12, e13, e15, e16, e91, trivial⟩ ?_
        refine HW.cond b_7 rfl (fun c_8 => ?_) (fun c_8 => ?_)
        · replace hM := hM.1 c_8
          refine HW.region ?_
          refine HO.val (v := vb_1) (want_none) rfl (q_move rfl) ?_
          refine HO.val (v := .agg #[.int .i64 ((gi l i_2).2.1), .int .i64 ((gi l i_2).2.2.2.1)]) (want_none) rfl (q_loadAgg (cs := [.int .i64 ((gi l i_2).2.1), .int .i64 ((gi l i_2).2.2.2.1)]) ta_100 rfl rfl (Blk.cells (k := 2) (hS.box 1 rfl) rfl)) ?_
          refine HO.call (want_none) rfl (ec en_119 rfl rfl) (ref44_Add_walk (fr := (Ow.box b_1 100 #[.int .i64 but.1, .int .i64 but.2] :: Ow.box b_6 100 #[.int .i64 ((gi l i_2).2.1), .int .i64 ((gi l i_2).2.2.2.1)] :: fr)) b_5 ((gi l i_2).2.1, (gi l i_2).2.2.2.1) vb_1 hS hL_6 hM) ?_
          rintro vr_2 h_13 ⟨F_10, r_4, _, rfl, hk, hS, _, hL_8, hM⟩
          replace hK := hK.trans hk
          replace hL_l := hL_l.kp hk
          replace hL_want := hL_want.kp hk
          replace hL_3 := hL_3.kp hk
          replace hL_6 := hL_6.kp hk
          refine HO.val (v := vr_2) (want_none) rfl (q_assign rfl) ?_
          refine HO.nil (blockQ_normal (thenQ_normal (?_)))
          refine HW.region ?_
          refine HO.val (v := .int .i64 i_2) (want_none) rfl (q_move rfl) ?_
          obtain ⟨ho_6, hM⟩ := hM
          refine HO.val (v := .int .i64 (i_2 + 1)) (want_none) rfl (q_addN _ rfl rfl rfl ho_6.1 ho_6.2) ?_
          refine HO.val (v := .int .i64 (i_2 + 1)) (want_none) rfl (q_assign rfl) ?_
          refine HO.nil (thenQ_normal (?_))
          replace hS : St F_10 (Ow.box b_1 100 #[.int .i64 but.1, .int .i64 but.2] :: fr) h_13 := St.perm (front := [Ow.box b_1 100 #[.int .i64 but.1, .int .i64 but.2], Ow.box b_6 100 #[.int .i64 ((gi l i_2).2.1), .int .i64 ((gi l i_2).2.2.2.1)]]) (fr := fr) hS [0] 2 rfl (by decide) [Ow.box b_1 100 #[.int .i64 but.1, .int .i64 but.2]] rfl
          rw [hKe_2] at hM
          exact ⟨(r_4, i_2 + 1), ⟨F_10, vr_2, rfl, rfl, rfl, rfl, rfl, rfl, rfl, rfl, rfl, rfl, hK, hS, hL_l, hL_want, hL_3, hL_8, hM.1⟩, hM.2⟩
        · replace hM := hM.2 c_8
          refine HW.skip (blockQ_normal (thenQ_normal (?_)))
          refine HW.region ?_
          refine HO.val (v := .int .i64 i_2) (want_none) rfl (q_move rfl) ?_
          obtain ⟨ho_7, hM⟩ := hM
          refine HO.val (v := .int .i64 (i_2 + 1)) (want_none) rfl (q_addN _ rfl rfl rfl ho_7.1 ho_7.2) ?_
          refine HO.val (v := .int .i64 (i_2 + 1)) (want_none) rfl (q_assign rfl) ?_
          refine HO.nil (thenQ_normal (?_))
          replace hS : St F_9 (Ow.box b_1 100 #[.int .i64 but.1, .int .i64 but.2] :: fr) h_12 := St.perm (front := [Ow.box b_1 100 #[.int .i64 but.1, .int .i64 but.2], Ow.box b_6 100 #[.int .i64 ((gi l i_2).2.1), .int .i64 ((gi l i_2).2.2.2.1)]]) (fr := fr) hS [0] 2 rfl (by decide) [Ow.box b_1 100 #[.int .i64 but.1, .int .i64 but.2]] rfl
          rw [hKe_2] at hM
          exact ⟨(b_5, i_2 + 1), ⟨F_9, vb_1, rfl, rfl, rfl, rfl, rfl, rfl, rfl, rfl, rfl, rfl, hK, hS, hL_l, hL_want, hL_3, hL_6, hM.1⟩, hM.2⟩
    · replace hM := hM.2 (of_decide_eq_false c_4)
      refine HW.exit (thenQ_exit (thenQ_exit (blockQ_exit (thenQ_normal (?_)))))
      refine HW.seq ?_
      refine HW.region ?_
      refine HO.val (v := va_1) (want_none) rfl (q_move rfl) ?_
      refine HO.val (v := vb_1) (want_none) rfl (q_move rfl) ?_
      refine HO.val (v := va_1) (want_none) rfl (q_assign rfl) ?_
      refine HO.val (v := vb_1) (want_none) rfl (q_assign rfl) ?_
      refine HO.nil (thenQ_normal (?_))
      refine HW.ret (?_)
      refine ⟨.inr rfl, .tuple #[va_1, vb_1], res2 rfl (rt rfl) (rt rfl), ?_⟩
      replace hS : St F_7 (fr) h_8 := St.perm (front := [Ow.box b_1 100 #[.int .i64 but.1, .int .i64 but.2]]) (fr := fr) hS [] 1 rfl (by decide) [] rfl
      exact ⟨F_7, a_1, b_5, va_1, vb_1, rfl, hK, hS, hL_l, hL_want, hL_3, hL_6, hM⟩

def ref44_Same_l1 (a : List (Int × Int)) (b : List (Int × Int)) (Q : Bool → Prop) (K_1 : Int → Prop) (i_1 : Int) : Prop :=
  (i_1 < (a.length : Int) → ((0 : Int) ≤ i_1 ∧ i_1 < (a.length : Int)) ∧ (((0 : Int) ≤ i_1 ∧ i_1 < (b.length : Int)) ∧ ((¬ (((gi a i_1) : Int × Int) = (gi b i_1)) → Q false) ∧ (((gi a i_1) : Int × Int) = (gi b i_1) → (I64 (i_1 + 1)) ∧ (K_1 (i_1 + 1)))))) ∧ (¬ (i_1 < (a.length : Int)) → Q true)
def ref44_Same_W (a : List (Int × Int)) (b : List (Int × Int)) (Q : Bool → Prop) : Prop :=
  (¬ ((a.length : Int) = (b.length : Int)) → Q false) ∧ ((a.length : Int) = (b.length : Int) → loopW (fun (K_1 : Int → Prop) (s : Int) => ref44_Same_l1 a b Q K_1 s) 0)
set_option maxHeartbeats 40000000 in
set_option maxRecDepth 100000 in
theorem ref44_Same_walk {F : Fz} {fr : List Ow} {h0 : Heap} (a : List (Int × Int)) (b : List (Int × Int)) (va : Value) (vb : Value) (hS : St F (fr) h0) (hL_a : SliceF F h0 2 e_api_Spot va a) (hL_b : SliceF F h0 2 e_api_Spot vb b) {Q : Bool → Prop} (hM : ref44_Same_W a b Q) :
    HC Try.prog 87 #[va, vb] h0 fun u h' => ∃ (F' : Fz) (r_1 : Bool), u = .bool r_1 ∧ Kp F h0 F' h' ∧ St F' (fr) h' ∧ (SliceF F' h' 2 e_api_Spot va a) ∧ (SliceF F' h' 2 e_api_Spot vb b) ∧ Q r_1 := by
  unfold ref44_Same_W at hM
  have hK := Kp.refl F h0
  refine HC.of_HW (n := 26) Try.func87 rfl rfl (Nat.le_of_ble_eq_true rfl) ?_
  refine HW.seq ?_
  refine HW.region ?_
  refine HO.val (v := .bool false) (want_none) rfl (q_assign rfl) ?_
  refine HO.nil (thenQ_normal (?_))
  refine HW.seq ?_
  refine HW.seq ?_
  refine HW.region ?_
  refine HO.val (v := va) (want_none) rfl (q_move rfl) ?_
  refine HO.val (v := .int .i64 (a.length : Int)) (want_none) rfl (q_len ts_98 (shp hL_a.is) rfl rfl) ?_
  refine HO.val (v := vb) (want_none) rfl (q_move rfl) ?_
  refine HO.val (v := .int .i64 (b.length : Int)) (want_none) rfl (q_len ts_98 (shp hL_b.is) rfl rfl) ?_
  refine HO.val (v := .bool (!decide ((a.length : Int) = (b.length : Int)))) (want_none) rfl (q_neq rfl rfl) ?_
  refine HO.nil (thenQ_normal (?_))
  refine HW.cond (!decide ((a.length : Int) = (b.length : Int))) rfl (fun c_1 => ?_) (fun c_1 => ?_)
  · replace hM := hM.1 (nd_true c_1)
    refine HW.seq ?_
    refine HW.region ?_
    refine HO.val (v := .bool false) (want_none) rfl (q_assign rfl) ?_
    refine HO.nil (thenQ_normal (?_))
    refine HW.ret (thenQ_ret (?_))
    refine ⟨.inr rfl, .bool false, res1 rfl (rt rfl), ?_⟩
    exact ⟨F, false, rfl, hK, hS, hL_a, hL_b, hM⟩
  · replace hM := hM.2 (nd_false c_1)
    refine HW.skip (thenQ_normal (?_))
    refine HW.seq ?_
    refine HW.seq ?_
    refine HW.region ?_
    refine HO.val (v := .int .i64 0) (want_none) rfl (q_assign rfl) ?_
    refine HO.nil (thenQ_normal (?_))
    refine HW.block ?_
    obtain ⟨I_1, m_1, hI_1, hR_1⟩ := hM
    refine HW.loop (S := Int) (fun i_1 f h => ∃ (F' : Fz), f 0 = va ∧ f 1 = vb ∧ f 4 = .bool false ∧ f 5 = .int .i64 i_1 ∧ Kp F h0 F' h ∧ St F' (fr) h ∧ (SliceF F' h 2 e_api_Spot va a) ∧ (SliceF F' h 2 e_api_Spot vb b) ∧ I_1 i_1) m_1 0 ⟨F, rfl, rfl, rfl, rfl, hK, hS, hL_a, hL_b, hI_1⟩ ?_
    rintro i_1 f_1 h_1 ⟨F_1, e0, e1, e4, e5, hK, hS, hL_a, hL_b, hI0⟩
    obtain ⟨K_1, hKe_1⟩ : ∃ K : Int → Prop, K = fun i_1' => I_1 i_1' ∧ m_1 i_1' < m_1 i_1 := ⟨_, rfl⟩
    have hM : ref44_Same_l1 a b Q K_1 i_1 := by rw [hKe_1]; exact hR_1 i_1 hI0
    unfold ref44_Same_l1 at hM
    refine HW.fr [(0, va), (1, vb), (4, .bool false), (5, .int .i64 i_1)] ⟨e0, e1, e4, e5, trivial⟩ ?_
    refine HW.seq ?_
    refine HW.seq ?_
    refine HW.region ?_
    refine HO.val (v := .int .i64 i_1) (want_none) rfl (q_move rfl) ?_
    refine HO.val (v := va) (want_none) rfl (q_move rfl) ?_
    refine HO.val (v := .int .i64 (a.length : Int)) (want_none) rfl (q_len ts_98 (shp hL_a.is) rfl rfl) ?_
    refine HO.val (v := .bool (decide (i_1 < (a.length : Int)))) (want_none) rfl (q_lss rfl rfl) ?_
    refine HO.nil (thenQ_normal (?_))
    refine HW.cond (decide (i_1 < (a.length : Int))) rfl (fun c_2 => ?_) (fun c_2 => ?_)
    · replace hM := hM.1 (of_decide_eq_true c_2)
      refine HW.skip (thenQ_normal (?_))
      refine HW.seq ?_
      refine HW.block ?_
      refine HW.seq ?_
      refine HW.regionA 9 mixed (fun h => (SliceIs h 2 e_api_Spot va a) ∧ (SliceIs h 2 e_api_Spot vb b)) [] (by kernel_rfl) ?_
      refine HA.val (k := 0) (v := va) rfl rfl (by kernel_rfl) (by kernel_rfl) (want_none) rfl (fun _ ⟨hL_a, hL_b⟩ => q_move rfl) ?_
      refine HA.val (k := 1) (v := .int .i64 i_1) rfl rfl (by kernel_rfl) (by kernel_rfl) (want_none) rfl (fun _ ⟨hL_a, hL_b⟩ => q_move rfl) ?_
      obtain ⟨ho_1, hM⟩ := hM
      refine HA.val (k := 2) (v := elemPtr 2 va (i_1).toNat) rfl rfl (by kernel_rfl) (by kernel_rfl) (want_none) rfl (fun _ ⟨hL_a, hL_b⟩ => q_idx ts_98 hL_a rfl rfl ho_1) ?_
      refine HA.val (k := 3) (v := .agg #[.int .i64 ((gi a i_1).1), .int .i64 ((gi a i_1).2)]) rfl rfl (by kernel_rfl) (by kernel_rfl) (want_none) rfl (fun _ ⟨hL_a, hL_b⟩ => q_ldElemAgg (cs := [.int .i64 ((gi a i_1).1), .int .i64 ((gi a i_1).2)]) ta_100 hL_a rfl ho_1 rfl) ?_
      refine HA.val (k := 4) (v := vb) rfl rfl (by kernel_rfl) (by kernel_rfl) (want_none) rfl (fun _ ⟨hL_a, hL_b⟩ => q_move rfl) ?_
      refine HA.val (k := 5) (v := .int .i64 i_1) rfl rfl (by kernel_rfl) (by kernel_rfl) (want_none) rfl (fun _ ⟨hL_a, hL_b⟩ => q_move rfl) ?_
      obtain ⟨ho_2, hM⟩ := hM
      refine HA.val (k := 6) (v := elemPtr 2 vb (i_1).toNat) rfl rfl (by kernel_rfl) (by kernel_rfl) (want_none) rfl (fun _ ⟨hL_a, hL_b⟩ => q_idx ts_98 hL_b rfl rfl ho_2) ?_
      refine HA.val (k := 7) (v := .agg #[.int .i64 ((gi b i_1).1), .int .i64 ((gi b i_1).2)]) rfl rfl (by kernel_rfl) (by kernel_rfl) (want_none) rfl (fun _ ⟨hL_a, hL_b⟩ => q_ldElemAgg (cs := [.int .i64 ((gi b i_1).1), .int .i64 ((gi b i_1).2)]) ta_100 hL_b rfl ho_2 rfl) ?_
      refine HA.val (k := 8) (v := .bool (!decide (((gi a i_1) : Int × Int) = (gi b i_1)))) rfl rfl (by kernel_rfl) (by kernel_rfl) (want_none) rfl (fun _ ⟨hL_a, hL_b⟩ => q_neqAgg (a := (gi a i_1)) (b := (gi b i_1)) (fun a b w => teq_100 9998 a b w) (by kernel_rfl) rfl rfl rfl rfl) ?_
      refine HA.nil ⟨⟨hL_a.is, hL_b.is⟩, (Go.Wk.at_nil _ _)⟩ (by kernel_rfl) (thenQ_normal (?_))
      refine HW.cond (!decide (((gi a i_1) : Int × Int) = (gi b i_1))) rfl (fun c_3 => ?_) (fun c_3 => ?_)
      · replace hM := hM.1 (nd_true c_3)
        refine HW.seq ?_
        refine HW.region ?_
        refine HO.val (v := .bool false) (want_none) rfl (q_assign rfl) ?_
        refine HO.nil (thenQ_normal (?_))
        refine HW.ret (blockQ_ret (thenQ_ret (thenQ_ret (blockQ_ret (thenQ_ret (?_))))))
        refine ⟨.inr rfl, .bool false, res1 rfl (rt rfl), ?_⟩
        exact ⟨F_1, false, rfl, hK, hS, hL_a, hL_b, hM⟩
      · replace hM := hM.2 (nd_false c_3)
        refine HW.skip (blockQ_normal (thenQ_normal (?_)))
        refine HW.region ?_
        refine HO.val (v := .int .i64 i_1) (want_none) rfl (q_move rfl) ?_
        obtain ⟨ho_3, hM⟩ := hM
        refine HO.val (v := .int .i64 (i_1 + 1)) (want_none) rfl (q_addN _ rfl rfl rfl ho_3.1 ho_3.2) ?_
        refine HO.val (v := .int .i64 (i_1 + 1)) (want_none) rfl (q_assign rfl) ?_
        refine HO.nil (thenQ_normal (?_))
        rw [hKe_1] at hM
        exact ⟨i_1 + 1, ⟨F_1, rfl, rfl, rfl, rfl, hK, hS, hL_a, hL_b, hM.1⟩, hM.2⟩
    · replace hM := hM.2 (of_decide_eq_false c_2)
      refine HW.exit (thenQ_exit (thenQ_exit (blockQ_exit (thenQ_normal (?_)))))
      refine HW.seq ?_
      refine HW.region ?_
      refine HO.val (v := .bool true) (want_none) rfl (q_assign rfl) ?_
      refine HO.nil (thenQ_normal (?_))
      refine HW.ret (?_)
      refine ⟨.inr rfl, .bool true, res1 rfl (rt rfl), ?_⟩
      exact ⟨F_1, true, rfl, hK, hS, hL_a, hL_b, hM⟩

def ref44_Of_l1 (l : List (Int × Int × Int × Int × Str)) (id : Int) (Q : (List (Int × Int)) → Prop) (K_1 : (List (Int × Int)) → Int → Prop) (out_1 : List (Int × Int)) (i_1 : Int) : Prop :=
  (i_1 < (l.length : Int) → ((0 : Int) ≤ i_1 ∧ i_1 < (l.length : Int)) ∧ ((((gi l i_1).1) = id → ref44_Add_W out_1 ((gi l i_1).2.1, (gi l i_1).2.2.2.1) (fun r_2 => (I64 (i_1 + 1)) ∧ (K_1 r_2 (i_1 + 1)))) ∧ (¬ (((gi l i_1).1) = id) → (I64 (i_1 + 1)) ∧ (K_1 out_1 (i_1 + 1))))) ∧ (¬ (i_1 < (l.length : Int)) → Q out_1)
def ref44_Of_W (l : List (Int × Int × Int × Int × Str)) (id : Int) (Q : (List (Int × Int)) → Prop) : Prop :=
  loopW (fun (K_1 : ((List (Int × Int)) × Int) → Prop) (s : (List (Int × Int)) × Int) => ref44_Of_l1 l id Q (fun out_1 i_1 => K_1 (out_1, i_1)) s.1 s.2) ([], 0)
set_option maxHeartbeats 40000000 in
set_option maxRecDepth 100000 in
theorem ref44_Of_walk {F : Fz} {fr : List Ow} {h0 : Heap} (l : List (Int × Int × Int × Int × Str)) (id : Int) (vl : Value) (hS : St F (fr) h0) (hL_l : SliceF F h0 5 e_api_Given vl l) {Q : (List (Int × Int)) → Prop} (hM : ref44_Of_W l id Q) :
    HC Try.prog 90 #[vl, .int .i64 id] h0 fun u h' => ∃ (F' : Fz) (r_1 : List (Int × Int)) (vr_1 : Value), u = vr_1 ∧ Kp F h0 F' h' ∧ St F' (fr) h' ∧ (SliceF F' h' 5 e_api_Given vl l) ∧ (SliceF F' h' 2 e_api_Spot vr_1 r_1) ∧ Q r_1 := by
  unfold ref44_Of_W at hM
  have hK := Kp.refl F h0
  refine HC.of_HW (n := 35) Try.func90 rfl rfl (Nat.le_of_ble_eq_true rfl) ?_
  refine HW.seq ?_
  refine HW.region ?_
  refine HO.val (v := .slice none 0 0) (want_none) rfl (q_assign rfl) ?_
  refine HO.nil (thenQ_normal (?_))
  refine HW.seq ?_
  refine HW.region ?_
  refine HO.eff (want_none) rfl (st_litEmpty (α := Int × Int) e_api_Spot hS tl_98) ?_
  rintro _ h_1 ⟨b_1, rfl, hS, hk⟩
  replace hK := hK.trans hk
  replace hL_l := hL_l.kp hk
  refine HO.val (v := .slice (some ⟨b_1, 0, none⟩) 0 0) (want_none) rfl (q_assign rfl) ?_
  refine HO.nil (thenQ_normal (?_))
  refine HW.seq ?_
  refine HW.seq ?_
  refine HW.region ?_
  refine HO.val (v := .int .i64 0) (want_none) rfl (q_assign rfl) ?_
  refine HO.nil (thenQ_normal (?_))
  refine HW.block ?_
  obtain ⟨I_1, m_1, hI_1, hR_1⟩ := hM
  obtain ⟨F_1, hS, hk, hL_3⟩ := hS.freezeOwn
  replace hK := hK.trans hk
  replace hL_l := hL_l.kp hk
  refine HW.loop (S := (List (Int × Int)) × Int) (fun s f h => match s with | (out_1, i_1) => ∃ (F' : Fz) (vout_1 : Value), f 0 = vl ∧ f 1 = .int .i64 id ∧ f 4 = .slice none 0 0 ∧ f 5 = vout_1 ∧ f 6 = .int .i64 i_1 ∧ Kp F h0 F' h ∧ St F' (fr) h ∧ (SliceF F' h 5 e_api_Given vl l) ∧ (SliceF F' h 2 e_api_Spot vout_1 out_1) ∧ I_1 (out_1, i_1)) m_1 ([], 0) ⟨F_1, .slice (some ⟨b_1, 0, none⟩) 0 0, rfl, rfl, rfl, rfl, rfl, hK, hS, hL_l, hL_3, hI_1⟩ ?_
  rintro ⟨out_1, i_1⟩ f_1 h_2 ⟨F_2, vout_1, e0, e1, e4, e5, e6, hK, hS, hL_l, hL_2, hI0⟩
  obtain ⟨K_1, hKe_1⟩ : ∃ K : (List (Int × Int)) → Int → Prop, K = fun out_1' i_1' => I_1 (out_1', i_1') ∧ m_1 (out_1', i_1') < m_1 (out_1, i_1) := ⟨_, rfl⟩
  have hM : ref44_Of_l1 l id Q K_1 out_1 i_1 := by rw [hKe_1]; exact hR_1 (out_1, i_1) hI0
  unfold ref44_Of_l1 at hM
  refine HW.fr [(0, vl), (1, .int .i64 id), (4, .slice none 0 0), (5, vout_1), (6, .int .i64 i_1)] ⟨e0, e1, e4, e5, e6, trivial⟩ ?_
  refine HW.seq ?_
  refine HW.seq ?_
  refine HW.region ?_
  refine HO.val (v := .int .i64 i_1) (want_none) rfl (q_move rfl) ?_
  refine HO.val (v := vl) (want_none) rfl (q_move rfl) ?_
  refine HO.val (v := .int .i64 (l.length : Int)) (want_none) rfl (q_len ts_97 (shp hL_l.is) rfl rfl) ?_
  refine HO.val (v := .bool (decide (i_1 < (l.length : Int)))) (want_none) rfl (q_lss rfl rfl) ?_
  refine HO.nil (thenQ_normal (?_))
  refine HW.cond (decide (i_1 < (l.length : Int))) rfl (fun c_1 => ?_) (fun c_1 => ?_)
  · replace hM := hM.1 (of_decide_eq_true c_1)
    refine HW.skip (thenQ_normal (?_))
    refine HW.seq ?_
    refine HW.block ?_
    refine HW.seq ?_
    refine HW.region ?_
    refine HO.val (v := vl) (want_none) rfl (q_move rfl) ?_
    refine HO.val (v := .int .i64 i_1) (want_none) rfl (q_move rfl) ?_
    obtain ⟨ho_1, hM⟩ := hM
    refine HO.val (v := elemPtr 5 vl (i_1).toNat) (want_none) rfl (q_idx ts_97 hL_l.is rfl rfl ho_1) ?_
    refine HO.val (v := fieldPtr 5 vl (i_1).toNat 0) (want_none) rfl (q_fldElem fa_112_0 hL_l.is rfl ho_1) ?_
    refine HO.val (v := .int .i64 ((gi l i_1).1)) (want_none) rfl (q_ldField to_3 hL_l.is rfl ho_1 (by decide) rfl) ?_
    refine HO.val (v := .int .i64 id) (want_none) rfl (q_move rfl) ?_
    refine HO.val (v := .bool (decide (((gi l i_1).1) = id))) (want_none) rfl (q_eql rfl rfl) ?_
    refine HO.nil (thenQ_normal (?_))
    refine HW.cond (decide (((gi l i_1).1) = id)) rfl (fun c_2 => ?_) (fun c_2 => ?_)
    · replace hM := hM.1 (of_decide_eq_true c_2)
      refine HW.regionA 14 mixed (fun h => (SliceIs h 5 e_api_Given vl l) ∧ (SliceIs h 2 e_api_Spot vout_1 out_1)) [] (by kernel_rfl) ?_
      refine HA.val (k := 0) (v := vout_1) rfl rfl (by kernel_rfl) (by kernel_rfl) (want_none) rfl (fun _ ⟨hL_l, hL_2⟩ => q_move rfl) ?_
      refine HA.val (k := 1) (v := vl) rfl rfl (by kernel_rfl) (by kernel_rfl) (want_none) rfl (fun _ ⟨hL_l, hL_2⟩ => q_move rfl) ?_
      refine HA.val (k := 2) (v := .int .i64 i_1) rfl rfl (by kernel_rfl) (by kernel_rfl) (want_none) rfl (fun _ ⟨hL_l, hL_2⟩ => q_move rfl) ?_
      refine HA.val (k := 3) (v := elemPtr 5 vl (i_1).toNat) rfl rfl (by kernel_rfl) (by kernel_rfl) (want_none) rfl (fun _ ⟨hL_l, hL_2⟩ => q_idx ts_97 hL_l rfl rfl ho_1) ?_
      refine HA.val (k := 4) (v := fieldPtr 5 vl (i_1).toNat 1) rfl rfl (by kernel_rfl) (by kernel_rfl) (want_none) rfl (fun _ ⟨hL_l, hL_2⟩ => q_fldElem fa_112_1 hL_l rfl ho_1) ?_
      refine HA.val (k := 5) (v := .int .i64 ((gi l i_1).2.1)) rfl rfl (by kernel_rfl) (by kernel_rfl) (want_none) rfl (fun _ ⟨hL_l, hL_2⟩ => q_ldField to_3 hL_l rfl ho_1 (by decide) rfl) ?_
      refine HA.val (k := 6) (v := vl) rfl rfl (by kernel_rfl) (by kernel_rfl) (want_none) rfl (fun _ ⟨hL_l, hL_2⟩ => q_move rfl) ?_
      refine HA.val (k := 7) (v := .int .i64 i_1) rfl rfl (by kernel_rfl) (by kernel_rfl) (want_none) rfl (fun _ ⟨hL_l, hL_2⟩ => q_move rfl) ?_
      refine HA.val (k := 8) (v := elemPtr 5 vl (i_1).toNat) rfl rfl (by kernel_rfl) (by kernel_rfl) (want_none) rfl (fun _ ⟨hL_l, hL_2⟩ => q_idx ts_97 hL_l rfl rfl ho_1) ?_
      refine HA.val (k := 9) (v := fieldPtr 5 vl (i_1).toNat 3) rfl rfl (by kernel_rfl) (by kernel_rfl) (want_none) rfl (fun _ ⟨hL_l, hL_2⟩ => q_fldElem fa_112_3 hL_l rfl ho_1) ?_
      refine HA.val (k := 10) (v := .int .i64 ((gi l i_1).2.2.2.1)) rfl rfl (by kernel_rfl) (by kernel_rfl) (want_none) rfl (fun _ ⟨hL_l, hL_2⟩ => q_ldField to_3 hL_l rfl ho_1 (by decide) rfl) ?_
      refine HA.val (k := 11) (v := .agg #[.int .i64 ((gi l i_1).2.1), .int .i64 ((gi l i_1).2.2.2.1)]) rfl rfl (by kernel_rfl) (by kernel_rfl) (want_none) rfl (fun _ ⟨hL_l, hL_2⟩ => q_build tp_100 rfl) ?_
      refine HA.one (k := 12) ⟨⟨hL_l.is, hL_2.is⟩, (Go.Wk.at_nil _ _)⟩ (by kernel_rfl) ?_
      refine HS.call rfl (want_none) rfl (ec en_119 rfl rfl) (ref44_Add_walk (fr := (fr)) out_1 ((gi l i_1).2.1, (gi l i_1).2.2.2.1) vout_1 hS hL_2 hM) ?_
      rintro vr_2 h_3 ⟨F_3, r_2, _, rfl, hk, hS, _, hL_4, hM⟩
      replace hK := hK.trans hk
      replace hL_l := hL_l.kp hk
      replace hL_2 := hL_2.kp hk
      refine HA.val (k := 13) (v := vr_2) rfl rfl (by kernel_rfl) (by kernel_rfl) (want_none) rfl (fun _ ⟨hL_l, hL_2⟩ => q_assign rfl) ?_
      refine HA.nil ⟨⟨hL_l.is, hL_2.is⟩, (Go.Wk.at_nil _ _)⟩ (by kernel_rfl) (blockQ_normal (thenQ_normal (?_)))
      refine HW.region ?_
      refine HO.val (v := .int .i64 i_1) (want_none) rfl (q_move rfl) ?_
      obtain ⟨ho_2, hM⟩ := hM
      refine HO.val (v := .int .i64 (i_1 + 1)) (want_none) rfl (q_addN _ rfl rfl rfl ho_2.1 ho_2.2) ?_
      refine HO.val (v := .int .i64 (i_1 + 1)) (want_none) rfl (q_assign rfl) ?_
      refine HO.nil (thenQ_normal (?_))
      rw [hKe_1] at hM
      exact ⟨(r_2, i_1 + 1), ⟨F_3, vr_2, rfl, rfl, rfl, rfl, rfl, hK, hS, hL_l, hL_4, hM.1⟩, hM.2⟩
    · replace hM := hM.2 (of_decide_eq_false c_2)
      refine HW.skip (blockQ_normal (thenQ_normal (?_)))
      refine HW.region ?_
      refine HO.val (v := .int .i64 i_1) (want_none) rfl (q_move rfl) ?_
      obtain ⟨ho_3, hM⟩ := hM
      refine HO.val (v := .int .i64 (i_1 + 1)) (want_none) rfl (q_addN _ rfl rfl rfl ho_3.1 ho_3.2) ?_
      refine HO.val (v := .int .i64 (i_1 + 1)) (want_none) rfl (q_assign rfl) ?_
      refine HO.nil (thenQ_normal (?_))
      rw [hKe_1] at hM
      exact ⟨(out_1, i_1 + 1), ⟨F_2, vout_1, rfl, rfl, rfl, rfl, rfl, hK, hS, hL_l, hL_2, hM.1⟩, hM.2⟩
  · replace hM := hM.2 (of_decide_eq_false c_1)
    refine HW.exit (thenQ_exit (thenQ_exit (blockQ_exit (thenQ_normal (?_)))))
    refine HW.seq ?_
    refine HW.region ?_
    refine HO.val (v := vout_1) (want_none) rfl (q_move rfl) ?_
    refine HO.val (v := vout_1) (want_none) rfl (q_assign rfl) ?_
    refine HO.nil (thenQ_normal (?_))
    refine HW.ret (?_)
    refine ⟨.inr rfl, vout_1, res1 rfl (rt rfl), ?_⟩
    exact ⟨F_2, out_1, vout_1, rfl, hK, hS, hL_l, hL_2, hM⟩
end Go.Wk
