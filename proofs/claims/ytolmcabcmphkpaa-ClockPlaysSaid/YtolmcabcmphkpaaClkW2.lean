/- Walks of Clock laws. -/
import Derived.Test.YtolmcabcmphkpaaClkW1
set_option linter.unusedSimpArgs false
set_option linter.unusedVariables false
set_option linter.unusedSectionVars false
namespace Go.Wk
open Go.HL
open Go.Proofs hiding encI
variable [DM]

def law12_ClockPlays_j2 (Q : Bool → Prop) (r_3 : Str) (i_1 : Int) (K_1 : (List (Str × Int)) → (List T_acequiaref12_Entry) → Int → Prop) (c_0_2 : List (Str × Int)) (l_3 : List T_acequiaref12_Entry) : Prop :=
  law12_told_W c_0_2 l_3 r_3 (fun r_17 cm_5 => ((!r_17) = true → Q false) ∧ ((!r_17) = false → (I64 (i_1 + 1)) ∧ (K_1 cm_5 l_3 (i_1 + 1))))
def law12_ClockPlays_j1 (acts : List T_acequiaref12_Act) (Q : Bool → Prop) (r_3 : Str) (c_0_1 : List (Str × Int)) (l_1 : List T_acequiaref12_Entry) (i_1 : Int) (K_1 : (List (Str × Int)) → (List T_acequiaref12_Entry) → Int → Prop) (b_3 : Bool) : Prop :=
  (b_3 = true → ((0 : Int) ≤ i_1 ∧ i_1 < (acts.length : Int)) ∧ (law01_Cut_W ((gi acts i_1).2.1) 10 (fun r_4 => ref12_Find_W l_1 r_4 (fun r_5 => ref12_Due_W l_1 ((gi acts i_1).2.2) (fun r_6 => (((gi acts i_1).1) = 0 → clock_Clock_Set_string_W c_0_1 r_4 ((gi acts i_1).2.2) (fun r_7 cm_1 => ((!(r_7 == (!decide (0 ≤ r_5)))) = true → Q false) ∧ ((!(r_7 == (!decide (0 ≤ r_5)))) = false → ref12_Set_W l_1 r_4 ((gi acts i_1).2.2) (fun r_8 => law12_ClockPlays_j2 Q r_3 i_1 K_1 cm_1 r_8)))) ∧ (¬ (((gi acts i_1).1) = 0) → (((gi acts i_1).1) = 1 → clock_Clock_Cut_string_W c_0_1 r_4 (fun r_9 cm_2 => ((!(r_9 == (decide (0 ≤ r_5)))) = true → Q false) ∧ ((!(r_9 == (decide (0 ≤ r_5)))) = false → ref12_Cut_W l_1 r_4 (fun r_10 => law12_ClockPlays_j2 Q r_3 i_1 K_1 cm_2 r_10)))) ∧ (¬ (((gi acts i_1).1) = 1) → (((gi acts i_1).1) = 2 → ((0 : Int) ≤ r_6 ∧ r_6 ≤ (l_1.length : Int)) ∧ (clock_Clock_Pop_string_W c_0_1 ((gi acts i_1).2.2) (fun r_11 cm_3 => ref12_Keys_W (cut l_1 0 r_6) (fun r_12 => ref12_Same_W r_11 r_12 (fun r_13 => ((!r_13) = true → Q false) ∧ ((!r_13) = false → law12_ClockPlays_j2 Q r_3 i_1 K_1 cm_3 (cut l_1 r_6 (l_1.length : Int)))))))) ∧ (¬ (((gi acts i_1).1) = 2) → ((0 : Int) ≤ r_6 ∧ r_6 ≤ (l_1.length : Int)) ∧ (clock_Clock_Due_string_W c_0_1 ((gi acts i_1).2.2) (fun r_14 cm_4 => ref12_Keys_W (cut l_1 0 r_6) (fun r_15 => ref12_Same_W r_14 r_15 (fun r_16 => ((!r_16) = true → Q false) ∧ ((!r_16) = false → law12_ClockPlays_j2 Q r_3 i_1 K_1 cm_4 l_1))))))))))))) ∧ (b_3 = false → law12_lives_W  (fun r_18 => Q r_18))
def law12_ClockPlays_l2 (acts : List T_acequiaref12_Act) (Q : Bool → Prop) (r_3 : Str) (K_1 : (List (Str × Int)) → (List T_acequiaref12_Entry) → Int → Prop) (c_0_1 : List (Str × Int)) (l_1 : List T_acequiaref12_Entry) (i_1 : Int) : Prop :=
  (i_1 < (acts.length : Int) → law12_ClockPlays_j1 acts Q r_3 c_0_1 l_1 i_1 K_1 (decide (i_1 < 30))) ∧ (¬ (i_1 < (acts.length : Int)) → law12_ClockPlays_j1 acts Q r_3 c_0_1 l_1 i_1 K_1 false)
def law12_ClockPlays_W (acts : List T_acequiaref12_Act) (ask : Str) (Q : Bool → Prop) : Prop :=
  clock_New_string_W  (law01_Cut_W ask 10 (fun r_3 => loopW (fun (K_1 : ((List (Str × Int)) × List T_acequiaref12_Entry × Int) → Prop) (s : (List (Str × Int)) × List T_acequiaref12_Entry × Int) => law12_ClockPlays_l2 acts Q r_3 (fun c_0_1 l_1 i_1 => K_1 (c_0_1, l_1, i_1)) s.1 s.2.1 s.2.2) ([], [], 0)))
set_option maxHeartbeats 40000000 in
set_option maxRecDepth 100000 in
theorem law12_ClockPlays_walk {F : Fz} {fr : List Ow} {h0 : Heap} (acts : List T_acequiaref12_Act) (ask : Str) (vacts : Value) (hS : St F (fr) h0) (hL_acts : SliceF F h0 3 e_acequiaref12_Act vacts acts) (hD : DM.on = false) {Q : Bool → Prop} (hM : law12_ClockPlays_W acts ask Q) :
    HC Try.prog 3 #[vacts, .string (bs ask)] h0 fun u h' => ∃ (F' : Fz) (r_1 : Bool), u = .bool r_1 ∧ Kp F h0 F' h' ∧ St F' (fr) h' ∧ (SliceF F' h' 3 e_acequiaref12_Act vacts acts) ∧ Q r_1 := by
  unfold law12_ClockPlays_W at hM
  have hK := Kp.refl F h0
  refine HC.of_HW (n := 104) Try.func3 rfl rfl (Nat.le_of_ble_eq_true rfl) ?_
  refine HW.seq ?_
  refine HW.region ?_
  refine HO.val (v := .bool false) (want_none) rfl (q_assign rfl) ?_
  refine HO.nil (thenQ_normal (?_))
  refine HW.seq ?_
  refine HW.region ?_
  refine HO.call (want_none) rfl (ec en_7 rfl rfl) (clock_New_string_walk (fr := (fr))  hS hM) ?_
  rintro _ h_1 ⟨F_1, b_1, r_2, rfl, hk, hS, hM⟩
  replace hK := hK.trans hk
  replace hL_acts := hL_acts.kp hk
  refine HO.eff (want_none) rfl (st_litEmpty (α := T_acequiaref12_Entry) e_acequiaref12_Entry hS tl_25) ?_
  rintro _ h_2 ⟨b_2, rfl, hS, hk⟩
  replace hK := hK.trans hk
  replace hL_acts := hL_acts.kp hk
  refine HO.val (v := .pointer (some ⟨b_1, 0, none⟩)) (want_none) rfl (q_assign rfl) ?_
  refine HO.val (v := .slice (some ⟨b_2, 0, none⟩) 0 0) (want_none) rfl (q_assign rfl) ?_
  refine HO.nil (thenQ_normal (?_))
  refine HW.seq ?_
  refine HW.region ?_
  refine HO.val (v := .string (bs ask)) (want_none) rfl (q_move rfl) ?_
  refine HO.call (want_none) rfl (ec en_8 rfl rfl) (law01_Cut_walk (fr := (Ow.own 80 2 e_acequiaref12_Entry (.slice (some ⟨b_2, 0, none⟩) 0 0) ([] : List T_acequiaref12_Entry) :: Ow.box b_1 78 #[.map (some r_2)] :: Ow.map r_2 kT kI ([] : List (Str × Int)) :: fr)) ask 10 hS hM) ?_
  rintro _ h_3 ⟨F_2, r_3, rfl, hk, hS, hM⟩
  replace hK := hK.trans hk
  replace hL_acts := hL_acts.kp hk
  refine HO.val (v := .string (bs r_3)) (want_none) rfl (q_assign rfl) ?_
  refine HO.nil (thenQ_normal (?_))
  refine HW.seq ?_
  refine HW.seq ?_
  refine HW.region ?_
  refine HO.val (v := .int .i64 0) (want_none) rfl (q_assign rfl) ?_
  refine HO.nil (thenQ_normal (?_))
  refine HW.block ?_
  obtain ⟨I_1, m_1, hI_1, hR_1⟩ := hM
  obtain ⟨F_3, hS, hk, hL_2⟩ := hS.freezeOwn
  replace hK := hK.trans hk
  replace hL_acts := hL_acts.kp hk
  refine HW.loop (S := (List (Str × Int)) × List T_acequiaref12_Entry × Int) (fun s f h => match s with | (c_0_1, l_1, i_1) => ∃ (F' : Fz) (vl_1 : Value), f 0 = vacts ∧ f 1 = .string (bs r_3) ∧ f 4 = .bool false ∧ f 5 = .pointer (some ⟨b_1, 0, none⟩) ∧ f 6 = vl_1 ∧ f 7 = .int .i64 i_1 ∧ Kp F h0 F' h ∧ St F' (Ow.box b_1 78 #[.map (some r_2)] :: Ow.map r_2 kT kI c_0_1 :: fr) h ∧ (SliceF F' h 3 e_acequiaref12_Act vacts acts) ∧ (SliceF F' h 2 e_acequiaref12_Entry vl_1 l_1) ∧ I_1 (c_0_1, l_1, i_1)) m_1 ([], [], 0) ⟨F_3, .slice (some ⟨b_2, 0, none⟩) 0 0, rfl, rfl, rfl, rfl, rfl, rfl, hK, hS, hL_acts, hL_2, hI_1⟩ ?_
  rintro ⟨c_0_1, l_1, i_1⟩ f_1 h_4 ⟨F_4, vl_1, e0, e1, e4, e5, e6, e7, hK, hS, hL_acts, hL_1, hI0⟩
  obtain ⟨K_1, hKe_1⟩ : ∃ K : (List (Str × Int)) → (List T_acequiaref12_Entry) → Int → Prop, K = fun c_0_1' l_1' i_1' => I_1 (c_0_1', l_1', i_1') ∧ m_1 (c_0_1', l_1', i_1') < m_1 (c_0_1, l_1, i_1) := ⟨_, rfl⟩
  have hM : law12_ClockPlays_l2 acts Q r_3 K_1 c_0_1 l_1 i_1 := by rw [hKe_1]; exact hR_1 (c_0_1, l_1, i_1) hI0
  unfold law12_ClockPlays_l2 at hM
  refine HW.fr [(0, vacts), (1, .string (bs r_3)), (4, .bool false), (5, .pointer (some ⟨b_1, 0, none⟩)), (6, vl_1), (7, .int .i64 i_1)] ⟨e0, e1, e4, e5, e6, e7, trivial⟩ ?_
  refine HW.seq ?_
  refine HW.seq_mid (fun f h => ∃ (F' : Fz) (b_3 : Bool), f 0 = vacts ∧ f 1 = .string (bs r_3) ∧ f 4 = .bool false ∧ f 5 = .pointer (some ⟨b_1, 0, none⟩) ∧ f 6 = vl_1 ∧ f 7 = .int .i64 i_1 ∧ f 22 = .bool b_3 ∧ Kp F h0 F' h ∧ St F' (Ow.box b_1 78 #[.map (some r_2)] :: Ow.map r_2 kT kI c_0_1 :: fr) h ∧ (SliceF F' h 3 e_acequiaref12_Act vacts acts) ∧ (SliceF F' h 2 e_acequiaref12_Entry vl_1 l_1) ∧ law12_ClockPlays_j1 acts Q r_3 c_0_1 l_1 i_1 K_1 b_3) ?_ ?_
  · refine HW.region ?_
    refine HO.val (v := .int .i64 i_1) (want_none) rfl (q_move rfl) ?_
    refine HO.val (v := vacts) (want_none) rfl (q_move rfl) ?_
    refine HO.val (v := .int .i64 (acts.length : Int)) (want_none) rfl (q_len ts_22 (shp hL_acts.is) rfl rfl) ?_
    refine HO.val (v := .bool (decide (i_1 < (acts.length : Int)))) (want_none) rfl (q_lss rfl rfl) ?_
    refine HO.val (v := .bool (decide (i_1 < (acts.length : Int)))) (want_none) rfl (q_move rfl) ?_
    rcases Bool.eq_false_or_eq_true (decide (i_1 < (acts.length : Int))) with c_1 | c_1
    · replace hM := hM.1 (of_decide_eq_true c_1)
      refine HO.val (v := .int .i64 i_1) (want_by rfl rfl c_1) rfl (q_move rfl) ?_
      refine HO.val (v := .bool (decide (i_1 < 30))) (want_by rfl rfl c_1) rfl (q_lss rfl rfl) ?_
      refine HO.val (v := .bool (decide (i_1 < 30))) (want_none) rfl (q_pickK true rfl c_1 rfl) ?_
      refine HO.nil (thenQ_normal (?_))
      exact ⟨F_4, decide (i_1 < 30), rfl, rfl, rfl, rfl, rfl, rfl, rfl, hK, hS, hL_acts, hL_1, hM⟩
    · replace hM := hM.2 (of_decide_eq_false c_1)
      refine HO.past (past_by rfl rfl c_1) rfl ?_
      refine HO.past (past_by rfl rfl c_1) rfl ?_
      refine HO.val (v := .bool false) (want_none) rfl (q_pickK false rfl c_1 rfl) ?_
      refine HO.nil (thenQ_normal (?_))
      exact ⟨F_4, false, rfl, rfl, rfl, rfl, rfl, rfl, rfl, hK, hS, hL_acts, hL_1, hM⟩
  · rintro f_2 h_5 ⟨F_5, b_3, e0, e1, e4, e5, e6, e7, e22, hK, hS, hL_acts, hL_1, hM⟩
    unfold law12_ClockPlays_j1 at hM
    refine HW.fr [(0, vacts), (1, .string (bs r_3)), (4, .bool false), (5, .pointer (some ⟨b_1, 0, none⟩)), (6, vl_1), (7, .int .i64 i_1), (22, .bool b_3)] ⟨e0, e1, e4, e5, e6, e7, e22, trivial⟩ ?_
    refine HW.cond b_3 rfl (fun c_2 => ?_) (fun c_2 => ?_)
    · replace hM := hM.1 c_2
      refine HW.skip (thenQ_normal (?_))
      refine HW.seq ?_
      refine HW.block ?_
      refine HW.seq ?_
      refine HW.region ?_
      refine HO.val (v := vacts) (want_none) rfl (q_move rfl) ?_
      refine HO.val (v := .int .i64 i_1) (want_none) rfl (q_move rfl) ?_
      obtain ⟨ho_1, hM⟩ := hM
      refine HO.val (v := elemPtr 3 vacts (i_1).toNat) (want_none) rfl (q_idx ts_22 hL_acts.is rfl rfl ho_1) ?_
      refine HO.val (v := .agg #[.int .i64 ((gi acts i_1).1), .string (bs ((gi acts i_1).2.1)), .int .i64 ((gi acts i_1).2.2)]) (want_none) rfl (q_ldElemAgg (cs := [.int .i64 ((gi acts i_1).1), .string (bs ((gi acts i_1).2.1)), .int .i64 ((gi acts i_1).2.2)]) ta_28 hL_acts.is rfl ho_1 rfl) ?_
      refine HO.eff (want_none) rfl (st_alloc (c := #[.int .i64 0, .string (bs []), .int .i64 0]) hS tz_28 rfl) ?_
      rintro _ h_6 ⟨b_4, rfl, hS, hk⟩
      replace hK := hK.trans hk
      replace hL_acts := hL_acts.kp hk
      replace hL_1 := hL_1.kp hk
      refine HO.sto (want_none) rfl (st_storeAgg (c' := #[.int .i64 ((gi acts i_1).1), .string (bs ((gi acts i_1).2.1)), .int .i64 ((gi acts i_1).2.2)]) hS (i := 0) rfl ta_28 rfl rfl rfl (by simp [Value.oneCell']) (Nat.le_of_ble_eq_true rfl) rfl) ?_
      rintro h_7 ⟨hS, hk⟩
      replace hS : St F_5 (Ow.box b_4 28 #[.int .i64 ((gi acts i_1).1), .string (bs ((gi acts i_1).2.1)), .int .i64 ((gi acts i_1).2.2)] :: Ow.box b_1 78 #[.map (some r_2)] :: Ow.map r_2 kT kI c_0_1 :: fr) h_7 := hS
      replace hK := hK.trans hk
      replace hL_acts := hL_acts.kp hk
      replace hL_1 := hL_1.kp hk
      refine HO.nil (thenQ_normal (?_))
      refine HW.seq ?_
      refine HW.region ?_
      refine HO.val (v := .pointer (some ⟨b_4, 1, none⟩)) (want_none) rfl (q_fieldAddr fa_28_1 rfl rfl) ?_
      refine HO.val (v := .string (bs ((gi acts i_1).2.1))) (want_none) rfl (q_load to_9 rfl (Blk.cell (hS.box 0 rfl) rfl)) ?_
      refine HO.call (want_none) rfl (ec en_8 rfl rfl) (law01_Cut_walk (fr := (Ow.box b_4 28 #[.int .i64 ((gi acts i_1).1), .string (bs ((gi acts i_1).2.1)), .int .i64 ((gi acts i_1).2.2)] :: Ow.box b_1 78 #[.map (some r_2)] :: Ow.map r_2 kT kI c_0_1 :: fr)) ((gi acts i_1).2.1) 10 hS hM) ?_
      rintro _ h_8 ⟨F_6, r_4, rfl, hk, hS, hM⟩
      replace hK := hK.trans hk
      replace hL_acts := hL_acts.kp hk
      replace hL_1 := hL_1.kp hk
      refine HO.val (v := .pointer (some ⟨b_4, 1, none⟩)) (want_none) rfl (q_fieldAddr fa_28_1 rfl rfl) ?_
      refine HO.sto (want_none) rfl (st_store (c' := #[.int .i64 ((gi acts i_1).1), .string (bs r_4), .int .i64 ((gi acts i_1).2.2)]) hS (i := 0) rfl to_9 rfl rfl rfl rfl (Nat.le_of_ble_eq_true rfl) rfl) ?_
      rintro h_9 ⟨hS, hk⟩
      replace hS : St F_6 (Ow.box b_4 28 #[.int .i64 ((gi acts i_1).1), .string (bs r_4), .int .i64 ((gi acts i_1).2.2)] :: Ow.box b_1 78 #[.map (some r_2)] :: Ow.map r_2 kT kI c_0_1 :: fr) h_9 := hS
      replace hK := hK.trans hk
      replace hL_acts := hL_acts.kp hk
      replace hL_1 := hL_1.kp hk
      refine HO.nil (thenQ_normal (?_))
      refine HW.seq ?_
      refine HW.region ?_
      refine HO.val (v := vl_1) (want_none) rfl (q_move rfl) ?_
      refine HO.val (v := .pointer (some ⟨b_4, 1, none⟩)) (want_none) rfl (q_fieldAddr fa_28_1 rfl rfl) ?_
      refine HO.val (v := .string (bs r_4)) (want_none) rfl (q_load to_9 rfl (Blk.cell (hS.box 0 rfl) rfl)) ?_
      refine HO.call (want_none) rfl (ec en_9 rfl rfl) (ref12_Find_walk (fr := (Ow.box b_4 28 #[.int .i64 ((gi acts i_1).1), .string (bs r_4), .int .i64 ((gi acts i_1).2.2)] :: Ow.box b_1 78 #[.map (some r_2)] :: Ow.map r_2 kT kI c_0_1 :: fr)) l_1 r_4 vl_1 hS hL_1 hM) ?_
      rintro _ h_10 ⟨F_7, r_5, rfl, hk, hS, _, hM⟩
      replace hK := hK.trans hk
      replace hL_acts := hL_acts.kp hk
      replace hL_1 := hL_1.kp hk
      refine HO.val (v := .bool (decide (0 ≤ r_5))) (want_none) rfl (q_geq rfl rfl) ?_
      refine HO.val (v := .bool (decide (0 ≤ r_5))) (want_none) rfl (q_assign rfl) ?_
      refine HO.nil (thenQ_normal (?_))
      refine HW.seq ?_
      refine HW.region ?_
      refine HO.val (v := vl_1) (want_none) rfl (q_move rfl) ?_
      refine HO.val (v := .pointer (some ⟨b_4, 2, none⟩)) (want_none) rfl (q_fieldAddr fa_28_2 rfl rfl) ?_
      refine HO.val (v := .int .i64 ((gi acts i_1).2.2)) (want_none) rfl (q_load to_3 rfl (Blk.cell (hS.box 0 rfl) rfl)) ?_
      refine HO.call (want_none) rfl (ec en_10 rfl rfl) (ref12_Due_walk (fr := (Ow.box b_4 28 #[.int .i64 ((gi acts i_1).1), .string (bs r_4), .int .i64 ((gi acts i_1).2.2)] :: Ow.box b_1 78 #[.map (some r_2)] :: Ow.map r_2 kT kI c_0_1 :: fr)) l_1 ((gi acts i_1).2.2) vl_1 hS hL_1 hM) ?_
      rintro _ h_11 ⟨F_8, r_6, rfl, hk, hS, _, hM⟩
      replace hK := hK.trans hk
      replace hL_acts := hL_acts.kp hk
      replace hL_1 := hL_1.kp hk
      refine HO.val (v := .int .i64 r_6) (want_none) rfl (q_assign rfl) ?_
      refine HO.nil (thenQ_normal (?_))
      refine HW.seq_mid (fun f h => ∃ (F' : Fz) (c_0_2 : List (Str × Int)) (l_3 : List T_acequiaref12_Entry) (vl_2 : Value), f 0 = vacts ∧ f 1 = .string (bs r_3) ∧ f 4 = .bool false ∧ f 5 = .pointer (some ⟨b_1, 0, none⟩) ∧ f 6 = vl_2 ∧ f 7 = .int .i64 i_1 ∧ Kp F h0 F' h ∧ St F' (Ow.box b_1 78 #[.map (some r_2)] :: Ow.map r_2 kT kI c_0_2 :: fr) h ∧ (SliceF F' h 3 e_acequiaref12_Act vacts acts) ∧ (SliceF F' h 2 e_acequiaref12_Entry vl_1 l_1) ∧ (SliceF F' h 2 e_acequiaref12_Entry vl_2 l_3) ∧ law12_ClockPlays_j2 Q r_3 i_1 K_1 c_0_2 l_3) ?_ ?_
      · refine HW.seq ?_
        refine HW.region ?_
        refine HO.val (v := .pointer (some ⟨b_4, 0, none⟩)) (want_none) rfl (q_fieldAddr fa_28_0 rfl rfl) ?_
        refine HO.val (v := .int .i64 ((gi acts i_1).1)) (want_none) rfl (q_load to_3 rfl (Blk.cell (hS.box 0 rfl) rfl)) ?_
        refine HO.nil (thenQ_normal (?_))
        refine HW.block ?_
        refine HW.seq ?_
        refine HW.region ?_
        refine HO.val (v := .bool (decide (((gi acts i_1).1) = 0))) (want_none) rfl (q_eql rfl rfl) ?_
        refine HO.val (v := .bool (decide (((gi acts i_1).1) = 0))) (want_none) rfl (q_assign rfl) ?_
        refine HO.nil (thenQ_normal (?_))
        refine HW.cond (decide (((gi acts i_1).1) = 0)) rfl (fun c_3 => ?_) (fun c_3 => ?_)
        · replace hM := hM.1 (of_decide_eq_true c_3)
          refine HW.seq ?_
          refine HW.seq ?_
          refine HW.region ?_
          refine HO.val (v := .pointer (some ⟨b_1, 0, none⟩)) (want_none) rfl (q_move rfl) ?_
          refine HO.val (v := .pointer (some ⟨b_4, 1, none⟩)) (want_none) rfl (q_fieldAddr fa_28_1 rfl rfl) ?_
          refine HO.val (v := .string (bs r_4)) (want_none) rfl (q_load to_9 rfl (Blk.cell (hS.box 0 rfl) rfl)) ?_
          refine HO.val (v := .pointer (some ⟨b_4, 2, none⟩)) (want_none) rfl (q_fieldAddr fa_28_2 rfl rfl) ?_
          refine HO.val (v := .int .i64 ((gi acts i_1).2.2)) (want_none) rfl (q_load to_3 rfl (Blk.cell (hS.box 0 rfl) rfl)) ?_
          replace hS : St F_8 (Ow.box b_1 78 #[.map (some r_2)] :: Ow.map r_2 kT kI c_0_1 :: Ow.box b_4 28 #[.int .i64 ((gi acts i_1).1), .string (bs r_4), .int .i64 ((gi acts i_1).2.2)] :: fr) h_11 := hS.perm2 [1, 2, 0] 3 rfl rfl
          refine HO.call (want_none) rfl (ec en_11 rfl rfl) (clock_Clock_Set_string_walk (fr := (Ow.box b_4 28 #[.int .i64 ((gi acts i_1).1), .string (bs r_4), .int .i64 ((gi acts i_1).2.2)] :: fr)) c_0_1 r_4 ((gi acts i_1).2.2) b_1 r_2 hS hM) ?_
          rintro _ h_12 ⟨F_9, r_7, cm_1, rfl, hk, hS, hM⟩
          replace hK := hK.trans hk
          replace hL_acts := hL_acts.kp hk
          replace hL_1 := hL_1.kp hk
          refine HO.val (v := .bool (decide (0 ≤ r_5))) (want_none) rfl (q_move rfl) ?_
          refine HO.val (v := .bool (!decide (0 ≤ r_5))) (want_none) rfl (q_not rfl) ?_
          refine HO.val (v := .bool (!(r_7 == (!decide (0 ≤ r_5))))) (want_none) rfl (q_neqB Try.underlying4 rfl rfl) ?_
          refine HO.nil (thenQ_normal (?_))
          refine HW.cond (!(r_7 == (!decide (0 ≤ r_5)))) rfl (fun c_4 => ?_) (fun c_4 => ?_)
          · replace hM := hM.1 c_4
            refine HW.seq ?_
            refine HW.region ?_
            refine HO.val (v := .bool false) (want_none) rfl (q_assign rfl) ?_
            refine HO.nil (thenQ_normal (?_))
            refine HW.ret (thenQ_ret (blockQ_ret (thenQ_ret (blockQ_ret (thenQ_ret (thenQ_ret (blockQ_ret (thenQ_ret (?_)))))))))
            refine ⟨.inr rfl, .bool false, res1 rfl (rt rfl), ?_⟩
            replace hS : St F_9 (fr) h_12 := hS.perm2 [] 3 rfl rfl
            exact ⟨F_9, false, rfl, hK, hS, hL_acts, hM⟩
          · replace hM := hM.2 c_4
            refine HW.skip (thenQ_normal (?_))
            refine HW.region ?_
            refine HO.val (v := vl_1) (want_none) rfl (q_move rfl) ?_
            refine HO.val (v := .pointer (some ⟨b_4, 1, none⟩)) (want_none) rfl (q_fieldAddr fa_28_1 rfl rfl) ?_
            refine HO.val (v := .string (bs r_4)) (want_none) rfl (q_load to_9 rfl (Blk.cell (hS.box 2 rfl) rfl)) ?_
            refine HO.val (v := .pointer (some ⟨b_4, 2, none⟩)) (want_none) rfl (q_fieldAddr fa_28_2 rfl rfl) ?_
            refine HO.val (v := .int .i64 ((gi acts i_1).2.2)) (want_none) rfl (q_load to_3 rfl (Blk.cell (hS.box 2 rfl) rfl)) ?_
            refine HO.call (want_none) rfl (ec en_12 rfl rfl) (ref12_Set_walk (fr := (Ow.box b_1 78 #[.map (some r_2)] :: Ow.map r_2 kT kI cm_1 :: Ow.box b_4 28 #[.int .i64 ((gi acts i_1).1), .string (bs r_4), .int .i64 ((gi acts i_1).2.2)] :: fr)) l_1 r_4 ((gi acts i_1).2.2) vl_1 hS hL_1 hM) ?_
            rintro vr_1 h_13 ⟨F_10, r_8, _, rfl, hk, hS, _, hM⟩
            replace hK := hK.trans hk
            replace hL_acts := hL_acts.kp hk
            replace hL_1 := hL_1.kp hk
            refine HO.val (v := vr_1) (want_none) rfl (q_assign rfl) ?_
            refine HO.nil (blockQ_normal (thenQ_normal (?_)))
            obtain ⟨F_11, hS, hk, hL_4⟩ := hS.freezeOwn
            replace hK := hK.trans hk
            replace hL_acts := hL_acts.kp hk
            replace hL_1 := hL_1.kp hk
            replace hS : St F_11 (Ow.box b_1 78 #[.map (some r_2)] :: Ow.map r_2 kT kI cm_1 :: fr) h_13 := hS.perm2 [0, 1] 3 rfl rfl
            exact ⟨F_11, cm_1, r_8, vr_1, rfl, rfl, rfl, rfl, rfl, rfl, hK, hS, hL_acts, hL_1, hL_4, hM⟩
        · replace hM := hM.2 (of_decide_eq_false c_3)
          refine HW.seq ?_
          refine HW.region ?_
          refine HO.val (v := .bool (decide (((gi acts i_1).1) = 1))) (want_none) rfl (q_eql rfl rfl) ?_
          refine HO.val (v := .bool (decide (((gi acts i_1).1) = 1))) (want_none) rfl (q_assign rfl) ?_
          refine HO.nil (thenQ_normal (?_))
          refine HW.cond (decide (((gi acts i_1).1) = 1)) rfl (fun c_5 => ?_) (fun c_5 => ?_)
          · replace hM := hM.1 (of_decide_eq_true c_5)
            refine HW.seq ?_
            refine HW.seq ?_
            refine HW.region ?_
            refine HO.val (v := .pointer (some ⟨b_1, 0, none⟩)) (want_none) rfl (q_move rfl) ?_
            refine HO.val (v := .pointer (some ⟨b_4, 1, none⟩)) (want_none) rfl (q_fieldAddr fa_28_1 rfl rfl) ?_
            refine HO.val (v := .string (bs r_4)) (want_none) rfl (q_load to_9 rfl (Blk.cell (hS.box 0 rfl) rfl)) ?_
            replace hS : St F_8 (Ow.box b_1 78 #[.map (some r_2)] :: Ow.map r_2 kT kI c_0_1 :: Ow.box b_4 28 #[.int .i64 ((gi acts i_1).1), .string (bs r_4), .int .i64 ((gi acts i_1).2.2)] :: fr) h_11 := hS.perm2 [1, 2, 0] 3 rfl rfl
            refine HO.call (want_none) rfl (ec en_13 rfl rfl) (clock_Clock_Cut_string_walk (fr := (Ow.box b_4 28 #[.int .i64 ((gi acts i_1).1), .string (bs r_4), .int .i64 ((gi acts i_1).2.2)] :: fr)) c_0_1 r_4 b_1 r_2 hS hM) ?_
            rintro _ h_14 ⟨F_12, r_9, cm_2, rfl, hk, hS, hM⟩
            replace hK := hK.trans hk
            replace hL_acts := hL_acts.kp hk
            replace hL_1 := hL_1.kp hk
            refine HO.val (v := .bool (decide (0 ≤ r_5))) (want_none) rfl (q_move rfl) ?_
            refine HO.val (v := .bool (!(r_9 == (decide (0 ≤ r_5))))) (want_none) rfl (q_neqB Try.underlying4 rfl rfl) ?_
            refine HO.nil (thenQ_normal (?_))
            refine HW.cond (!(r_9 == (decide (0 ≤ r_5)))) rfl (fun c_6 => ?_) (fun c_6 => ?_)
            · replace hM := hM.1 c_6
              refine HW.seq ?_
              refine HW.region ?_
              refine HO.val (v := .bool false) (want_none) rfl (q_assign rfl) ?_
              refine HO.nil (thenQ_normal (?_))
              refine HW.ret (thenQ_ret (blockQ_ret (thenQ_ret (blockQ_ret (thenQ_ret (thenQ_ret (blockQ_ret (thenQ_ret (?_)))))))))
              refine ⟨.inr rfl, .bool false, res1 rfl (rt rfl), ?_⟩
              replace hS : St F_12 (fr) h_14 := hS.perm2 [] 3 rfl rfl
              exact ⟨F_12, false, rfl, hK, hS, hL_acts, hM⟩
            · replace hM := hM.2 c_6
              refine HW.skip (thenQ_normal (?_))
              refine HW.region ?_
              refine HO.val (v := vl_1) (want_none) rfl (q_move rfl) ?_
              refine HO.val (v := .pointer (some ⟨b_4, 1, none⟩)) (want_none) rfl (q_fieldAddr fa_28_1 rfl rfl) ?_
              refine HO.val (v := .string (bs r_4)) (want_none) rfl (q_load to_9 rfl (Blk.cell (hS.box 2 rfl) rfl)) ?_
              refine HO.call (want_none) rfl (ec en_14 rfl rfl) (ref12_Cut_walk (fr := (Ow.box b_1 78 #[.map (some r_2)] :: Ow.map r_2 kT kI cm_2 :: Ow.box b_4 28 #[.int .i64 ((gi acts i_1).1), .string (bs r_4), .int .i64 ((gi acts i_1).2.2)] :: fr)) l_1 r_4 vl_1 hS hL_1 hM) ?_
              rintro vr_2 h_15 ⟨F_13, r_10, _, rfl, hk, hS, _, hM⟩
              replace hK := hK.trans hk
              replace hL_acts := hL_acts.kp hk
              replace hL_1 := hL_1.kp hk
              refine HO.val (v := vr_2) (want_none) rfl (q_assign rfl) ?_
              refine HO.nil (blockQ_normal (thenQ_normal (?_)))
              obtain ⟨F_14, hS, hk, hL_5⟩ := hS.freezeOwn
              replace hK := hK.trans hk
              replace hL_acts := hL_acts.kp hk
              replace hL_1 := hL_1.kp hk
              replace hS : St F_14 (Ow.box b_1 78 #[.map (some r_2)] :: Ow.map r_2 kT kI cm_2 :: fr) h_15 := hS.perm2 [0, 1] 3 rfl rfl
              exact ⟨F_14, cm_2, r_10, vr_2, rfl, rfl, rfl, rfl, rfl, rfl, hK, hS, hL_acts, hL_1, hL_5, hM⟩
          · replace hM := hM.2 (of_decide_eq_false c_5)
            refine HW.seq ?_
            refine HW.region ?_
            refine HO.val (v := .bool (decide (((gi acts i_1).1) = 2))) (want_none) rfl (q_eql rfl rfl) ?_
            refine HO.val (v := .bool (decide (((gi acts i_1).1) = 2))) (want_none) rfl (q_assign rfl) ?_
            refine HO.nil (thenQ_normal (?_))
            refine HW.cond (decide (((gi acts i_1).1) = 2)) rfl (fun c_7 => ?_) (fun c_7 => ?_)
            · replace hM := hM.1 (of_decide_eq_true c_7)
              refine HW.seq ?_
              refine HW.seq ?_
              refine HW.regionA 10 mixed (fun h => (SliceIs h 2 e_acequiaref12_Entry vl_1 l_1) ∧ (Blk h b_4 (.cells #[.int .i64 ((gi acts i_1).1), .string (bs r_4), .int .i64 ((gi acts i_1).2.2)] 28 (0, 0)))) [] (by kernel_rfl) ?_
              refine HA.val (k := 0) (v := .pointer (some ⟨b_1, 0, none⟩)) rfl rfl (by kernel_rfl) (by kernel_rfl) (want_none) rfl (fun _ ⟨hL_1, c358⟩ => q_move rfl) ?_
              refine HA.val (k := 1) (v := .pointer (some ⟨b_4, 2, none⟩)) rfl rfl (by kernel_rfl) (by kernel_rfl) (want_none) rfl (fun _ ⟨hL_1, c358⟩ => q_fieldAddr fa_28_2 rfl rfl) ?_
              refine HA.val (k := 2) (v := .int .i64 ((gi acts i_1).2.2)) rfl rfl (by kernel_rfl) (by kernel_rfl) (want_none) rfl (fun _ ⟨hL_1, c358⟩ => q_load to_3 rfl (Blk.cell c358 rfl)) ?_
              refine HA.val (k := 4) (v := vl_1) rfl rfl (by kernel_rfl) (by kernel_rfl) (want_none) rfl (fun _ ⟨hL_1, c358⟩ => q_move rfl) ?_
              refine HA.val (k := 5) (v := .int .i64 r_6) rfl rfl (by kernel_rfl) (by kernel_rfl) (want_none) rfl (fun _ ⟨hL_1, c358⟩ => q_move rfl) ?_
              obtain ⟨ho_2, hM⟩ := hM
              refine HA.val (k := 6) (v := cutV 2 vl_1 (0 : Int).toNat (r_6).toNat) rfl rfl (by kernel_rfl) (by kernel_rfl) (want_none) rfl (fun _ ⟨hL_1, c358⟩ => q_slH ts_25 hL_1 rfl rfl ho_2) ?_
              refine HA.one (k := 3) ⟨⟨hL_1.is, (hS.box 0 rfl)⟩, (Go.Wk.at_nil _ _)⟩ (by kernel_rfl) ?_
              replace hS : St F_8 (Ow.box b_1 78 #[.map (some r_2)] :: Ow.map r_2 kT kI c_0_1 :: Ow.box b_4 28 #[.int .i64 ((gi acts i_1).1), .string (bs r_4), .int .i64 ((gi acts i_1).2.2)] :: fr) h_11 := hS.perm2 [1, 2, 0] 3 rfl rfl
              refine HS.call rfl (want_none) rfl (ec en_16 rfl rfl) (clock_Clock_Pop_string_walk (fr := (Ow.box b_4 28 #[.int .i64 ((gi acts i_1).1), .string (bs r_4), .int .i64 ((gi acts i_1).2.2)] :: fr)) c_0_1 ((gi acts i_1).2.2) b_1 r_2 hS hM) ?_
              rintro vr_3 h_16 ⟨F_15, r_11, cm_3, _, rfl, hk, hS, hM⟩
              replace hK := hK.trans hk
              replace hL_acts := hL_acts.kp hk
              replace hL_1 := hL_1.kp hk
              refine HA.one (k := 7) ⟨⟨hL_1.is, (hS.box 3 rfl)⟩, (Go.Wk.at_nil _ _)⟩ (by kernel_rfl) ?_
              refine HS.call rfl (want_none) rfl (ec en_17 rfl rfl) (ref12_Keys_walk (fr := (Ow.own 9 1 encT vr_3 r_11 :: Ow.box b_1 78 #[.map (some r_2)] :: Ow.map r_2 kT kI cm_3 :: Ow.box b_4 28 #[.int .i64 ((gi acts i_1).1), .string (bs r_4), .int .i64 ((gi acts i_1).2.2)] :: fr)) (cut l_1 0 r_6) (cutV 2 vl_1 (0 : Int).toNat (r_6).toNat) hS (cutF hL_1 0 r_6 (Int.le_refl _) ho_2.1 ho_2.2) hM) ?_
              rintro vr_4 h_17 ⟨F_16, r_12, _, rfl, hk, hS, _, hM⟩
              replace hK := hK.trans hk
              replace hL_acts := hL_acts.kp hk
              replace hL_1 := hL_1.kp hk
              refine HA.one (k := 8) ⟨⟨hL_1.is, (hS.box 4 rfl)⟩, (Go.Wk.at_nil _ _)⟩ (by kernel_rfl) ?_
              replace hS : St F_16 (Ow.own 9 1 encT vr_3 r_11 :: Ow.own 9 1 encT vr_4 r_12 :: Ow.box b_1 78 #[.map (some r_2)] :: Ow.map r_2 kT kI cm_3 :: Ow.box b_4 28 #[.int .i64 ((gi acts i_1).1), .string (bs r_4), .int .i64 ((gi acts i_1).2.2)] :: fr) h_17 := hS.perm2 [1, 0, 2, 3, 4] 5 rfl rfl
              have hZ_1 := hS
              have hkz_1 := (hS.freeze).2
              replace hS := hS.freeze.1
              have hL_6 : SliceF (fun b => F_16 b ∨ (Ow.own 9 1 encT vr_3 r_11).foot b) h_17 1 encT vr_3 r_11 := ⟨(hZ_1.own 0 rfl).slice, fun _ b hb => .inr hb⟩
              have hZ_2 := hS
              have hkz_2 := (hS.freeze).2
              replace hS := hS.freeze.1
              have hL_7 : SliceF (fun b => (fun b => F_16 b ∨ (Ow.own 9 1 encT vr_3 r_11).foot b) b ∨ (Ow.own 9 1 encT vr_4 r_12).foot b) h_17 1 encT vr_4 r_12 := ⟨(hZ_2.own 0 rfl).slice, fun _ b hb => .inr hb⟩
              refine HS.call rfl (want_none) rfl (ec en_15 rfl rfl) (ref12_Same_walk (fr := (Ow.box b_1 78 #[.map (some r_2)] :: Ow.map r_2 kT kI cm_3 :: Ow.box b_4 28 #[.int .i64 ((gi acts i_1).1), .string (bs r_4), .int .i64 ((gi acts i_1).2.2)] :: fr)) r_11 r_12 vr_3 vr_4 hS (hL_6.kp hkz_2) hL_7 hM) ?_
              rintro _ h_18 ⟨F_17, r_13, rfl, hk, hS, _, _, hM⟩
              obtain ⟨hS, hk⟩ := hZ_2.back hk hS
              obtain ⟨hS, hk⟩ := hZ_1.back hk hS
              generalize (fun b => (fun b => F_17 b ∧ ¬ (Ow.own 9 1 encT vr_4 r_12).foot b) b ∧ ¬ (Ow.own 9 1 encT vr_3 r_11).foot b) = F_18 at hS hk
              replace hK := hK.trans hk
              replace hL_acts := hL_acts.kp hk
              replace hL_1 := hL_1.kp hk
              refine HA.val (k := 9) (v := .bool (!r_13)) rfl rfl (by kernel_rfl) (by kernel_rfl) (want_none) rfl (fun _ ⟨hL_1, c358⟩ => q_not rfl) ?_
              refine HA.nil ⟨⟨hL_1.is, (hS.box 4 rfl)⟩, (Go.Wk.at_nil _ _)⟩ (by kernel_rfl) (thenQ_normal (?_))
              refine HW.cond (!r_13) rfl (fun c_8 => ?_) (fun c_8 => ?_)
              · replace hM := hM.1 c_8
                refine HW.seq ?_
                refine HW.region ?_
                refine HO.val (v := .bool false) (want_none) rfl (q_assign rfl) ?_
                refine HO.nil (thenQ_normal (?_))
                refine HW.ret (thenQ_ret (blockQ_ret (thenQ_ret (blockQ_ret (thenQ_ret (thenQ_ret (blockQ_ret (thenQ_ret (?_)))))))))
                refine ⟨.inr rfl, .bool false, res1 rfl (rt rfl), ?_⟩
                replace hS : St F_18 (fr) h_18 := hS.perm2 [] 5 rfl rfl
                exact ⟨F_18, false, rfl, hK, hS, hL_acts, hM⟩
              · replace hM := hM.2 c_8
                refine HW.skip (thenQ_normal (?_))
                refine HW.region ?_
                refine HO.val (v := vl_1) (want_none) rfl (q_move rfl) ?_
                refine HO.val (v := .int .i64 r_6) (want_none) rfl (q_move rfl) ?_
                refine HO.val (v := cutV 2 vl_1 (r_6).toNat ((l_1.length : Int)).toNat) (want_none) rfl (q_slL ts_25 hL_1.is rfl rfl ho_2) ?_
                refine HO.val (v := cutV 2 vl_1 (r_6).toNat ((l_1.length : Int)).toNat) (want_none) rfl (q_assign rfl) ?_
                refine HO.nil (blockQ_normal (thenQ_normal (?_)))
                replace hS : St F_18 (Ow.box b_1 78 #[.map (some r_2)] :: Ow.map r_2 kT kI cm_3 :: fr) h_18 := hS.perm2 [2, 3] 5 rfl rfl
                exact ⟨F_18, cm_3, cut l_1 r_6 (l_1.length : Int), cutV 2 vl_1 (r_6).toNat ((l_1.length : Int)).toNat, rfl, rfl, rfl, rfl, rfl, rfl, hK, hS, hL_acts, hL_1, (cutF hL_1 r_6 (l_1.length : Int) ho_2.1 ho_2.2 (Int.le_refl _)), hM⟩
            · replace hM := hM.2 (of_decide_eq_false c_7)
              refine HW.seq ?_
              refine HW.regionA 10 mixed (fun h => (SliceIs h 2 e_acequiaref12_Entry vl_1 l_1) ∧ (Blk h b_4 (.cells #[.int .i64 ((gi acts i_1).1), .string (bs r_4), .int .i64 ((gi acts i_1).2.2)] 28 (0, 0)))) [] (by kernel_rfl) ?_
              refine HA.val (k := 0) (v := .pointer (some ⟨b_1, 0, none⟩)) rfl rfl (by kernel_rfl) (by kernel_rfl) (want_none) rfl (fun _ ⟨hL_1, c358⟩ => q_move rfl) ?_
              refine HA.val (k := 1) (v := .pointer (some ⟨b_4, 2, none⟩)) rfl rfl (by kernel_rfl) (by kernel_rfl) (want_none) rfl (fun _ ⟨hL_1, c358⟩ => q_fieldAddr fa_28_2 rfl rfl) ?_
              refine HA.val (k := 2) (v := .int .i64 ((gi acts i_1).2.2)) rfl rfl (by kernel_rfl) (by kernel_rfl) (want_none) rfl (fun _ ⟨hL_1, c358⟩ => q_load to_3 rfl (Blk.cell c358 rfl)) ?_
              refine HA.val (k := 4) (v := vl_1) rfl rfl (by kernel_rfl) (by kernel_rfl) (want_none) rfl (fun _ ⟨hL_1, c358⟩ => q_move rfl) ?_
              refine HA.val (k := 5) (v := .int .i64 r_6) rfl rfl (by kernel_rfl) (by kernel_rfl) (want_none) rfl (fun _ ⟨hL_1, c358⟩ => q_move rfl) ?_
              obtain ⟨ho_3, hM⟩ := hM
              refine HA.val (k := 6) (v := cutV 2 vl_1 (0 : Int).toNat (r_6).toNat) rfl rfl (by kernel_rfl) (by kernel_rfl) (want_none) rfl (fun _ ⟨hL_1, c358⟩ => q_slH ts_25 hL_1 rfl rfl ho_3) ?_
              refine HA.one (k := 3) ⟨⟨hL_1.is, (hS.box 0 rfl)⟩, (Go.Wk.at_nil _ _)⟩ (by kernel_rfl) ?_
              replace hS : St F_8 (Ow.box b_1 78 #[.map (some r_2)] :: Ow.map r_2 kT kI c_0_1 :: Ow.box b_4 28 #[.int .i64 ((gi acts i_1).1), .string (bs r_4), .int .i64 ((gi acts i_1).2.2)] :: fr) h_11 := hS.perm2 [1, 2, 0] 3 rfl rfl
              refine HS.call rfl (want_none) rfl (ec en_18 rfl rfl) (clock_Clock_Due_string_walk (fr := (Ow.box b_4 28 #[.int .i64 ((gi acts i_1).1), .string (bs r_4), .int .i64 ((gi acts i_1).2.2)] :: fr)) c_0_1 ((gi acts i_1).2.2) b_1 r_2 hS hM) ?_
              rintro vr_5 h_19 ⟨F_19, r_14, cm_4, _, rfl, hk, hS, hM⟩
              replace hK := hK.trans hk
              replace hL_acts := hL_acts.kp hk
              replace hL_1 := hL_1.kp hk
              refine HA.one (k := 7) ⟨⟨hL_1.is, (hS.box 3 rfl)⟩, (Go.Wk.at_nil _ _)⟩ (by kernel_rfl) ?_
              refine HS.call rfl (want_none) rfl (ec en_17 rfl rfl) (ref12_Keys_walk (fr := (Ow.own 9 1 encT vr_5 r_14 :: Ow.box b_1 78 #[.map (some r_2)] :: Ow.map r_2 kT kI cm_4 :: Ow.box b_4 28 #[.int .i64 ((gi acts i_1).1), .string (bs r_4), .int .i64 ((gi acts i_1).2.2)] :: fr)) (cut l_1 0 r_6) (cutV 2 vl_1 (0 : Int).toNat (r_6).toNat) hS (cutF hL_1 0 r_6 (Int.le_refl _) ho_3.1 ho_3.2) hM) ?_
              rintro vr_6 h_20 ⟨F_20, r_15, _, rfl, hk, hS, _, hM⟩
              replace hK := hK.trans hk
              replace hL_acts := hL_acts.kp hk
              replace hL_1 := hL_1.kp hk
              refine HA.one (k := 8) ⟨⟨hL_1.is, (hS.box 4 rfl)⟩, (Go.Wk.at_nil _ _)⟩ (by kernel_rfl) ?_
              replace hS : St F_20 (Ow.own 9 1 encT vr_5 r_14 :: Ow.own 9 1 encT vr_6 r_15 :: Ow.box b_1 78 #[.map (some r_2)] :: Ow.map r_2 kT kI cm_4 :: Ow.box b_4 28 #[.int .i64 ((gi acts i_1).1), .string (bs r_4), .int .i64 ((gi acts i_1).2.2)] :: fr) h_20 := hS.perm2 [1, 0, 2, 3, 4] 5 rfl rfl
              have hZ_3 := hS
              have hkz_3 := (hS.freeze).2
              replace hS := hS.freeze.1
              have hL_8 : SliceF (fun b => F_20 b ∨ (Ow.own 9 1 encT vr_5 r_14).foot b) h_20 1 encT vr_5 r_14 := ⟨(hZ_3.own 0 rfl).slice, fun _ b hb => .inr hb⟩
              have hZ_4 := hS
              have hkz_4 := (hS.freeze).2
              replace hS := hS.freeze.1
              have hL_9 : SliceF (fun b => (fun b => F_20 b ∨ (Ow.own 9 1 encT vr_5 r_14).foot b) b ∨ (Ow.own 9 1 encT vr_6 r_15).foot b) h_20 1 encT vr_6 r_15 := ⟨(hZ_4.own 0 rfl).slice, fun _ b hb => .inr hb⟩
              refine HS.call rfl (want_none) rfl (ec en_15 rfl rfl) (ref12_Same_walk (fr := (Ow.box b_1 78 #[.map (some r_2)] :: Ow.map r_2 kT kI cm_4 :: Ow.box b_4 28 #[.int .i64 ((gi acts i_1).1), .string (bs r_4), .int .i64 ((gi acts i_1).2.2)] :: fr)) r_14 r_15 vr_5 vr_6 hS (hL_8.kp hkz_4) hL_9 hM) ?_
              rintro _ h_21 ⟨F_21, r_16, rfl, hk, hS, _, _, hM⟩
              obtain ⟨hS, hk⟩ := hZ_4.back hk hS
              obtain ⟨hS, hk⟩ := hZ_3.back hk hS
              generalize (fun b => (fun b => F_21 b ∧ ¬ (Ow.own 9 1 encT vr_6 r_15).foot b) b ∧ ¬ (Ow.own 9 1 encT vr_5 r_14).foot b) = F_22 at hS hk
              replace hK := hK.trans hk
              replace hL_acts := hL_acts.kp hk
              replace hL_1 := hL_1.kp hk
              refine HA.val (k := 9) (v := .bool (!r_16)) rfl rfl (by kernel_rfl) (by kernel_rfl) (want_none) rfl (fun _ ⟨hL_1, c358⟩ => q_not rfl) ?_
              refine HA.nil ⟨⟨hL_1.is, (hS.box 4 rfl)⟩, (Go.Wk.at_nil _ _)⟩ (by kernel_rfl) (thenQ_normal (?_))
              refine HW.cond (!r_16) rfl (fun c_9 => ?_) (fun c_9 => ?_)
              · replace hM := hM.1 c_9
                refine HW.seq ?_
                refine HW.region ?_
                refine HO.val (v := .bool false) (want_none) rfl (q_assign rfl) ?_
                refine HO.nil (thenQ_normal (?_))
                refine HW.ret (blockQ_ret (thenQ_ret (blockQ_ret (thenQ_ret (thenQ_ret (blockQ_ret (thenQ_ret (?_))))))))
                refine ⟨.inr rfl, .bool false, res1 rfl (rt rfl), ?_⟩
                replace hS : St F_22 (fr) h_21 := hS.perm2 [] 5 rfl rfl
                exact ⟨F_22, false, rfl, hK, hS, hL_acts, hM⟩
              · replace hM := hM.2 c_9
                refine HW.skip (blockQ_normal (thenQ_normal (?_)))
                replace hS : St F_22 (Ow.box b_1 78 #[.map (some r_2)] :: Ow.map r_2 kT kI cm_4 :: fr) h_21 := hS.perm2 [2, 3] 5 rfl rfl
                exact ⟨F_22, cm_4, l_1, vl_1, rfl, rfl, rfl, rfl, rfl, rfl, hK, hS, hL_acts, hL_1, hL_1, hM⟩
      · rintro f_3 h_22 ⟨F_23, c_0_2, l_3, vl_2, e0, e1, e4, e5, e6, e7, hK, hS, hL_acts, hL_1, hL_3, hM⟩
        unfold law12_ClockPlays_j2 at hM
        refine HW.fr [(0, vacts), (1, .string (bs r_3)), (4, .bool false), (5, .pointer (some ⟨b_1, 0, none⟩)), (6, vl_2), (7, .int .i64 i_1)] ⟨e0, e1, e4, e5, e6, e7, trivial⟩ ?_
        refine HW.seq ?_
        refine HW.region ?_
        refine HO.val (v := .pointer (some ⟨b_1, 0, none⟩)) (want_none) rfl (q_move rfl) ?_
        refine HO.val (v := vl_2) (want_none) rfl (q_move rfl) ?_
        refine HO.val (v := .string (bs r_3)) (want_none) rfl (q_move rfl) ?_
        refine HO.call (want_none) rfl (ec en_19 rfl rfl) (law12_told_walk (fr := (fr)) c_0_2 l_3 r_3 b_1 r_2 vl_2 hS hL_3 hD hM) ?_
        rintro _ h_23 ⟨F_24, r_17, cm_5, rfl, hk, hS, _, hM⟩
        replace hK := hK.trans hk
        replace hL_acts := hL_acts.kp hk
        replace hL_1 := hL_1.kp hk
        replace hL_3 := hL_3.kp hk
        refine HO.val (v := .bool (!r_17)) (want_none) rfl (q_not rfl) ?_
        refine HO.nil (thenQ_normal (?_))
        refine HW.cond (!r_17) rfl (fun c_10 => ?_) (fun c_10 => ?_)
        · replace hM := hM.1 c_10
          refine HW.seq ?_
          refine HW.region ?_
          refine HO.val (v := .bool false) (want_none) rfl (q_assign rfl) ?_
          refine HO.nil (thenQ_normal (?_))
          refine HW.ret (blockQ_ret (thenQ_ret (thenQ_ret (blockQ_ret (thenQ_ret (?_))))))
          refine ⟨.inr rfl, .bool false, res1 rfl (rt rfl), ?_⟩
          replace hS : St F_24 (fr) h_23 := hS.perm2 [] 2 rfl rfl
          exact ⟨F_24, false, rfl, hK, hS, hL_acts, hM⟩
        · replace hM := hM.2 c_10
          refine HW.skip (blockQ_normal (thenQ_normal (?_)))
          refine HW.region ?_
          refine HO.val (v := .int .i64 i_1) (want_none) rfl (q_move rfl) ?_
          obtain ⟨ho_4, hM⟩ := hM
          refine HO.val (v := .int .i64 (i_1 + 1)) (want_none) rfl (q_addN _ rfl rfl rfl ho_4.1 ho_4.2) ?_
          refine HO.val (v := .int .i64 (i_1 + 1)) (want_none) rfl (q_assign rfl) ?_
          refine HO.nil (thenQ_normal (?_))
          rw [hKe_1] at hM
          exact ⟨(cm_5, l_3, i_1 + 1), ⟨F_24, vl_2, rfl, rfl, rfl, rfl, rfl, rfl, hK, hS, hL_acts, hL_3, hM.1⟩, hM.2⟩
    · replace hM := hM.2 c_2
      refine HW.exit (thenQ_exit (thenQ_exit (blockQ_exit (thenQ_normal (?_)))))
      refine HW.seq ?_
      refine HW.region ?_
      refine HO.call (want_none) rfl (ec en_20 rfl rfl) (law12_lives_walk (fr := (Ow.box b_1 78 #[.map (some r_2)] :: Ow.map r_2 kT kI c_0_1 :: fr))  hS hM) ?_
      rintro _ h_24 ⟨F_25, r_18, rfl, hk, hS, hM⟩
      replace hK := hK.trans hk
      replace hL_acts := hL_acts.kp hk
      replace hL_1 := hL_1.kp hk
      refine HO.val (v := .bool r_18) (want_none) rfl (q_assign rfl) ?_
      refine HO.nil (thenQ_normal (?_))
      refine HW.ret (?_)
      refine ⟨.inr rfl, .bool r_18, res1 rfl (rt rfl), ?_⟩
      replace hS : St F_25 (fr) h_24 := hS.perm2 [] 2 rfl rfl
      exact ⟨F_25, r_18, rfl, hK, hS, hL_acts, hM⟩

def maps_Copy_map_string_int_map_string_int_string_int_l1 (src : List (Str × Int)) (Q : (List (Str × Int)) → (List (Str × Int)) → Prop) (K_1 : (List (Str × Int)) → (List (Str × Int)) → Prop) (dst_2 : List (Str × Int)) (rem_1 : List (Str × Int)) : Prop :=
  (rem_1 = [] → Q dst_2 src) ∧ (∀ (p_1 : Str × Int) (rem_2 : List (Str × Int)), List.Perm rem_1 (p_1 :: rem_2) → K_1 (mset dst_2 p_1.1 p_1.2) rem_2)
def maps_Copy_map_string_int_map_string_int_string_int_W (dst : List (Str × Int)) (src : List (Str × Int)) (Q : (List (Str × Int)) → (List (Str × Int)) → Prop) : Prop :=
  loopW (fun (K_1 : ((List (Str × Int)) × List (Str × Int)) → Prop) (s : (List (Str × Int)) × List (Str × Int)) => maps_Copy_map_string_int_map_string_int_string_int_l1 src Q (fun dst_2 rem_1 => K_1 (dst_2, rem_1)) s.1 s.2) (dst, src)
set_option maxHeartbeats 40000000 in
set_option maxRecDepth 100000 in
theorem maps_Copy_map_string_int_map_string_int_string_int_walk {F : Fz} {fr : List Ow} {h0 : Heap} (dst : List (Str × Int)) (src : List (Str × Int)) (rdst : Nat) (rsrc : Nat) (hS : St F (Ow.map rdst kT kI dst :: Ow.map rsrc kT kI src :: fr) h0)  {Q : (List (Str × Int)) → (List (Str × Int)) → Prop} (hM : maps_Copy_map_string_int_map_string_int_string_int_W dst src Q) :
    HC Try.prog 48 #[.map (some rdst), .map (some rsrc)] h0 fun u h' => ∃ (F' : Fz) (dstm_1 : List (Str × Int)) (srcm_1 : List (Str × Int)), u = .tuple #[] ∧ Kp F h0 F' h' ∧ St F' (Ow.map rdst kT kI dstm_1 :: Ow.map rsrc kT kI srcm_1 :: fr) h' ∧ Q dstm_1 srcm_1 := by
  unfold maps_Copy_map_string_int_map_string_int_string_int_W at hM
  have hK := Kp.refl F h0
  refine HC.of_HW (n := 16) Try.func48 rfl rfl (Nat.le_of_ble_eq_true rfl) ?_
  refine HW.seq ?_
  refine HW.region ?_
  refine HO.val (v := .map (some rsrc)) (want_none) rfl (q_move rfl) ?_
  refine HO.eff (want_none) rfl (st_range hS (i := 1) rfl Try.underlying76 rfl) ?_
  rintro _ h_1 ⟨it_1, rfl, hS, hk⟩
  replace hS : St F (Ow.map rdst kT kI dst :: Ow.iter it_1 rsrc kT kI src src :: fr) h_1 := hS
  replace hK := hK.trans hk
  refine HO.nil (thenQ_normal (?_))
  refine HW.block ?_
  obtain ⟨I_1, m_1, hI_1, hR_1⟩ := hM
  refine HW.loop (S := (List (Str × Int)) × List (Str × Int)) (fun s f h => match s with | (dst_2, rem_1) => ∃ (F' : Fz), f 0 = .map (some rdst) ∧ f 7 = .pointer (some ⟨it_1, 0, none⟩) ∧ Kp F h0 F' h ∧ St F' (Ow.map rdst kT kI dst_2 :: Ow.iter it_1 rsrc kT kI src rem_1 :: fr) h ∧ I_1 (dst_2, rem_1)) m_1 (dst, src) ⟨F, rfl, rfl, hK, hS, hI_1⟩ ?_
  rintro ⟨dst_2, rem_1⟩ f_1 h_2 ⟨F_1, e0, e7, hK, hS, hI0⟩
  obtain ⟨K_1, hKe_1⟩ : ∃ K : (List (Str × Int)) → (List (Str × Int)) → Prop, K = fun dst_2' rem_1' => I_1 (dst_2', rem_1') ∧ m_1 (dst_2', rem_1') < m_1 (dst_2, rem_1) := ⟨_, rfl⟩
  have hM : maps_Copy_map_string_int_map_string_int_string_int_l1 src Q K_1 dst_2 rem_1 := by rw [hKe_1]; exact hR_1 (dst_2, rem_1) hI0
  unfold maps_Copy_map_string_int_map_string_int_string_int_l1 at hM
  refine HW.fr [(0, .map (some rdst)), (7, .pointer (some ⟨it_1, 0, none⟩))] ⟨e0, e7, trivial⟩ ?_
  refine HW.seq ?_
  refine HW.region ?_
  refine HO.eff (want_none) rfl (st_next hS (i := 1) rfl rfl) ?_
  rintro _ h_3 (⟨hrem, rfl, hEq⟩ | ⟨p_1, rem_2, hperm, rfl, hS, hk⟩)
  · rw [hEq]
    replace hM := hM.1 hrem
    replace hS := hS.done 1 rfl
    replace hS : St F_1 (Ow.map rdst kT kI dst_2 :: Ow.map rsrc kT kI src :: fr) h_2 := hS
    refine HO.val (v := .bool false) (want_none) rfl (q_extract rfl rfl) ?_
    refine HO.nil (thenQ_normal (?_))
    refine HW.seq ?_
    refine HW.condF rfl ?_
    refine HW.exit (thenQ_exit (thenQ_exit (blockQ_exit (?_))))
    refine ⟨.inl rfl, .tuple #[], res0 rfl , ?_⟩
    exact ⟨F_1, dst_2, src, rfl, hK, hS, hM⟩
  · replace hM := hM.2 p_1 rem_2 hperm
    replace hS : St F_1 (Ow.map rdst kT kI dst_2 :: Ow.cur it_1 rsrc kT kI src rem_2 p_1 :: fr) h_3 := hS
    replace hK := hK.trans hk
    refine HO.val (v := .bool true) (want_none) rfl (q_extract rfl rfl) ?_
    refine HO.nil (thenQ_normal (?_))
    refine HW.seq ?_
    refine HW.condT rfl ?_
    refine HW.skip (thenQ_normal (?_))
    refine HW.block ?_
    refine HW.seq ?_
    refine HW.region ?_
    refine HO.val (v := .tuple #[.string (bs p_1.1), .int .i64 p_1.2]) (want_none) rfl (q_entry (hS.cu 1 rfl) rfl) ?_
    refine HO.val (v := .string (bs p_1.1)) (want_none) rfl (q_extract rfl rfl) ?_
    refine HO.val (v := .int .i64 p_1.2) (want_none) rfl (q_extract rfl rfl) ?_
    refine HO.val (v := .string (bs p_1.1)) (want_none) rfl (q_assign rfl) ?_
    refine HO.val (v := .int .i64 p_1.2) (want_none) rfl (q_assign rfl) ?_
    refine HO.nil (thenQ_normal (?_))
    refine HW.region ?_
    refine HO.val (v := .map (some rdst)) (want_none) rfl (q_move rfl) ?_
    refine HO.val (v := .string (bs p_1.1)) (want_none) rfl (q_move rfl) ?_
    refine HO.val (v := .int .i64 p_1.2) (want_none) rfl (q_move rfl) ?_
    refine HO.sto (want_none) rfl (st_mapUpdateK (k := p_1.1) (v := p_1.2) hS (i := 0) rfl ka_9 tmk_76 rfl rfl rfl) ?_
    rintro h_4 ⟨hS, hk⟩
    replace hS : St F_1 (Ow.map rdst kT kI (mset dst_2 p_1.1 p_1.2) :: Ow.cur it_1 rsrc kT kI src rem_2 p_1 :: fr) h_4 := hS
    replace hK := hK.trans hk
    refine HO.nil (blockQ_normal (thenQ_normal (?_)))
    replace hS := hS.again 1 rfl
    replace hS : St F_1 (Ow.map rdst kT kI (mset dst_2 p_1.1 p_1.2) :: Ow.iter it_1 rsrc kT kI src rem_2 :: fr) h_4 := hS
    rw [hKe_1] at hM
    exact ⟨(mset dst_2 p_1.1 p_1.2, rem_2), ⟨F_1, rfl, rfl, hK, hS, hM.1⟩, hM.2⟩

def clock_Clock_Copy_string_W (c_at : List (Str × Int)) (Q : (List (Str × Int)) → (List (Str × Int)) → Prop) : Prop :=
  clock_New_string_W  (maps_Copy_map_string_int_map_string_int_string_int_W [] c_at (fun dstm_1 srcm_1 => Q dstm_1 srcm_1))
set_option maxHeartbeats 40000000 in
set_option maxRecDepth 100000 in
theorem clock_Clock_Copy_string_walk {F : Fz} {fr : List Ow} {h0 : Heap} (c_at : List (Str × Int)) (bc : Nat) (rc_at : Nat) (hS : St F (Ow.box bc 78 #[.map (some rc_at)] :: Ow.map rc_at kT kI c_at :: fr) h0)  {Q : (List (Str × Int)) → (List (Str × Int)) → Prop} (hM : clock_Clock_Copy_string_W c_at Q) :
    HC Try.prog 21 #[.pointer (some ⟨bc, 0, none⟩)] h0 fun u h' => ∃ (F' : Fz) (r_0_1 : List (Str × Int)) (cm_1 : List (Str × Int)) (b_1 : Nat) (r_1 : Nat), u = .pointer (some ⟨b_1, 0, none⟩) ∧ Kp F h0 F' h' ∧ St F' (Ow.box b_1 78 #[.map (some r_1)] :: Ow.map r_1 kT kI r_0_1 :: Ow.box bc 78 #[.map (some rc_at)] :: Ow.map rc_at kT kI cm_1 :: fr) h' ∧ Q r_0_1 cm_1 := by
  unfold clock_Clock_Copy_string_W at hM
  have hK := Kp.refl F h0
  refine HC.of_HW (n := 17) Try.func21 rfl rfl (Nat.le_of_ble_eq_true rfl) ?_
  refine HW.seq ?_
  refine HW.region ?_
  refine HO.val (v := .pointer none) (want_none) rfl (q_assign rfl) ?_
  refine HO.nil (thenQ_normal (?_))
  refine HW.seq ?_
  refine HW.region ?_
  refine HO.call (want_none) rfl (ec en_7 rfl rfl) (clock_New_string_walk (fr := (Ow.box bc 78 #[.map (some rc_at)] :: Ow.map rc_at kT kI c_at :: fr))  hS hM) ?_
  rintro _ h_1 ⟨F_1, b_2, r_2, rfl, hk, hS, hM⟩
  replace hK := hK.trans hk
  refine HO.val (v := .pointer (some ⟨b_2, 0, none⟩)) (want_none) rfl (q_assign rfl) ?_
  refine HO.nil (thenQ_normal (?_))
  refine HW.seq ?_
  refine HW.seq ?_
  refine HW.region ?_
  refine HO.val (v := .pointer (some ⟨bc, 0, none⟩)) (want_none) rfl (q_move rfl) ?_
  refine HO.val (v := .bool true) (want_none) rfl (q_neqPnil Try.underlying23 rfl rfl rfl) ?_
  refine HO.nil (thenQ_normal (?_))
  refine HW.condT rfl ?_
  refine HW.regionA 9 mixed (fun h => (Blk h b_2 (.cells #[.map (some r_2)] 78 (0, 0))) ∧ (Blk h bc (.cells #[.map (some rc_at)] 78 (0, 0)))) [] (by kernel_rfl) ?_
  refine HA.val (k := 0) (v := .pointer (some ⟨b_2, 0, none⟩)) rfl rfl (by kernel_rfl) (by kernel_rfl) (want_none) rfl (fun _ ⟨c209, c1⟩ => q_move rfl) ?_
  refine HA.val (k := 1) (v := .pointer (some ⟨b_2, 0, none⟩)) rfl rfl (by kernel_rfl) (by kernel_rfl) (want_none) rfl (fun _ ⟨c209, c1⟩ => q_nilCheck rfl) ?_
  refine HA.val (k := 2) (v := .pointer (some ⟨b_2, 0, none⟩)) rfl rfl (by kernel_rfl) (by kernel_rfl) (want_none) rfl (fun _ ⟨c209, c1⟩ => q_fieldAddr fa_78_0 rfl rfl) ?_
  refine HA.val (k := 3) (v := .map (some r_2)) rfl rfl (by kernel_rfl) (by kernel_rfl) (want_none) rfl (fun _ ⟨c209, c1⟩ => q_load to_76 rfl (Blk.cell c209 rfl)) ?_
  refine HA.val (k := 4) (v := .pointer (some ⟨bc, 0, none⟩)) rfl rfl (by kernel_rfl) (by kernel_rfl) (want_none) rfl (fun _ ⟨c209, c1⟩ => q_move rfl) ?_
  refine HA.val (k := 5) (v := .pointer (some ⟨bc, 0, none⟩)) rfl rfl (by kernel_rfl) (by kernel_rfl) (want_none) rfl (fun _ ⟨c209, c1⟩ => q_nilCheck rfl) ?_
  refine HA.val (k := 6) (v := .pointer (some ⟨bc, 0, none⟩)) rfl rfl (by kernel_rfl) (by kernel_rfl) (want_none) rfl (fun _ ⟨c209, c1⟩ => q_fieldAddr fa_78_0 rfl rfl) ?_
  refine HA.val (k := 7) (v := .map (some rc_at)) rfl rfl (by kernel_rfl) (by kernel_rfl) (want_none) rfl (fun _ ⟨c209, c1⟩ => q_load to_76 rfl (Blk.cell c1 rfl)) ?_
  refine HA.one (k := 8) ⟨⟨(hS.box 0 rfl), (hS.box 2 rfl)⟩, (Go.Wk.at_nil _ _)⟩ (by kernel_rfl) ?_
  replace hS : St F_1 (Ow.map r_2 kT kI ([] : List (Str × Int)) :: Ow.map rc_at kT kI c_at :: Ow.box b_2 78 #[.map (some r_2)] :: Ow.box bc 78 #[.map (some rc_at)] :: fr) h_1 := hS.perm2 [1, 3, 0, 2] 4 rfl rfl
  refine HS.call rfl (want_none) rfl (ec en_48 rfl rfl) (maps_Copy_map_string_int_map_string_int_string_int_walk (fr := (Ow.box b_2 78 #[.map (some r_2)] :: Ow.box bc 78 #[.map (some rc_at)] :: fr)) [] c_at r_2 rc_at hS hM) ?_
  rintro _ h_2 ⟨F_2, dstm_1, srcm_1, rfl, hk, hS, hM⟩
  replace hK := hK.trans hk
  refine HA.nil ⟨⟨(hS.box 2 rfl), (hS.box 3 rfl)⟩, (Go.Wk.at_nil _ _)⟩ (by kernel_rfl) (thenQ_normal (?_))
  refine HW.seq ?_
  refine HW.region ?_
  refine HO.val (v := .pointer (some ⟨b_2, 0, none⟩)) (want_none) rfl (q_move rfl) ?_
  refine HO.val (v := .pointer (some ⟨b_2, 0, none⟩)) (want_none) rfl (q_assign rfl) ?_
  refine HO.nil (thenQ_normal (?_))
  refine HW.ret (?_)
  refine ⟨.inr rfl, .pointer (some ⟨b_2, 0, none⟩), res1 rfl (rt rfl), ?_⟩
  replace hS : St F_2 (Ow.box b_2 78 #[.map (some r_2)] :: Ow.map r_2 kT kI dstm_1 :: Ow.box bc 78 #[.map (some rc_at)] :: Ow.map rc_at kT kI srcm_1 :: fr) h_2 := hS.perm2 [2, 0, 3, 1] 4 rfl rfl
  exact ⟨F_2, dstm_1, srcm_1, b_2, r_2, rfl, hK, hS, hM⟩

def law12_ClockCopies_j1 (acts : List T_acequiaref12_Act) (at1 : Int) (Q : Bool → Prop) (r_3 : Str) (c_0_1 : List (Str × Int)) (l_1 : List T_acequiaref12_Entry) (i_1 : Int) (K_1 : (List (Str × Int)) → (List T_acequiaref12_Entry) → Int → Prop) (b_3 : Bool) : Prop :=
  (b_3 = true → ((0 : Int) ≤ i_1 ∧ i_1 < (acts.length : Int)) ∧ (law01_Cut_W ((gi acts i_1).2.1) 10 (fun r_4 => clock_Clock_Set_string_W c_0_1 r_4 ((gi acts i_1).2.2) (fun r_5 cm_1 => ref12_Set_W l_1 r_4 ((gi acts i_1).2.2) (fun r_6 => (I64 (i_1 + 1)) ∧ (K_1 cm_1 r_6 (i_1 + 1))))))) ∧ (b_3 = false → clock_Clock_Copy_string_W c_0_1 (fun r_0_1 cm_2 => clock_Clock_Set_string_W r_0_1 r_3 at1 (fun r_8 cm_3 => ref12_Set_W l_1 r_3 at1 (fun r_9 => clock_Clock_Pop_string_W cm_2 0 (fun r_10 cm_4 => law12_told_W cm_3 r_9 r_3 (fun r_11 cm_5 => (r_11 = true → ref12_Due_W l_1 0 (fun r_12 => ((0 : Int) ≤ r_12 ∧ r_12 ≤ (l_1.length : Int)) ∧ (((0 : Int) ≤ r_12 ∧ r_12 ≤ (l_1.length : Int) ∧ (l_1.length : Int) ≤ (l_1.length : Int)) ∧ (law12_told_W cm_4 (cut l_1 r_12 (l_1.length : Int)) r_3 (fun r_13 cm_6 => (r_13 = true → law12_lives_W  (fun r_14 => Q r_14)) ∧ (r_13 = false → Q false)))))) ∧ (r_11 = false → Q false)))))))
def law12_ClockCopies_l2 (acts : List T_acequiaref12_Act) (at1 : Int) (Q : Bool → Prop) (r_3 : Str) (K_1 : (List (Str × Int)) → (List T_acequiaref12_Entry) → Int → Prop) (c_0_1 : List (Str × Int)) (l_1 : List T_acequiaref12_Entry) (i_1 : Int) : Prop :=
  (i_1 < (acts.length : Int) → law12_ClockCopies_j1 acts at1 Q r_3 c_0_1 l_1 i_1 K_1 (decide (i_1 < 10))) ∧ (¬ (i_1 < (acts.length : Int)) → law12_ClockCopies_j1 acts at1 Q r_3 c_0_1 l_1 i_1 K_1 false)
def law12_ClockCopies_W (acts : List T_acequiaref12_Act) (key : Str) (at1 : Int) (Q : Bool → Prop) : Prop :=
  clock_New_string_W  (law01_Cut_W key 10 (fun r_3 => loopW (fun (K_1 : ((List (Str × Int)) × List T_acequiaref12_Entry × Int) → Prop) (s : (List (Str × Int)) × List T_acequiaref12_Entry × Int) => law12_ClockCopies_l2 acts at1 Q r_3 (fun c_0_1 l_1 i_1 => K_1 (c_0_1, l_1, i_1)) s.1 s.2.1 s.2.2) ([], [], 0)))
set_option maxHeartbeats 40000000 in
set_option maxRecDepth 100000 in
theorem law12_ClockCopies_walk {F : Fz} {fr : List Ow} {h0 : Heap} (acts : List T_acequiaref12_Act) (key : Str) (at1 : Int) (vacts : Value) (hS : St F (fr) h0) (hL_acts : SliceF F h0 3 e_acequiaref12_Act vacts acts) (hD : DM.on = false) {Q : Bool → Prop} (hM : law12_ClockCopies_W acts key at1 Q) :
    HC Try.prog 4 #[vacts, .string (bs key), .int .i64 at1] h0 fun u h' => ∃ (F' : Fz) (r_1 : Bool), u = .bool r_1 ∧ Kp F h0 F' h' ∧ St F' (fr) h' ∧ (SliceF F' h' 3 e_acequiaref12_Act vacts acts) ∧ Q r_1 := by
  unfold law12_ClockCopies_W at hM
  have hK := Kp.refl F h0
  refine HC.of_HW (n := 77) Try.func4 rfl rfl (Nat.le_of_ble_eq_true rfl) ?_
  refine HW.seq ?_
  refine HW.region ?_
  refine HO.val (v := .bool false) (want_none) rfl (q_assign rfl) ?_
  refine HO.nil (thenQ_normal (?_))
  refine HW.seq ?_
  refine HW.region ?_
  refine HO.call (want_none) rfl (ec en_7 rfl rfl) (clock_New_string_walk (fr := (fr))  hS hM) ?_
  rintro _ h_1 ⟨F_1, b_1, r_2, rfl, hk, hS, hM⟩
  replace hK := hK.trans hk
  replace hL_acts := hL_acts.kp hk
  refine HO.eff (want_none) rfl (st_litEmpty (α := T_acequiaref12_Entry) e_acequiaref12_Entry hS tl_25) ?_
  rintro _ h_2 ⟨b_2, rfl, hS, hk⟩
  replace hK := hK.trans hk
  replace hL_acts := hL_acts.kp hk
  refine HO.val (v := .pointer (some ⟨b_1, 0, none⟩)) (want_none) rfl (q_assign rfl) ?_
  refine HO.val (v := .slice (some ⟨b_2, 0, none⟩) 0 0) (want_none) rfl (q_assign rfl) ?_
  refine HO.nil (thenQ_normal (?_))
  refine HW.seq ?_
  refine HW.region ?_
  refine HO.val (v := .string (bs key)) (want_none) rfl (q_move rfl) ?_
  refine HO.call (want_none) rfl (ec en_8 rfl rfl) (law01_Cut_walk (fr := (Ow.own 80 2 e_acequiaref12_Entry (.slice (some ⟨b_2, 0, none⟩) 0 0) ([] : List T_acequiaref12_Entry) :: Ow.box b_1 78 #[.map (some r_2)] :: Ow.map r_2 kT kI ([] : List (Str × Int)) :: fr)) key 10 hS hM) ?_
  rintro _ h_3 ⟨F_2, r_3, rfl, hk, hS, hM⟩
  replace hK := hK.trans hk
  replace hL_acts := hL_acts.kp hk
  refine HO.val (v := .string (bs r_3)) (want_none) rfl (q_assign rfl) ?_
  refine HO.nil (thenQ_normal (?_))
  refine HW.seq ?_
  refine HW.seq ?_
  refine HW.region ?_
  refine HO.val (v := .int .i64 0) (want_none) rfl (q_assign rfl) ?_
  refine HO.nil (thenQ_normal (?_))
  refine HW.block ?_
  obtain ⟨I_1, m_1, hI_1, hR_1⟩ := hM
  replace hS : St F_2 (Ow.box b_1 78 #[.map (some r_2)] :: Ow.map r_2 kT kI ([] : List (Str × Int)) :: Ow.own 80 2 e_acequiaref12_Entry (.slice (some ⟨b_2, 0, none⟩) 0 0) ([] : List T_acequiaref12_Entry) :: fr) h_3 := hS.perm2 [1, 2, 0] 3 rfl rfl
  refine HW.loop (S := (List (Str × Int)) × List T_acequiaref12_Entry × Int) (fun s f h => match s with | (c_0_1, l_1, i_1) => ∃ (F' : Fz) (vl_1 : Value), f 0 = vacts ∧ f 1 = .string (bs r_3) ∧ f 2 = .int .i64 at1 ∧ f 6 = .bool false ∧ f 7 = .pointer (some ⟨b_1, 0, none⟩) ∧ f 8 = vl_1 ∧ f 9 = .int .i64 i_1 ∧ Kp F h0 F' h ∧ St F' (Ow.box b_1 78 #[.map (some r_2)] :: Ow.map r_2 kT kI c_0_1 :: Ow.own 80 2 e_acequiaref12_Entry vl_1 l_1 :: fr) h ∧ (SliceF F' h 3 e_acequiaref12_Act vacts acts) ∧ I_1 (c_0_1, l_1, i_1)) m_1 ([], [], 0) ⟨F_2, .slice (some ⟨b_2, 0, none⟩) 0 0, rfl, rfl, rfl, rfl, rfl, rfl, rfl, hK, hS, hL_acts, hI_1⟩ ?_
  rintro ⟨c_0_1, l_1, i_1⟩ f_1 h_4 ⟨F_3, vl_1, e0, e1, e2, e6, e7, e8, e9, hK, hS, hL_acts, hI0⟩
  obtain ⟨K_1, hKe_1⟩ : ∃ K : (List (Str × Int)) → (List T_acequiaref12_Entry) → Int → Prop, K = fun c_0_1' l_1' i_1' => I_1 (c_0_1', l_1', i_1') ∧ m_1 (c_0_1', l_1', i_1') < m_1 (c_0_1, l_1, i_1) := ⟨_, rfl⟩
  have hM : law12_ClockCopies_l2 acts at1 Q r_3 K_1 c_0_1 l_1 i_1 := by rw [hKe_1]; exact hR_1 (c_0_1, l_1, i_1) hI0
  unfold law12_ClockCopies_l2 at hM
  refine HW.fr [(0, vacts), (1, .string (bs r_3)), (2, .int .i64 at1), (6, .bool false), (7, .pointer (some ⟨b_1, 0, none⟩)), (8, vl_1), (9, .int .i64 i_1)] ⟨e0, e1, e2, e6, e7, e8, e9, trivial⟩ ?_
  refine HW.seq ?_
  refine HW.seq_mid (fun f h => ∃ (F' : Fz) (b_3 : Bool), f 0 = vacts ∧ f 1 = .string (bs r_3) ∧ f 2 = .int .i64 at1 ∧ f 6 = .bool false ∧ f 7 = .pointer (some ⟨b_1, 0, none⟩) ∧ f 8 = vl_1 ∧ f 9 = .int .i64 i_1 ∧ f 24 = .bool b_3 ∧ Kp F h0 F' h ∧ St F' (Ow.box b_1 78 #[.map (some r_2)] :: Ow.map r_2 kT kI c_0_1 :: Ow.own 80 2 e_acequiaref12_Entry vl_1 l_1 :: fr) h ∧ (SliceF F' h 3 e_acequiaref12_Act vacts acts) ∧ law12_ClockCopies_j1 acts at1 Q r_3 c_0_1 l_1 i_1 K_1 b_3) ?_ ?_
  · refine HW.region ?_
    refine HO.val (v := .int .i64 i_1) (want_none) rfl (q_move rfl) ?_
    refine HO.val (v := vacts) (want_none) rfl (q_move rfl) ?_
    refine HO.val (v := .int .i64 (acts.length : Int)) (want_none) rfl (q_len ts_22 (shp hL_acts.is) rfl rfl) ?_
    refine HO.val (v := .bool (decide (i_1 < (acts.length : Int)))) (want_none) rfl (q_lss rfl rfl) ?_
    refine HO.val (v := .bool (decide (i_1 < (acts.length : Int)))) (want_none) rfl (q_move rfl) ?_
    rcases Bool.eq_false_or_eq_true (decide (i_1 < (acts.length : Int))) with c_1 | c_1
    · replace hM := hM.1 (of_decide_eq_true c_1)
      refine HO.val (v := .int .i64 i_1) (want_by rfl rfl c_1) rfl (q_move rfl) ?_
      refine HO.val (v := .bool (decide (i_1 < 10))) (want_by rfl rfl c_1) rfl (q_lss rfl rfl) ?_
      refine HO.val (v := .bool (decide (i_1 < 10))) (want_none) rfl (q_pickK true rfl c_1 rfl) ?_
      refine HO.nil (thenQ_normal (?_))
      exact ⟨F_3, decide (i_1 < 10), rfl, rfl, rfl, rfl, rfl, rfl, rfl, rfl, hK, hS, hL_acts, hM⟩
    · replace hM := hM.2 (of_decide_eq_false c_1)
      refine HO.past (past_by rfl rfl c_1) rfl ?_
      refine HO.past (past_by rfl rfl c_1) rfl ?_
      refine HO.val (v := .bool false) (want_none) rfl (q_pickK false rfl c_1 rfl) ?_
      refine HO.nil (thenQ_normal (?_))
      exact ⟨F_3, false, rfl, rfl, rfl, rfl, rfl, rfl, rfl, rfl, hK, hS, hL_acts, hM⟩
  · rintro f_2 h_5 ⟨F_4, b_3, e0, e1, e2, e6, e7, e8, e9, e24, hK, hS, hL_acts, hM⟩
    unfold law12_ClockCopies_j1 at hM
    refine HW.fr [(0, vacts), (1, .string (bs r_3)), (2, .int .i64 at1), (6, .bool false), (7, .pointer (some ⟨b_1, 0, none⟩)), (8, vl_1), (9, .int .i64 i_1), (24, .bool b_3)] ⟨e0, e1, e2, e6, e7, e8, e9, e24, trivial⟩ ?_
    refine HW.cond b_3 rfl (fun c_2 => ?_) (fun c_2 => ?_)
    · replace hM := hM.1 c_2
      refine HW.skip (thenQ_normal (?_))
      refine HW.seq ?_
      refine HW.block ?_
      refine HW.seq ?_
      refine HW.region ?_
      refine HO.val (v := vacts) (want_none) rfl (q_move rfl) ?_
      refine HO.val (v := .int .i64 i_1) (want_none) rfl (q_move rfl) ?_
      obtain ⟨ho_1, hM⟩ := hM
      refine HO.val (v := elemPtr 3 vacts (i_1).toNat) (want_none) rfl (q_idx ts_22 hL_acts.is rfl rfl ho_1) ?_
      refine HO.val (v := fieldPtr 3 vacts (i_1).toNat 1) (want_none) rfl (q_fldElem fa_28_1 hL_acts.is rfl ho_1) ?_
      refine HO.val (v := .string (bs ((gi acts i_1).2.1))) (want_none) rfl (q_ldField to_9 hL_acts.is rfl ho_1 (by decide) rfl) ?_
      refine HO.call (want_none) rfl (ec en_8 rfl rfl) (law01_Cut_walk (fr := (Ow.box b_1 78 #[.map (some r_2)] :: Ow.map r_2 kT kI c_0_1 :: Ow.own 80 2 e_acequiaref12_Entry vl_1 l_1 :: fr)) ((gi acts i_1).2.1) 10 hS hM) ?_
      rintro _ h_6 ⟨F_5, r_4, rfl, hk, hS, hM⟩
      replace hK := hK.trans hk
      replace hL_acts := hL_acts.kp hk
      refine HO.val (v := .string (bs r_4)) (want_none) rfl (q_assign rfl) ?_
      refine HO.nil (thenQ_normal (?_))
      refine HW.seq ?_
      refine HW.region ?_
      refine HO.val (v := .pointer (some ⟨b_1, 0, none⟩)) (want_none) rfl (q_move rfl) ?_
      refine HO.val (v := .string (bs r_4)) (want_none) rfl (q_move rfl) ?_
      refine HO.val (v := vacts) (want_none) rfl (q_move rfl) ?_
      refine HO.val (v := .int .i64 i_1) (want_none) rfl (q_move rfl) ?_
      refine HO.val (v := elemPtr 3 vacts (i_1).toNat) (want_none) rfl (q_idx ts_22 hL_acts.is rfl rfl ho_1) ?_
      refine HO.val (v := fieldPtr 3 vacts (i_1).toNat 2) (want_none) rfl (q_fldElem fa_28_2 hL_acts.is rfl ho_1) ?_
      refine HO.val (v := .int .i64 ((gi acts i_1).2.2)) (want_none) rfl (q_ldField to_3 hL_acts.is rfl ho_1 (by decide) rfl) ?_
      refine HO.call (want_none) rfl (ec en_11 rfl rfl) (clock_Clock_Set_string_walk (fr := (Ow.own 80 2 e_acequiaref12_Entry vl_1 l_1 :: fr)) c_0_1 r_4 ((gi acts i_1).2.2) b_1 r_2 hS hM) ?_
      rintro _ h_7 ⟨F_6, r_5, cm_1, rfl, hk, hS, hM⟩
      replace hK := hK.trans hk
      replace hL_acts := hL_acts.kp hk
      refine HO.nil (thenQ_normal (?_))
      refine HW.region ?_
      refine HO.val (v := vl_1) (want_none) rfl (q_move rfl) ?_
      refine HO.val (v := .string (bs r_4)) (want_none) rfl (q_move rfl) ?_
      refine HO.val (v := vacts) (want_none) rfl (q_move rfl) ?_
      refine HO.val (v := .int .i64 i_1) (want_none) rfl (q_move rfl) ?_
      refine HO.val (v := elemPtr 3 vacts (i_1).toNat) (want_none) rfl (q_idx ts_22 hL_acts.is rfl rfl ho_1) ?_
      refine HO.val (v := fieldPtr 3 vacts (i_1).toNat 2) (want_none) rfl (q_fldElem fa_28_2 hL_acts.is rfl ho_1) ?_
      refine HO.val (v := .int .i64 ((gi acts i_1).2.2)) (want_none) rfl (q_ldField to_3 hL_acts.is rfl ho_1 (by decide) rfl) ?_
      replace hS : St F_6 (Ow.own 80 2 e_acequiaref12_Entry vl_1 l_1 :: Ow.box b_1 78 #[.map (some r_2)] :: Ow.map r_2 kT kI cm_1 :: fr) h_7 := hS.perm2 [2, 0, 1] 3 rfl rfl
      have hZ_1 := hS
      have hkz_1 := (hS.freeze).2
      replace hS := hS.freeze.1
      have hL_1 : SliceF (fun b => F_6 b ∨ (Ow.own 80 2 e_acequiaref12_Entry vl_1 l_1).foot b) h_7 2 e_acequiaref12_Entry vl_1 l_1 := ⟨(hZ_1.own 0 rfl).slice, fun _ b hb => .inr hb⟩
      refine HO.call (want_none) rfl (ec en_12 rfl rfl) (ref12_Set_walk (fr := (Ow.box b_1 78 #[.map (some r_2)] :: Ow.map r_2 kT kI cm_1 :: fr)) l_1 r_4 ((gi acts i_1).2.2) vl_1 hS hL_1 hM) ?_
      rintro vr_1 h_8 ⟨F_7, r_6, _, rfl, hk, hS, _, hM⟩
      obtain ⟨hS, hk⟩ := hZ_1.back hk hS
      generalize (fun b => F_7 b ∧ ¬ (Ow.own 80 2 e_acequiaref12_Entry vl_1 l_1).foot b) = F_8 at hS hk
      replace hK := hK.trans hk
      replace hL_acts := hL_acts.kp hk
      refine HO.val (v := vr_1) (want_none) rfl (q_assign rfl) ?_
      refine HO.nil (blockQ_normal (thenQ_normal (?_)))
      refine HW.region ?_
      refine HO.val (v := .int .i64 i_1) (want_none) rfl (q_move rfl) ?_
      obtain ⟨ho_2, hM⟩ := hM
      refine HO.val (v := .int .i64 (i_1 + 1)) (want_none) rfl (q_addN _ rfl rfl rfl ho_2.1 ho_2.2) ?_
      refine HO.val (v := .int .i64 (i_1 + 1)) (want_none) rfl (q_assign rfl) ?_
      refine HO.nil (thenQ_normal (?_))
      replace hS : St F_8 (Ow.box b_1 78 #[.map (some r_2)] :: Ow.map r_2 kT kI cm_1 :: Ow.own 80 2 e_acequiaref12_Entry vr_1 r_6 :: fr) h_8 := hS.perm2 [2, 3, 1] 4 rfl rfl
      rw [hKe_1] at hM
      exact ⟨(cm_1, r_6, i_1 + 1), ⟨F_8, vr_1, rfl, rfl, rfl, rfl, rfl, rfl, rfl, hK, hS, hL_acts, hM.1⟩, hM.2⟩
    · replace hM := hM.2 c_2
      refine HW.exit (thenQ_exit (thenQ_exit (blockQ_exit (thenQ_normal (?_)))))
      refine HW.seq ?_
      refine HW.region ?_
      refine HO.val (v := .pointer (some ⟨b_1, 0, none⟩)) (want_none) rfl (q_move rfl) ?_
      refine HO.call (want_none) rfl (ec en_21 rfl rfl) (clock_Clock_Copy_string_walk (fr := (Ow.own 80 2 e_acequiaref12_Entry vl_1 l_1 :: fr)) c_0_1 b_1 r_2 hS hM) ?_
      rintro _ h_9 ⟨F_9, r_0_1, cm_2, b_4, r_7, rfl, hk, hS, hM⟩
      replace hK := hK.trans hk
      replace hL_acts := hL_acts.kp hk
      refine HO.val (v := .pointer (some ⟨b_4, 0, none⟩)) (want_none) rfl (q_assign rfl) ?_
      refine HO.nil (thenQ_normal (?_))
      refine HW.seq ?_
      refine HW.region ?_
      refine HO.val (v := .pointer (some ⟨b_4, 0, none⟩)) (want_none) rfl (q_move rfl) ?_
      refine HO.val (v := .string (bs r_3)) (want_none) rfl (q_move rfl) ?_
      refine HO.val (v := .int .i64 at1) (want_none) rfl (q_move rfl) ?_
      refine HO.call (want_none) rfl (ec en_11 rfl rfl) (clock_Clock_Set_string_walk (fr := (Ow.box b_1 78 #[.map (some r_2)] :: Ow.map r_2 kT kI cm_2 :: Ow.own 80 2 e_acequiaref12_Entry vl_1 l_1 :: fr)) r_0_1 r_3 at1 b_4 r_7 hS hM) ?_
      rintro _ h_10 ⟨F_10, r_8, cm_3, rfl, hk, hS, hM⟩
      replace hK := hK.trans hk
      replace hL_acts := hL_acts.kp hk
      refine HO.nil (thenQ_normal (?_))
      refine HW.seq ?_
      refine HW.region ?_
      refine HO.val (v := vl_1) (want_none) rfl (q_move rfl) ?_
      refine HO.val (v := .string (bs r_3)) (want_none) rfl (q_move rfl) ?_
      refine HO.val (v := .int .i64 at1) (want_none) rfl (q_move rfl) ?_
      replace hS : St F_10 (Ow.own 80 2 e_acequiaref12_Entry vl_1 l_1 :: Ow.box b_4 78 #[.map (some r_7)] :: Ow.map r_7 kT kI cm_3 :: Ow.box b_1 78 #[.map (some r_2)] :: Ow.map r_2 kT kI cm_2 :: fr) h_10 := hS.perm2 [4, 0, 1, 2, 3] 5 rfl rfl
      have hZ_2 := hS
      have hkz_2 := (hS.freeze).2
      replace hS := hS.freeze.1
      have hL_2 : SliceF (fun b => F_10 b ∨ (Ow.own 80 2 e_acequiaref12_Entry vl_1 l_1).foot b) h_10 2 e_acequiaref12_Entry vl_1 l_1 := ⟨(hZ_2.own 0 rfl).slice, fun _ b hb => .inr hb⟩
      refine HO.call (want_none) rfl (ec en_12 rfl rfl) (ref12_Set_walk (fr := (Ow.box b_4 78 #[.map (some r_7)] :: Ow.map r_7 kT kI cm_3 :: Ow.box b_1 78 #[.map (some r_2)] :: Ow.map r_2 kT kI cm_2 :: fr)) l_1 r_3 at1 vl_1 hS hL_2 hM) ?_
      rintro vr_2 h_11 ⟨F_11, r_9, _, rfl, hk, hS, _, hM⟩
      obtain ⟨hS, hk⟩ := hZ_2.back hk hS
      generalize (fun b => F_11 b ∧ ¬ (Ow.own 80 2 e_acequiaref12_Entry vl_1 l_1).foot b) = F_12 at hS hk
      replace hK := hK.trans hk
      replace hL_acts := hL_acts.kp hk
      refine HO.val (v := vr_2) (want_none) rfl (q_assign rfl) ?_
      refine HO.nil (thenQ_normal (?_))
      refine HW.seq ?_
      refine HW.region ?_
      refine HO.val (v := .pointer (some ⟨b_1, 0, none⟩)) (want_none) rfl (q_move rfl) ?_
      replace hS : St F_12 (Ow.box b_1 78 #[.map (some r_2)] :: Ow.map r_2 kT kI cm_2 :: Ow.own 80 2 e_acequiaref12_Entry vl_1 l_1 :: Ow.own 80 2 e_acequiaref12_Entry vr_2 r_9 :: Ow.box b_4 78 #[.map (some r_7)] :: Ow.map r_7 kT kI cm_3 :: fr) h_11 := hS.perm2 [4, 5, 0, 1, 2, 3] 6 rfl rfl
      refine HO.call (want_none) rfl (ec en_16 rfl rfl) (clock_Clock_Pop_string_walk (fr := (Ow.own 80 2 e_acequiaref12_Entry vl_1 l_1 :: Ow.own 80 2 e_acequiaref12_Entry vr_2 r_9 :: Ow.box b_4 78 #[.map (some r_7)] :: Ow.map r_7 kT kI cm_3 :: fr)) cm_2 0 b_1 r_2 hS hM) ?_
      rintro vr_3 h_12 ⟨F_13, r_10, cm_4, _, rfl, hk, hS, hM⟩
      replace hK := hK.trans hk
      replace hL_acts := hL_acts.kp hk
      refine HO.nil (thenQ_normal (?_))
      refine HW.seq ?_
      refine HW.region ?_
      refine HO.val (v := .pointer (some ⟨b_4, 0, none⟩)) (want_none) rfl (q_move rfl) ?_
      refine HO.val (v := vr_2) (want_none) rfl (q_move rfl) ?_
      refine HO.val (v := .string (bs r_3)) (want_none) rfl (q_move rfl) ?_
      replace hS : St F_13 (Ow.own 80 2 e_acequiaref12_Entry vr_2 r_9 :: Ow.own 9 1 encT vr_3 r_10 :: Ow.box b_1 78 #[.map (some r_2)] :: Ow.map r_2 kT kI cm_4 :: Ow.own 80 2 e_acequiaref12_Entry vl_1 l_1 :: Ow.box b_4 78 #[.map (some r_7)] :: Ow.map r_7 kT kI cm_3 :: fr) h_12 := hS.perm2 [4, 0, 1, 2, 3, 5, 6] 7 rfl rfl
      have hZ_3 := hS
      have hkz_3 := (hS.freeze).2
      replace hS := hS.freeze.1
      have hL_3 : SliceF (fun b => F_13 b ∨ (Ow.own 80 2 e_acequiaref12_Entry vr_2 r_9).foot b) h_12 2 e_acequiaref12_Entry vr_2 r_9 := ⟨(hZ_3.own 0 rfl).slice, fun _ b hb => .inr hb⟩
      replace hS : St (fun b => F_13 b ∨ (Ow.own 80 2 e_acequiaref12_Entry vr_2 r_9).foot b) (Ow.box b_4 78 #[.map (some r_7)] :: Ow.map r_7 kT kI cm_3 :: Ow.own 9 1 encT vr_3 r_10 :: Ow.box b_1 78 #[.map (some r_2)] :: Ow.map r_2 kT kI cm_4 :: Ow.own 80 2 e_acequiaref12_Entry vl_1 l_1 :: fr) h_12 := hS.perm2 [4, 5, 0, 1, 2, 3] 6 rfl rfl
      refine HO.call (want_none) rfl (ec en_19 rfl rfl) (law12_told_walk (fr := (Ow.own 9 1 encT vr_3 r_10 :: Ow.box b_1 78 #[.map (some r_2)] :: Ow.map r_2 kT kI cm_4 :: Ow.own 80 2 e_acequiaref12_Entry vl_1 l_1 :: fr)) cm_3 r_9 r_3 b_4 r_7 vr_2 hS hL_3 hD hM) ?_
      rintro _ h_13 ⟨F_14, r_11, cm_5, rfl, hk, hS, _, hM⟩
      obtain ⟨hS, hk⟩ := hZ_3.back hk hS
      generalize (fun b => F_14 b ∧ ¬ (Ow.own 80 2 e_acequiaref12_Entry vr_2 r_9).foot b) = F_15 at hS hk
      replace hK := hK.trans hk
      replace hL_acts := hL_acts.kp hk
      refine HO.val (v := .bool r_11) (want_none) rfl (q_move rfl) ?_
      rcases Bool.eq_false_or_eq_true r_11 with c_3 | c_3
      · replace hM := hM.1 c_3
        refine HO.val (v := .pointer (some ⟨b_1, 0, none⟩)) (want_by rfl rfl c_3) rfl (q_move rfl) ?_
        refine HO.val (v := vl_1) (want_by rfl rfl c_3) rfl (q_move rfl) ?_
        refine HO.val (v := vl_1) (want_by rfl rfl c_3) rfl (q_move rfl) ?_
        replace hS : St F_15 (Ow.own 80 2 e_acequiaref12_Entry vl_1 l_1 :: Ow.own 80 2 e_acequiaref12_Entry vr_2 r_9 :: Ow.box b_4 78 #[.map (some r_7)] :: Ow.map r_7 kT kI cm_5 :: Ow.own 9 1 encT vr_3 r_10 :: Ow.box b_1 78 #[.map (some r_2)] :: Ow.map r_2 kT kI cm_4 :: fr) h_13 := hS.perm2 [6, 0, 1, 2, 3, 4, 5] 7 rfl rfl
        have hZ_4 := hS
        have hkz_4 := (hS.freeze).2
        replace hS := hS.freeze.1
        have hL_4 : SliceF (fun b => F_15 b ∨ (Ow.own 80 2 e_acequiaref12_Entry vl_1 l_1).foot b) h_13 2 e_acequiaref12_Entry vl_1 l_1 := ⟨(hZ_4.own 0 rfl).slice, fun _ b hb => .inr hb⟩
        refine HO.call (want_by rfl rfl c_3) rfl (ec en_10 rfl rfl) (ref12_Due_walk (fr := (Ow.own 80 2 e_acequiaref12_Entry vr_2 r_9 :: Ow.box b_4 78 #[.map (some r_7)] :: Ow.map r_7 kT kI cm_5 :: Ow.own 9 1 encT vr_3 r_10 :: Ow.box b_1 78 #[.map (some r_2)] :: Ow.map r_2 kT kI cm_4 :: fr)) l_1 0 vl_1 hS hL_4 hM) ?_
        rintro _ h_14 ⟨F_16, r_12, rfl, hk, hS, _, hM⟩
        obtain ⟨hS, hk⟩ := hZ_4.back hk hS
        generalize (fun b => F_16 b ∧ ¬ (Ow.own 80 2 e_acequiaref12_Entry vl_1 l_1).foot b) = F_17 at hS hk
        replace hK := hK.trans hk
        replace hL_acts := hL_acts.kp hk
        obtain ⟨ho_3, hM⟩ := hM
        refine HO.val (v := cutV 2 vl_1 (r_12).toNat ((l_1.length : Int)).toNat) (want_by rfl rfl c_3) rfl (q_slL ts_25 (hS.own 0 rfl).slice rfl rfl ho_3) ?_
        refine HO.val (v := .string (bs r_3)) (want_by rfl rfl c_3) rfl (q_move rfl) ?_
        have hZ_5 := hS
        have hkz_5 := (hS.freeze).2
        replace hS := hS.freeze.1
        have hL_5 : SliceF (fun b => F_17 b ∨ (Ow.own 80 2 e_acequiaref12_Entry vl_1 l_1).foot b) h_14 2 e_acequiaref12_Entry vl_1 l_1 := ⟨(hZ_5.own 0 rfl).slice, fun _ b hb => .inr hb⟩
        obtain ⟨ho_4, hM⟩ := hM
        replace hS : St (fun b => F_17 b ∨ (Ow.own 80 2 e_acequiaref12_Entry vl_1 l_1).foot b) (Ow.box b_1 78 #[.map (some r_2)] :: Ow.map r_2 kT kI cm_4 :: Ow.own 80 2 e_acequiaref12_Entry vr_2 r_9 :: Ow.box b_4 78 #[.map (some r_7)] :: Ow.map r_7 kT kI cm_5 :: Ow.own 9 1 encT vr_3 r_10 :: fr) h_14 := hS.perm2 [4, 5, 0, 1, 2, 3] 6 rfl rfl
        refine HO.call (want_by rfl rfl c_3) rfl (ec en_19 rfl rfl) (law12_told_walk (fr := (Ow.own 80 2 e_acequiaref12_Entry vr_2 r_9 :: Ow.box b_4 78 #[.map (some r_7)] :: Ow.map r_7 kT kI cm_5 :: Ow.own 9 1 encT vr_3 r_10 :: fr)) cm_4 (cut l_1 r_12 (l_1.length : Int)) r_3 b_1 r_2 (cutV 2 vl_1 (r_12).toNat ((l_1.length : Int)).toNat) hS (cutF hL_5 r_12 (l_1.length : Int) ho_4.1 ho_4.2.1 ho_4.2.2) hD hM) ?_
        rintro _ h_15 ⟨F_18, r_13, cm_6, rfl, hk, hS, _, hM⟩
        obtain ⟨hS, hk⟩ := hZ_5.back hk hS
        generalize (fun b => F_18 b ∧ ¬ (Ow.own 80 2 e_acequiaref12_Entry vl_1 l_1).foot b) = F_19 at hS hk
        replace hK := hK.trans hk
        replace hL_acts := hL_acts.kp hk
        refine HO.val (v := .bool r_13) (want_none) rfl (q_pickK true rfl c_3 rfl) ?_
        refine HO.val (v := .bool r_13) (want_none) rfl (q_move rfl) ?_
        rcases Bool.eq_false_or_eq_true r_13 with c_4 | c_4
        · replace hM := hM.1 c_4
          refine HO.call (want_by rfl rfl c_4) rfl (ec en_20 rfl rfl) (law12_lives_walk (fr := (Ow.own 80 2 e_acequiaref12_Entry vl_1 l_1 :: Ow.box b_1 78 #[.map (some r_2)] :: Ow.map r_2 kT kI cm_6 :: Ow.own 80 2 e_acequiaref12_Entry vr_2 r_9 :: Ow.box b_4 78 #[.map (some r_7)] :: Ow.map r_7 kT kI cm_5 :: Ow.own 9 1 encT vr_3 r_10 :: fr))  hS hM) ?_
          rintro _ h_16 ⟨F_20, r_14, rfl, hk, hS, hM⟩
          replace hK := hK.trans hk
          replace hL_acts := hL_acts.kp hk
          refine HO.val (v := .bool r_14) (want_none) rfl (q_pickK true rfl c_4 rfl) ?_
          refine HO.val (v := .bool r_14) (want_none) rfl (q_assign rfl) ?_
          refine HO.nil (thenQ_normal (?_))
          refine HW.ret (?_)
          refine ⟨.inr rfl, .bool r_14, res1 rfl (rt rfl), ?_⟩
          replace hS : St F_20 (fr) h_16 := hS.perm2 [] 7 rfl rfl
          exact ⟨F_20, r_14, rfl, hK, hS, hL_acts, hM⟩
        · replace hM := hM.2 c_4
          refine HO.past (past_by rfl rfl c_4) rfl ?_
          refine HO.val (v := .bool false) (want_none) rfl (q_pickK false rfl c_4 rfl) ?_
          refine HO.val (v := .bool false) (want_none) rfl (q_assign rfl) ?_
          refine HO.nil (thenQ_normal (?_))
          refine HW.ret (?_)
          refine ⟨.inr rfl, .bool false, res1 rfl (rt rfl), ?_⟩
          replace hS : St F_19 (fr) h_15 := hS.perm2 [] 7 rfl rfl
          exact ⟨F_19, false, rfl, hK, hS, hL_acts, hM⟩
      · replace hM := hM.2 c_3
        refine HO.past (past_by rfl rfl c_3) rfl ?_
        refine HO.past (past_by rfl rfl c_3) rfl ?_
        refine HO.past (past_by rfl rfl c_3) rfl ?_
        refine HO.past (past_by rfl rfl c_3) rfl ?_
        refine HO.past (past_by rfl rfl c_3) rfl ?_
        refine HO.past (past_by rfl rfl c_3) rfl ?_
        refine HO.past (past_by rfl rfl c_3) rfl ?_
        refine HO.val (v := .bool false) (want_none) rfl (q_pickK false rfl c_3 rfl) ?_
        refine HO.val (v := .bool false) (want_none) rfl (q_move rfl) ?_
        refine HO.past (past_some rfl rfl) rfl ?_
        refine HO.val (v := .bool false) (want_none) rfl (q_pick rfl rfl) ?_
        refine HO.val (v := .bool false) (want_none) rfl (q_assign rfl) ?_
        refine HO.nil (thenQ_normal (?_))
        refine HW.ret (?_)
        refine ⟨.inr rfl, .bool false, res1 rfl (rt rfl), ?_⟩
        replace hS : St F_15 (fr) h_13 := hS.perm2 [] 7 rfl rfl
        exact ⟨F_15, false, rfl, hK, hS, hL_acts, hM⟩

def clock_Clock_At_string_nil0_W (key : Str) (Q : Int → Bool → Prop) : Prop :=
  Q 0 false
set_option maxHeartbeats 40000000 in
set_option maxRecDepth 100000 in
theorem clock_Clock_At_string_nil0_walk {F : Fz} {fr : List Ow} {h0 : Heap} (key : Str) (hS : St F (fr) h0)  {Q : Int → Bool → Prop} (hM : clock_Clock_At_string_nil0_W key Q) :
    HC Try.prog 22 #[.pointer none, .string (bs key)] h0 fun u h' => ∃ (F' : Fz) (r0_1 : Int) (r1_1 : Bool), u = .tuple #[.int .i64 r0_1, .bool r1_1] ∧ Kp F h0 F' h' ∧ St F' (fr) h' ∧ Q r0_1 r1_1 := by
  unfold clock_Clock_At_string_nil0_W at hM
  have hK := Kp.refl F h0
  refine HC.of_HW (n := 21) Try.func22 rfl rfl (Nat.le_of_ble_eq_true rfl) ?_
  refine HW.seq ?_
  refine HW.region ?_
  refine HO.val (v := .int .i64 0) (want_none) rfl (q_assign rfl) ?_
  refine HO.val (v := .bool false) (want_none) rfl (q_assign rfl) ?_
  refine HO.nil (thenQ_normal (?_))
  refine HW.seq ?_
  refine HW.seq ?_
  refine HW.region ?_
  refine HO.val (v := .pointer none) (want_none) rfl (q_move rfl) ?_
  refine HO.val (v := .bool true) (want_none) rfl (q_eqlPnil Try.underlying23 rfl rfl rfl) ?_
  refine HO.nil (thenQ_normal (?_))
  refine HW.condT rfl ?_
  refine HW.seq ?_
  refine HW.region ?_
  refine HO.val (v := .int .i64 0) (want_none) rfl (q_assign rfl) ?_
  refine HO.val (v := .bool false) (want_none) rfl (q_assign rfl) ?_
  refine HO.nil (thenQ_normal (?_))
  refine HW.ret (thenQ_ret (?_))
  refine ⟨.inr rfl, .tuple #[.int .i64 0, .bool false], res2 rfl (rt rfl) (rt rfl), ?_⟩
  exact ⟨F, 0, false, rfl, hK, hS, hM⟩

def clock_Clock_Next_string_nil0_W (Q : Str → Int → Bool → Prop) : Prop :=
  Q [] 0 false
set_option maxHeartbeats 40000000 in
set_option maxRecDepth 100000 in
theorem clock_Clock_Next_string_nil0_walk {F : Fz} {fr : List Ow} {h0 : Heap}  (hS : St F (fr) h0)  {Q : Str → Int → Bool → Prop} (hM : clock_Clock_Next_string_nil0_W Q) :
    HC Try.prog 23 #[.pointer none] h0 fun u h' => ∃ (F' : Fz) (r0_1 : Str) (r1_1 : Int) (r2_1 : Bool), u = .tuple #[.string (bs r0_1), .int .i64 r1_1, .bool r2_1] ∧ Kp F h0 F' h' ∧ St F' (fr) h' ∧ Q r0_1 r1_1 r2_1 := by
  unfold clock_Clock_Next_string_nil0_W at hM
  have hK := Kp.refl F h0
  refine HC.of_HW (n := 38) Try.func23 rfl rfl (Nat.le_of_ble_eq_true rfl) ?_
  refine HW.seq ?_
  refine HW.region ?_
  refine HO.val (v := .string (bs [])) (want_none) rfl (q_assign rfl) ?_
  refine HO.val (v := .int .i64 0) (want_none) rfl (q_assign rfl) ?_
  refine HO.val (v := .bool false) (want_none) rfl (q_assign rfl) ?_
  refine HO.nil (thenQ_normal (?_))
  refine HW.seq ?_
  refine HW.region ?_
  refine HO.val (v := .string (bs [])) (want_none) rfl (q_assign rfl) ?_
  refine HO.nil (thenQ_normal (?_))
  refine HW.seq ?_
  refine HW.region ?_
  refine HO.val (v := .bool false) (want_none) rfl (q_assign rfl) ?_
  refine HO.nil (thenQ_normal (?_))
  refine HW.seq ?_
  refine HW.seq ?_
  refine HW.region ?_
  refine HO.val (v := .pointer none) (want_none) rfl (q_move rfl) ?_
  refine HO.val (v := .bool true) (want_none) rfl (q_eqlPnil Try.underlying23 rfl rfl rfl) ?_
  refine HO.nil (thenQ_normal (?_))
  refine HW.condT rfl ?_
  refine HW.seq ?_
  refine HW.region ?_
  refine HO.val (v := .string (bs [])) (want_none) rfl (q_move rfl) ?_
  refine HO.val (v := .string (bs [])) (want_none) rfl (q_assign rfl) ?_
  refine HO.val (v := .int .i64 0) (want_none) rfl (q_assign rfl) ?_
  refine HO.val (v := .bool false) (want_none) rfl (q_assign rfl) ?_
  refine HO.nil (thenQ_normal (?_))
  refine HW.ret (thenQ_ret (?_))
  refine ⟨.inr rfl, .tuple #[.string (bs []), .int .i64 0, .bool false], res3 rfl (rt rfl) (rt rfl) (rt rfl), ?_⟩
  exact ⟨F, [], 0, false, rfl, hK, hS, hM⟩

def clock_Clock_Set_string_nil0_W (key : Str) (at1 : Int) (Q : Bool → Prop) : Prop :=
  Q false
set_option maxHeartbeats 40000000 in
set_option maxRecDepth 100000 in
theorem clock_Clock_Set_string_nil0_walk {F : Fz} {fr : List Ow} {h0 : Heap} (key : Str) (at1 : Int) (hS : St F (fr) h0)  {Q : Bool → Prop} (hM : clock_Clock_Set_string_nil0_W key at1 Q) :
    HC Try.prog 11 #[.pointer none, .string (bs key), .int .i64 at1] h0 fun u h' => ∃ (F' : Fz) (r_1 : Bool), u = .bool r_1 ∧ Kp F h0 F' h' ∧ St F' (fr) h' ∧ Q r_1 := by
  unfold clock_Clock_Set_string_nil0_W at hM
  have hK := Kp.refl F h0
  refine HC.of_HW (n := 28) Try.func11 rfl rfl (Nat.le_of_ble_eq_true rfl) ?_
  refine HW.seq ?_
  refine HW.region ?_
  refine HO.val (v := .bool false) (want_none) rfl (q_assign rfl) ?_
  refine HO.nil (thenQ_normal (?_))
  refine HW.seq ?_
  refine HW.seq ?_
  refine HW.region ?_
  refine HO.val (v := .pointer none) (want_none) rfl (q_move rfl) ?_
  refine HO.val (v := .bool true) (want_none) rfl (q_eqlPnil Try.underlying23 rfl rfl rfl) ?_
  refine HO.nil (thenQ_normal (?_))
  refine HW.condT rfl ?_
  refine HW.seq ?_
  refine HW.region ?_
  refine HO.val (v := .bool false) (want_none) rfl (q_assign rfl) ?_
  refine HO.nil (thenQ_normal (?_))
  refine HW.ret (thenQ_ret (?_))
  refine ⟨.inr rfl, .bool false, res1 rfl (rt rfl), ?_⟩
  exact ⟨F, false, rfl, hK, hS, hM⟩

def clock_Clock_Cut_string_nil0_W (key : Str) (Q : Bool → Prop) : Prop :=
  Q false
set_option maxHeartbeats 40000000 in
set_option maxRecDepth 100000 in
theorem clock_Clock_Cut_string_nil0_walk {F : Fz} {fr : List Ow} {h0 : Heap} (key : Str) (hS : St F (fr) h0)  {Q : Bool → Prop} (hM : clock_Clock_Cut_string_nil0_W key Q) :
    HC Try.prog 13 #[.pointer none, .string (bs key)] h0 fun u h' => ∃ (F' : Fz) (r_1 : Bool), u = .bool r_1 ∧ Kp F h0 F' h' ∧ St F' (fr) h' ∧ Q r_1 := by
  unfold clock_Clock_Cut_string_nil0_W at hM
  have hK := Kp.refl F h0
  refine HC.of_HW (n := 24) Try.func13 rfl rfl (Nat.le_of_ble_eq_true rfl) ?_
  refine HW.seq ?_
  refine HW.region ?_
  refine HO.val (v := .bool false) (want_none) rfl (q_assign rfl) ?_
  refine HO.nil (thenQ_normal (?_))
  refine HW.seq ?_
  refine HW.seq ?_
  refine HW.region ?_
  refine HO.val (v := .pointer none) (want_none) rfl (q_move rfl) ?_
  refine HO.val (v := .bool true) (want_none) rfl (q_eqlPnil Try.underlying23 rfl rfl rfl) ?_
  refine HO.nil (thenQ_normal (?_))
  refine HW.condT rfl ?_
  refine HW.seq ?_
  refine HW.region ?_
  refine HO.val (v := .bool false) (want_none) rfl (q_assign rfl) ?_
  refine HO.nil (thenQ_normal (?_))
  refine HW.ret (thenQ_ret (?_))
  refine ⟨.inr rfl, .bool false, res1 rfl (rt rfl), ?_⟩
  exact ⟨F, false, rfl, hK, hS, hM⟩

def clock_Clock_due_string_nil0_W (now : Int) (Q : (List Str) → Prop) : Prop :=
  Q []
set_option maxHeartbeats 40000000 in
set_option maxRecDepth 100000 in
theorem clock_Clock_due_string_nil0_walk {F : Fz} {fr : List Ow} {h0 : Heap} (now : Int) (hS : St F (fr) h0)  {Q : (List Str) → Prop} (hM : clock_Clock_due_string_nil0_W now Q) :
    HC Try.prog 46 #[.pointer none, .int .i64 now] h0 fun u h' => ∃ (F' : Fz) (r_1 : List Str) (vr_1 : Value), u = vr_1 ∧ Kp F h0 F' h' ∧ St F' (Ow.own 9 1 encT vr_1 r_1 :: fr) h' ∧ Q r_1 := by
  unfold clock_Clock_due_string_nil0_W at hM
  have hK := Kp.refl F h0
  refine HC.of_HW (n := 32) Try.func46 rfl rfl (Nat.le_of_ble_eq_true rfl) ?_
  refine HW.seq ?_
  refine HW.region ?_
  refine HO.val (v := .slice none 0 0) (want_none) rfl (q_assign rfl) ?_
  refine HO.nil (thenQ_normal (?_))
  refine HW.seq ?_
  refine HW.region ?_
  refine HO.val (v := .slice none 0 0) (want_none) rfl (q_assign rfl) ?_
  refine HO.nil (thenQ_normal (?_))
  refine HW.seq ?_
  refine HW.seq ?_
  refine HW.region ?_
  refine HO.val (v := .pointer none) (want_none) rfl (q_move rfl) ?_
  refine HO.val (v := .bool true) (want_none) rfl (q_eqlPnil Try.underlying23 rfl rfl rfl) ?_
  refine HO.nil (thenQ_normal (?_))
  refine HW.condT rfl ?_
  refine HW.seq ?_
  refine HW.region ?_
  refine HO.val (v := .slice none 0 0) (want_none) rfl (q_assign rfl) ?_
  refine HO.nil (thenQ_normal (?_))
  refine HW.ret (thenQ_ret (?_))
  refine ⟨.inr rfl, .slice none 0 0, res1 rfl (rt rfl), ?_⟩
  replace hS := hS.nilOwn 9 1 encT
  exact ⟨F, [], .slice none 0 0, rfl, hK, hS, hM⟩

def clock_Clock_Due_string_nil0_W (now : Int) (Q : (List Str) → Prop) : Prop :=
  clock_Clock_due_string_nil0_W now (fun r_2 => Q r_2)
set_option maxHeartbeats 40000000 in
set_option maxRecDepth 100000 in
theorem clock_Clock_Due_string_nil0_walk {F : Fz} {fr : List Ow} {h0 : Heap} (now : Int) (hS : St F (fr) h0)  {Q : (List Str) → Prop} (hM : clock_Clock_Due_string_nil0_W now Q) :
    HC Try.prog 18 #[.pointer none, .int .i64 now] h0 fun u h' => ∃ (F' : Fz) (r_1 : List Str) (vr_1 : Value), u = vr_1 ∧ Kp F h0 F' h' ∧ St F' (Ow.own 9 1 encT vr_1 r_1 :: fr) h' ∧ Q r_1 := by
  unfold clock_Clock_Due_string_nil0_W at hM
  have hK := Kp.refl F h0
  refine HC.of_HW (n := 8) Try.func18 rfl rfl (Nat.le_of_ble_eq_true rfl) ?_
  refine HW.seq ?_
  refine HW.region ?_
  refine HO.val (v := .slice none 0 0) (want_none) rfl (q_assign rfl) ?_
  refine HO.nil (thenQ_normal (?_))
  refine HW.seq ?_
  refine HW.region ?_
  refine HO.val (v := .pointer none) (want_none) rfl (q_move rfl) ?_
  refine HO.val (v := .int .i64 now) (want_none) rfl (q_move rfl) ?_
  refine HO.call (want_none) rfl (ec en_46 rfl rfl) (clock_Clock_due_string_nil0_walk (fr := (fr)) now hS hM) ?_
  rintro vr_2 h_1 ⟨F_1, r_2, _, rfl, hk, hS, hM⟩
  replace hK := hK.trans hk
  refine HO.val (v := vr_2) (want_none) rfl (q_assign rfl) ?_
  refine HO.nil (thenQ_normal (?_))
  refine HW.ret (?_)
  refine ⟨.inr rfl, vr_2, res1 rfl (rt rfl), ?_⟩
  exact ⟨F_1, r_2, vr_2, rfl, hK, hS, hM⟩

def clock_Clock_Pop_string_nil0_l1 (Q : (List Str) → Prop) (r_2 : List Str) (K_1 : Prop) : Prop :=
  (0 < (r_2.length : Int) → ((0 : Int) ≤ 0 ∧ 0 < (r_2.length : Int)) ∧ (False)) ∧ (¬ (0 < (r_2.length : Int)) → Q r_2)
def clock_Clock_Pop_string_nil0_W (now : Int) (Q : (List Str) → Prop) : Prop :=
  clock_Clock_due_string_nil0_W now (fun r_2 => loopW (fun (K_1 : Unit → Prop) (s : Unit) => clock_Clock_Pop_string_nil0_l1 Q r_2 (K_1 ())) ())
set_option maxHeartbeats 40000000 in
set_option maxRecDepth 100000 in
theorem clock_Clock_Pop_string_nil0_walk {F : Fz} {fr : List Ow} {h0 : Heap} (now : Int) (hS : St F (fr) h0)  {Q : (List Str) → Prop} (hM : clock_Clock_Pop_string_nil0_W now Q) :
    HC Try.prog 16 #[.pointer none, .int .i64 now] h0 fun u h' => ∃ (F' : Fz) (r_1 : List Str) (vr_1 : Value), u = vr_1 ∧ Kp F h0 F' h' ∧ St F' (Ow.own 9 1 encT vr_1 r_1 :: fr) h' ∧ Q r_1 := by
  unfold clock_Clock_Pop_string_nil0_W at hM
  have hK := Kp.refl F h0
  refine HC.of_HW (n := 24) Try.func16 rfl rfl (Nat.le_of_ble_eq_true rfl) ?_
  refine HW.seq ?_
  refine HW.region ?_
  refine HO.val (v := .slice none 0 0) (want_none) rfl (q_assign rfl) ?_
  refine HO.nil (thenQ_normal (?_))
  refine HW.seq ?_
  refine HW.region ?_
  refine HO.val (v := .pointer none) (want_none) rfl (q_move rfl) ?_
  refine HO.val (v := .int .i64 now) (want_none) rfl (q_move rfl) ?_
  refine HO.call (want_none) rfl (ec en_46 rfl rfl) (clock_Clock_due_string_nil0_walk (fr := (fr)) now hS hM) ?_
  rintro vr_2 h_1 ⟨F_1, r_2, _, rfl, hk, hS, hM⟩
  replace hK := hK.trans hk
  refine HO.val (v := vr_2) (want_none) rfl (q_assign rfl) ?_
  refine HO.nil (thenQ_normal (?_))
  refine HW.seq ?_
  refine HW.seq ?_
  refine HW.region ?_
  refine HO.val (v := vr_2) (want_none) rfl (q_move rfl) ?_
  refine HO.val (v := .int .i64 (r_2.length : Int)) (want_none) rfl (q_len ts_36 (shp (hS.own 0 rfl).slice) rfl rfl) ?_
  refine HO.val (v := .int .i64 0) (want_none) rfl (q_move rfl) ?_
  refine HO.nil (thenQ_normal (?_))
  refine HW.block ?_
  obtain ⟨I_1, m_1, hI_1, hR_1⟩ := hM
  refine HW.loop (S := Unit) (fun _ f h => ∃ (F' : Fz), f 0 = .pointer none ∧ f 4 = .slice none 0 0 ∧ f 5 = vr_2 ∧ f 11 = vr_2 ∧ f 12 = .int .i64 (r_2.length : Int) ∧ f 13 = .int .i64 0 ∧ Kp F h0 F' h ∧ St F' (Ow.own 9 1 encT vr_2 r_2 :: fr) h ∧ I_1 ()) m_1 () ⟨F_1, rfl, rfl, rfl, rfl, rfl, rfl, hK, hS, hI_1⟩ ?_
  rintro _ f_1 h_2 ⟨F_2, e0, e4, e5, e11, e12, e13, hK, hS, hI0⟩
  obtain ⟨K_1, hKe_1⟩ : ∃ K : Prop, K = (I_1 () ∧ m_1 () < m_1 ()) := ⟨_, rfl⟩
  have hM : clock_Clock_Pop_string_nil0_l1 Q r_2 K_1 := by rw [hKe_1]; exact hR_1 () hI0
  unfold clock_Clock_Pop_string_nil0_l1 at hM
  refine HW.fr [(0, .pointer none), (4, .slice none 0 0), (5, vr_2), (11, vr_2), (12, .int .i64 (r_2.length : Int)), (13, .int .i64 0)] ⟨e0, e4, e5, e11, e12, e13, trivial⟩ ?_
  refine HW.seq ?_
  refine HW.region ?_
  refine HO.val (v := .bool (decide (0 < (r_2.length : Int)))) (want_none) rfl (q_lss rfl rfl) ?_
  refine HO.nil (thenQ_normal (?_))
  refine HW.seq ?_
  refine HW.cond (decide (0 < (r_2.length : Int))) rfl (fun c_1 => ?_) (fun c_1 => ?_)
  · replace hM := hM.1 (of_decide_eq_true c_1)
    refine HW.skip (thenQ_normal (?_))
    refine HW.seq ?_
    refine HW.block ?_
    refine HW.seq ?_
    refine HW.region ?_
    obtain ⟨ho_1, hM⟩ := hM
    refine HO.val (v := elemPtr 1 vr_2 (0 : Int).toNat) (want_none) rfl (q_idx ts_36 (hS.own 0 rfl).slice rfl rfl ho_1) ?_
    refine HO.val (v := .string (bs (gi r_2 0))) (want_none) rfl (q_ldElem to_9 (hS.own 0 rfl).slice rfl ho_1 rfl) ?_
    refine HO.val (v := .string (bs (gi r_2 0))) (want_none) rfl (q_assign rfl) ?_
    refine HO.nil (thenQ_normal (?_))
    refine HW.region ?_
    refine HO.val (v := .pointer none) (want_none) rfl (q_move rfl) ?_
    exact hM.elim
  · replace hM := hM.2 (of_decide_eq_false c_1)
    refine HW.exit (thenQ_exit (thenQ_exit (blockQ_exit (thenQ_normal (?_)))))
    refine HW.seq ?_
    refine HW.region ?_
    refine HO.val (v := vr_2) (want_none) rfl (q_move rfl) ?_
    refine HO.val (v := vr_2) (want_none) rfl (q_assign rfl) ?_
    refine HO.nil (thenQ_normal (?_))
    refine HW.ret (?_)
    refine ⟨.inr rfl, vr_2, res1 rfl (rt rfl), ?_⟩
    exact ⟨F_2, r_2, vr_2, rfl, hK, hS, hM⟩

def clock_Clock_Keys_string_nil0_W (Q : (List Str) → Prop) : Prop :=
  Q []
set_option maxHeartbeats 40000000 in
set_option maxRecDepth 100000 in
theorem clock_Clock_Keys_string_nil0_walk {F : Fz} {fr : List Ow} {h0 : Heap}  (hS : St F (fr) h0)  {Q : (List Str) → Prop} (hM : clock_Clock_Keys_string_nil0_W Q) :
    HC Try.prog 24 #[.pointer none] h0 fun u h' => ∃ (F' : Fz) (r_1 : List Str) (vr_1 : Value), u = vr_1 ∧ Kp F h0 F' h' ∧ St F' (Ow.own 9 1 encT vr_1 r_1 :: fr) h' ∧ Q r_1 := by
  unfold clock_Clock_Keys_string_nil0_W at hM
  have hK := Kp.refl F h0
  refine HC.of_HW (n := 11) Try.func24 rfl rfl (Nat.le_of_ble_eq_true rfl) ?_
  refine HW.seq ?_
  refine HW.region ?_
  refine HO.val (v := .slice none 0 0) (want_none) rfl (q_assign rfl) ?_
  refine HO.nil (thenQ_normal (?_))
  refine HW.seq ?_
  refine HW.seq ?_
  refine HW.region ?_
  refine HO.val (v := .pointer none) (want_none) rfl (q_move rfl) ?_
  refine HO.val (v := .bool true) (want_none) rfl (q_eqlPnil Try.underlying23 rfl rfl rfl) ?_
  refine HO.nil (thenQ_normal (?_))
  refine HW.condT rfl ?_
  refine HW.seq ?_
  refine HW.region ?_
  refine HO.val (v := .slice none 0 0) (want_none) rfl (q_assign rfl) ?_
  refine HO.nil (thenQ_normal (?_))
  refine HW.ret (thenQ_ret (?_))
  refine ⟨.inr rfl, .slice none 0 0, res1 rfl (rt rfl), ?_⟩
  replace hS := hS.nilOwn 9 1 encT
  exact ⟨F, [], .slice none 0 0, rfl, hK, hS, hM⟩

def clock_Clock_Len_string_nil0_W (Q : Int → Prop) : Prop :=
  Q 0
set_option maxHeartbeats 40000000 in
set_option maxRecDepth 100000 in
theorem clock_Clock_Len_string_nil0_walk {F : Fz} {fr : List Ow} {h0 : Heap}  (hS : St F (fr) h0)  {Q : Int → Prop} (hM : clock_Clock_Len_string_nil0_W Q) :
    HC Try.prog 25 #[.pointer none] h0 fun u h' => ∃ (F' : Fz) (r_1 : Int), u = .int .i64 r_1 ∧ Kp F h0 F' h' ∧ St F' (fr) h' ∧ Q r_1 := by
  unfold clock_Clock_Len_string_nil0_W at hM
  have hK := Kp.refl F h0
  refine HC.of_HW (n := 10) Try.func25 rfl rfl (Nat.le_of_ble_eq_true rfl) ?_
  refine HW.seq ?_
  refine HW.region ?_
  refine HO.val (v := .int .i64 0) (want_none) rfl (q_assign rfl) ?_
  refine HO.nil (thenQ_normal (?_))
  refine HW.seq ?_
  refine HW.seq ?_
  refine HW.region ?_
  refine HO.val (v := .pointer none) (want_none) rfl (q_move rfl) ?_
  refine HO.val (v := .bool true) (want_none) rfl (q_eqlPnil Try.underlying23 rfl rfl rfl) ?_
  refine HO.nil (thenQ_normal (?_))
  refine HW.condT rfl ?_
  refine HW.seq ?_
  refine HW.region ?_
  refine HO.val (v := .int .i64 0) (want_none) rfl (q_assign rfl) ?_
  refine HO.nil (thenQ_normal (?_))
  refine HW.ret (thenQ_ret (?_))
  refine ⟨.inr rfl, .int .i64 0, res1 rfl (rt rfl), ?_⟩
  exact ⟨F, 0, rfl, hK, hS, hM⟩

def clock_Clock_Copy_string_nil0_W (Q : Prop) : Prop :=
  clock_New_string_W  (Q)
set_option maxHeartbeats 40000000 in
set_option maxRecDepth 100000 in
theorem clock_Clock_Copy_string_nil0_walk {F : Fz} {fr : List Ow} {h0 : Heap}  (hS : St F (fr) h0)  {Q : Prop} (hM : clock_Clock_Copy_string_nil0_W Q) :
    HC Try.prog 21 #[.pointer none] h0 fun u h' => ∃ (F' : Fz) (b_1 : Nat) (r_1 : Nat), u = .pointer (some ⟨b_1, 0, none⟩) ∧ Kp F h0 F' h' ∧ St F' (Ow.box b_1 78 #[.map (some r_1)] :: Ow.map r_1 kT kI ([] : List (Str × Int)) :: fr) h' ∧ Q := by
  unfold clock_Clock_Copy_string_nil0_W at hM
  have hK := Kp.refl F h0
  refine HC.of_HW (n := 17) Try.func21 rfl rfl (Nat.le_of_ble_eq_true rfl) ?_
  refine HW.seq ?_
  refine HW.region ?_
  refine HO.val (v := .pointer none) (want_none) rfl (q_assign rfl) ?_
  refine HO.nil (thenQ_normal (?_))
  refine HW.seq ?_
  refine HW.region ?_
  refine HO.call (want_none) rfl (ec en_7 rfl rfl) (clock_New_string_walk (fr := (fr))  hS hM) ?_
  rintro _ h_1 ⟨F_1, b_2, r_2, rfl, hk, hS, hM⟩
  replace hK := hK.trans hk
  refine HO.val (v := .pointer (some ⟨b_2, 0, none⟩)) (want_none) rfl (q_assign rfl) ?_
  refine HO.nil (thenQ_normal (?_))
  refine HW.seq ?_
  refine HW.seq ?_
  refine HW.region ?_
  refine HO.val (v := .pointer none) (want_none) rfl (q_move rfl) ?_
  refine HO.val (v := .bool false) (want_none) rfl (q_neqPnil Try.underlying23 rfl rfl rfl) ?_
  refine HO.nil (thenQ_normal (?_))
  refine HW.condF rfl ?_
  refine HW.skip (thenQ_normal (?_))
  refine HW.seq ?_
  refine HW.region ?_
  refine HO.val (v := .pointer (some ⟨b_2, 0, none⟩)) (want_none) rfl (q_move rfl) ?_
  refine HO.val (v := .pointer (some ⟨b_2, 0, none⟩)) (want_none) rfl (q_assign rfl) ?_
  refine HO.nil (thenQ_normal (?_))
  refine HW.ret (?_)
  refine ⟨.inr rfl, .pointer (some ⟨b_2, 0, none⟩), res1 rfl (rt rfl), ?_⟩
  exact ⟨F_1, b_2, r_2, rfl, hK, hS, hM⟩

def law12_ClockNil_W (key : Str) (at1 : Int) (Q : Bool → Prop) : Prop :=
  clock_Clock_At_string_nil0_W key (fun r0_1 r1_1 => clock_Clock_Next_string_nil0_W  (fun r0_2 r1_2 r2_1 => clock_Clock_Set_string_nil0_W key at1 (fun r_2 => ((!r_2) = true → clock_Clock_Cut_string_nil0_W key (fun r_3 => ((!r_3) = true → ((!r1_1) = true → ((r0_2 : Str) = [] → (r1_2 = 0 → ((!r2_1) = true → clock_Clock_Due_string_nil0_W at1 (fun r_4 => ((r_4.length : Int) = 0 → clock_Clock_Pop_string_nil0_W at1 (fun r_5 => ((r_5.length : Int) = 0 → clock_Clock_Keys_string_nil0_W  (fun r_6 => ((r_6.length : Int) = 0 → clock_Clock_Len_string_nil0_W  (fun r_7 => (r_7 = 0 → clock_Clock_Copy_string_nil0_W  (clock_Clock_Len_string_W [] (fun r_9 => (r_9 = 0 → law12_lives_W  (fun r_10 => Q r_10)) ∧ (¬ (r_9 = 0) → Q false)))) ∧ (¬ (r_7 = 0) → Q false))) ∧ (¬ ((r_6.length : Int) = 0) → Q false))) ∧ (¬ ((r_5.length : Int) = 0) → Q false))) ∧ (¬ ((r_4.length : Int) = 0) → Q false))) ∧ ((!r2_1) = false → Q false)) ∧ (¬ (r1_2 = 0) → Q false)) ∧ (¬ ((r0_2 : Str) = []) → Q false)) ∧ ((!r1_1) = false → Q false)) ∧ ((!r_3) = false → Q false))) ∧ ((!r_2) = false → Q false))))
set_option maxHeartbeats 40000000 in
set_option maxRecDepth 100000 in
theorem law12_ClockNil_walk {F : Fz} {fr : List Ow} {h0 : Heap} (key : Str) (at1 : Int) (hS : St F (fr) h0)  {Q : Bool → Prop} (hM : law12_ClockNil_W key at1 Q) :
    HC Try.prog 5 #[.string (bs key), .int .i64 at1] h0 fun u h' => ∃ (F' : Fz) (r_1 : Bool), u = .bool r_1 ∧ Kp F h0 F' h' ∧ St F' (fr) h' ∧ Q r_1 := by
  unfold law12_ClockNil_W at hM
  have hK := Kp.refl F h0
  refine HC.of_HW (n := 84) Try.func5 rfl rfl (Nat.le_of_ble_eq_true rfl) ?_
  refine HW.seq ?_
  refine HW.region ?_
  refine HO.val (v := .bool false) (want_none) rfl (q_assign rfl) ?_
  refine HO.nil (thenQ_normal (?_))
  refine HW.seq ?_
  refine HW.region ?_
  refine HO.val (v := .pointer none) (want_none) rfl (q_assign rfl) ?_
  refine HO.nil (thenQ_normal (?_))
  refine HW.seq ?_
  refine HW.region ?_
  refine HO.val (v := .pointer none) (want_none) rfl (q_move rfl) ?_
  refine HO.val (v := .string (bs key)) (want_none) rfl (q_move rfl) ?_
  refine HO.call (want_none) rfl (ec en_22 rfl rfl) (clock_Clock_At_string_nil0_walk (fr := (fr)) key hS hM) ?_
  rintro _ h_1 ⟨F_1, r0_1, r1_1, rfl, hk, hS, hM⟩
  replace hK := hK.trans hk
  refine HO.val (v := .tuple #[.int .i64 r0_1, .bool r1_1]) (want_none) rfl (q_move rfl) ?_
  refine HO.val (v := .int .i64 r0_1) (want_none) rfl (q_extract rfl rfl) ?_
  refine HO.val (v := .bool r1_1) (want_none) rfl (q_extract rfl rfl) ?_
  refine HO.val (v := .int .i64 r0_1) (want_none) rfl (q_assign rfl) ?_
  refine HO.val (v := .bool r1_1) (want_none) rfl (q_assign rfl) ?_
  refine HO.nil (thenQ_normal (?_))
  refine HW.seq ?_
  refine HW.region ?_
  refine HO.val (v := .pointer none) (want_none) rfl (q_move rfl) ?_
  refine HO.call (want_none) rfl (ec en_23 rfl rfl) (clock_Clock_Next_string_nil0_walk (fr := (fr))  hS hM) ?_
  rintro _ h_2 ⟨F_2, r0_2, r1_2, r2_1, rfl, hk, hS, hM⟩
  replace hK := hK.trans hk
  refine HO.val (v := .tuple #[.string (bs r0_2), .int .i64 r1_2, .bool r2_1]) (want_none) rfl (q_move rfl) ?_
  refine HO.val (v := .string (bs r0_2)) (want_none) rfl (q_extract rfl rfl) ?_
  refine HO.val (v := .int .i64 r1_2) (want_none) rfl (q_extract rfl rfl) ?_
  refine HO.val (v := .bool r2_1) (want_none) rfl (q_extract rfl rfl) ?_
  refine HO.val (v := .string (bs r0_2)) (want_none) rfl (q_assign rfl) ?_
  refine HO.val (v := .int .i64 r1_2) (want_none) rfl (q_assign rfl) ?_
  refine HO.val (v := .bool r2_1) (want_none) rfl (q_assign rfl) ?_
  refine HO.nil (thenQ_normal (?_))
  refine HW.seq ?_
  refine HW.region ?_
  refine HO.val (v := .pointer none) (want_none) rfl (q_move rfl) ?_
  refine HO.val (v := .string (bs key)) (want_none) rfl (q_move rfl) ?_
  refine HO.val (v := .int .i64 at1) (want_none) rfl (q_move rfl) ?_
  refine HO.call (want_none) rfl (ec en_11 rfl rfl) (clock_Clock_Set_string_nil0_walk (fr := (fr)) key at1 hS hM) ?_
  rintro _ h_3 ⟨F_3, r_2, rfl, hk, hS, hM⟩
  replace hK := hK.trans hk
  refine HO.val (v := .bool (!r_2)) (want_none) rfl (q_not rfl) ?_
  refine HO.val (v := .bool (!r_2)) (want_none) rfl (q_move rfl) ?_
  rcases Bool.eq_false_or_eq_true (!r_2) with c_1 | c_1
  · replace hM := hM.1 c_1
    refine HO.val (v := .pointer none) (want_by rfl rfl c_1) rfl (q_move rfl) ?_
    refine HO.val (v := .string (bs key)) (want_by rfl rfl c_1) rfl (q_move rfl) ?_
    refine HO.call (want_by rfl rfl c_1) rfl (ec en_13 rfl rfl) (clock_Clock_Cut_string_nil0_walk (fr := (fr)) key hS hM) ?_
    rintro _ h_4 ⟨F_4, r_3, rfl, hk, hS, hM⟩
    replace hK := hK.trans hk
    refine HO.val (v := .bool (!r_3)) (want_by rfl rfl c_1) rfl (q_not rfl) ?_
    refine HO.val (v := .bool (!r_3)) (want_none) rfl (q_pickK true rfl c_1 rfl) ?_
    refine HO.val (v := .bool (!r_3)) (want_none) rfl (q_move rfl) ?_
    rcases Bool.eq_false_or_eq_true (!r_3) with c_2 | c_2
    · replace hM := hM.1 c_2
      refine HO.val (v := .bool r1_1) (want_by rfl rfl c_2) rfl (q_move rfl) ?_
      refine HO.val (v := .bool (!r1_1)) (want_by rfl rfl c_2) rfl (q_not rfl) ?_
      refine HO.val (v := .bool (!r1_1)) (want_none) rfl (q_pickK true rfl c_2 rfl) ?_
      refine HO.val (v := .bool (!r1_1)) (want_none) rfl (q_move rfl) ?_
      rcases Bool.eq_false_or_eq_true (!r1_1) with c_3 | c_3
      · replace hM := hM.1 c_3
        refine HO.val (v := .string (bs r0_2)) (want_by rfl rfl c_3) rfl (q_move rfl) ?_
        refine HO.val (v := .bool (decide ((r0_2 : Str) = []))) (want_by rfl rfl c_3) rfl (q_eqlT rfl rfl) ?_
        refine HO.val (v := .bool (decide ((r0_2 : Str) = []))) (want_none) rfl (q_pickK true rfl c_3 rfl) ?_
        refine HO.val (v := .bool (decide ((r0_2 : Str) = []))) (want_none) rfl (q_move rfl) ?_
        rcases Bool.eq_false_or_eq_true (decide ((r0_2 : Str) = [])) with c_4 | c_4
        · replace hM := hM.1 (of_decide_eq_true c_4)
          refine HO.val (v := .int .i64 r1_2) (want_by rfl rfl c_4) rfl (q_move rfl) ?_
          refine HO.val (v := .bool (decide (r1_2 = 0))) (want_by rfl rfl c_4) rfl (q_eql rfl rfl) ?_
          refine HO.val (v := .bool (decide (r1_2 = 0))) (want_none) rfl (q_pickK true rfl c_4 rfl) ?_
          refine HO.val (v := .bool (decide (r1_2 = 0))) (want_none) rfl (q_move rfl) ?_
          rcases Bool.eq_false_or_eq_true (decide (r1_2 = 0)) with c_5 | c_5
          · replace hM := hM.1 (of_decide_eq_true c_5)
            refine HO.val (v := .bool r2_1) (want_by rfl rfl c_5) rfl (q_move rfl) ?_
            refine HO.val (v := .bool (!r2_1)) (want_by rfl rfl c_5) rfl (q_not rfl) ?_
            refine HO.val (v := .bool (!r2_1)) (want_none) rfl (q_pickK true rfl c_5 rfl) ?_
            refine HO.val (v := .bool (!r2_1)) (want_none) rfl (q_move rfl) ?_
            rcases Bool.eq_false_or_eq_true (!r2_1) with c_6 | c_6
            · replace hM := hM.1 c_6
              refine HO.val (v := .pointer none) (want_by rfl rfl c_6) rfl (q_move rfl) ?_
              refine HO.val (v := .int .i64 at1) (want_by rfl rfl c_6) rfl (q_move rfl) ?_
              refine HO.call (want_by rfl rfl c_6) rfl (ec en_18 rfl rfl) (clock_Clock_Due_string_nil0_walk (fr := (fr)) at1 hS hM) ?_
              rintro vr_1 h_5 ⟨F_5, r_4, _, rfl, hk, hS, hM⟩
              replace hK := hK.trans hk
              refine HO.val (v := .int .i64 (r_4.length : Int)) (want_by rfl rfl c_6) rfl (q_len ts_36 (shp (hS.own 0 rfl).slice) rfl rfl) ?_
              refine HO.val (v := .bool (decide ((r_4.length : Int) = 0))) (want_by rfl rfl c_6) rfl (q_eql rfl rfl) ?_
              refine HO.val (v := .bool (decide ((r_4.length : Int) = 0))) (want_none) rfl (q_pickK true rfl c_6 rfl) ?_
              refine HO.val (v := .bool (decide ((r_4.length : Int) = 0))) (want_none) rfl (q_move rfl) ?_
              rcases Bool.eq_false_or_eq_true (decide ((r_4.length : Int) = 0)) with c_7 | c_7
              · replace hM := hM.1 (of_decide_eq_true c_7)
                refine HO.val (v := .pointer none) (want_by rfl rfl c_7) rfl (q_move rfl) ?_
                refine HO.val (v := .int .i64 at1) (want_by rfl rfl c_7) rfl (q_move rfl) ?_
                refine HO.call (want_by rfl rfl c_7) rfl (ec en_16 rfl rfl) (clock_Clock_Pop_string_nil0_walk (fr := (Ow.own 9 1 encT vr_1 r_4 :: fr)) at1 hS hM) ?_
                rintro vr_2 h_6 ⟨F_6, r_5, _, rfl, hk, hS, hM⟩
                replace hK := hK.trans hk
                refine HO.val (v := .int .i64 (r_5.length : Int)) (want_by rfl rfl c_7) rfl (q_len ts_36 (shp (hS.own 0 rfl).slice) rfl rfl) ?_
                refine HO.val (v := .bool (decide ((r_5.length : Int) = 0))) (want_by rfl rfl c_7) rfl (q_eql rfl rfl) ?_
                refine HO.val (v := .bool (decide ((r_5.length : Int) = 0))) (want_none) rfl (q_pickK true rfl c_7 rfl) ?_
                refine HO.val (v := .bool (decide ((r_5.length : Int) = 0))) (want_none) rfl (q_move rfl) ?_
                rcases Bool.eq_false_or_eq_true (decide ((r_5.length : Int) = 0)) with c_8 | c_8
                · replace hM := hM.1 (of_decide_eq_true c_8)
                  refine HO.val (v := .pointer none) (want_by rfl rfl c_8) rfl (q_move rfl) ?_
                  refine HO.call (want_by rfl rfl c_8) rfl (ec en_24 rfl rfl) (clock_Clock_Keys_string_nil0_walk (fr := (Ow.own 9 1 encT vr_2 r_5 :: Ow.own 9 1 encT vr_1 r_4 :: fr))  hS hM) ?_
                  rintro vr_3 h_7 ⟨F_7, r_6, _, rfl, hk, hS, hM⟩
                  replace hK := hK.trans hk
                  refine HO.val (v := .int .i64 (r_6.length : Int)) (want_by rfl rfl c_8) rfl (q_len ts_36 (shp (hS.own 0 rfl).slice) rfl rfl) ?_
                  refine HO.val (v := .bool (decide ((r_6.length : Int) = 0))) (want_by rfl rfl c_8) rfl (q_eql rfl rfl) ?_
                  refine HO.val (v := .bool (decide ((r_6.length : Int) = 0))) (want_none) rfl (q_pickK true rfl c_8 rfl) ?_
                  refine HO.val (v := .bool (decide ((r_6.length : Int) = 0))) (want_none) rfl (q_move rfl) ?_
                  rcases Bool.eq_false_or_eq_true (decide ((r_6.length : Int) = 0)) with c_9 | c_9
                  · replace hM := hM.1 (of_decide_eq_true c_9)
                    refine HO.val (v := .pointer none) (want_by rfl rfl c_9) rfl (q_move rfl) ?_
                    refine HO.call (want_by rfl rfl c_9) rfl (ec en_25 rfl rfl) (clock_Clock_Len_string_nil0_walk (fr := (Ow.own 9 1 encT vr_3 r_6 :: Ow.own 9 1 encT vr_2 r_5 :: Ow.own 9 1 encT vr_1 r_4 :: fr))  hS hM) ?_
                    rintro _ h_8 ⟨F_8, r_7, rfl, hk, hS, hM⟩
                    replace hK := hK.trans hk
                    refine HO.val (v := .bool (decide (r_7 = 0))) (want_by rfl rfl c_9) rfl (q_eql rfl rfl) ?_
                    refine HO.val (v := .bool (decide (r_7 = 0))) (want_none) rfl (q_pickK true rfl c_9 rfl) ?_
                    refine HO.val (v := .bool (decide (r_7 = 0))) (want_none) rfl (q_move rfl) ?_
                    rcases Bool.eq_false_or_eq_true (decide (r_7 = 0)) with c_10 | c_10
                    · replace hM := hM.1 (of_decide_eq_true c_10)
                      refine HO.val (v := .pointer none) (want_by rfl rfl c_10) rfl (q_move rfl) ?_
                      refine HO.call (want_by rfl rfl c_10) rfl (ec en_21 rfl rfl) (clock_Clock_Copy_string_nil0_walk (fr := (Ow.own 9 1 encT vr_3 r_6 :: Ow.own 9 1 encT vr_2 r_5 :: Ow.own 9 1 encT vr_1 r_4 :: fr))  hS hM) ?_
                      rintro _ h_9 ⟨F_9, b_1, r_8, rfl, hk, hS, hM⟩
                      replace hK := hK.trans hk
                      have hZ_1 := hS
                      have hkz_1 := (hS.freeze).2
                      replace hS := hS.freeze.1
                      have hL_1 := hZ_1.lent
                      have hZ_2 := hS
                      have hkz_2 := (hS.freeze).2
                      replace hS := hS.freeze.1
                      have hL_2 := hZ_2.lent
                      refine HO.call (want_by rfl rfl c_10) rfl (ec en_25 rfl rfl) (clock_Clock_Len_string_walk (fr := (Ow.own 9 1 encT vr_3 r_6 :: Ow.own 9 1 encT vr_2 r_5 :: Ow.own 9 1 encT vr_1 r_4 :: fr)) [] b_1 r_8 hS hL_2 (hL_1.kp hkz_2) hM) ?_
                      rintro _ h_10 ⟨F_10, r_9, rfl, hk, hS, _, _, hM⟩
                      obtain ⟨hS, hk⟩ := hZ_2.back hk hS
                      obtain ⟨hS, hk⟩ := hZ_1.back hk hS
                      generalize (fun b => (fun b => F_10 b ∧ ¬ (Ow.map r_8 kT kI ([] : List (Str × Int))).foot b) b ∧ ¬ (Ow.box b_1 78 #[.map (some r_8)]).foot b) = F_11 at hS hk
                      replace hK := hK.trans hk
                      refine HO.val (v := .bool (decide (r_9 = 0))) (want_by rfl rfl c_10) rfl (q_eql rfl rfl) ?_
                      refine HO.val (v := .bool (decide (r_9 = 0))) (want_none) rfl (q_pickK true rfl c_10 rfl) ?_
                      refine HO.val (v := .bool (decide (r_9 = 0))) (want_none) rfl (q_move rfl) ?_
                      rcases Bool.eq_false_or_eq_true (decide (r_9 = 0)) with c_11 | c_11
                      · replace hM := hM.1 (of_decide_eq_true c_11)
                        refine HO.call (want_by rfl rfl c_11) rfl (ec en_20 rfl rfl) (law12_lives_walk (fr := (Ow.box b_1 78 #[.map (some r_8)] :: Ow.map r_8 kT kI ([] : List (Str × Int)) :: Ow.own 9 1 encT vr_3 r_6 :: Ow.own 9 1 encT vr_2 r_5 :: Ow.own 9 1 encT vr_1 r_4 :: fr))  hS hM) ?_
                        rintro _ h_11 ⟨F_12, r_10, rfl, hk, hS, hM⟩
                        replace hK := hK.trans hk
                        refine HO.val (v := .bool r_10) (want_none) rfl (q_pickK true rfl c_11 rfl) ?_
                        refine HO.val (v := .bool r_10) (want_none) rfl (q_assign rfl) ?_
                        refine HO.nil (thenQ_normal (?_))
                        refine HW.ret (?_)
                        refine ⟨.inr rfl, .bool r_10, res1 rfl (rt rfl), ?_⟩
                        replace hS : St F_12 (fr) h_11 := hS.perm2 [] 5 rfl rfl
                        exact ⟨F_12, r_10, rfl, hK, hS, hM⟩
                      · replace hM := hM.2 (of_decide_eq_false c_11)
                        refine HO.past (past_by rfl rfl c_11) rfl ?_
                        refine HO.val (v := .bool false) (want_none) rfl (q_pickK false rfl c_11 rfl) ?_
                        refine HO.val (v := .bool false) (want_none) rfl (q_assign rfl) ?_
                        refine HO.nil (thenQ_normal (?_))
                        refine HW.ret (?_)
                        refine ⟨.inr rfl, .bool false, res1 rfl (rt rfl), ?_⟩
                        replace hS : St F_11 (fr) h_10 := hS.perm2 [] 5 rfl rfl
                        exact ⟨F_11, false, rfl, hK, hS, hM⟩
                    · replace hM := hM.2 (of_decide_eq_false c_10)
                      refine HO.past (past_by rfl rfl c_10) rfl ?_
                      refine HO.past (past_by rfl rfl c_10) rfl ?_
                      refine HO.past (past_by rfl rfl c_10) rfl ?_
                      refine HO.past (past_by rfl rfl c_10) rfl ?_
                      refine HO.val (v := .bool false) (want_none) rfl (q_pickK false rfl c_10 rfl) ?_
                      refine HO.val (v := .bool false) (want_none) rfl (q_move rfl) ?_
                      refine HO.past (past_some rfl rfl) rfl ?_
                      refine HO.val (v := .bool false) (want_none) rfl (q_pick rfl rfl) ?_
                      refine HO.val (v := .bool false) (want_none) rfl (q_assign rfl) ?_
                      refine HO.nil (thenQ_normal (?_))
                      refine HW.ret (?_)
                      refine ⟨.inr rfl, .bool false, res1 rfl (rt rfl), ?_⟩
                      replace hS : St F_8 (fr) h_8 := hS.perm2 [] 3 rfl rfl
                      exact ⟨F_8, false, rfl, hK, hS, hM⟩
                  · replace hM := hM.2 (of_decide_eq_false c_9)
                    refine HO.past (past_by rfl rfl c_9) rfl ?_
                    refine HO.past (past_by rfl rfl c_9) rfl ?_
                    refine HO.past (past_by rfl rfl c_9) rfl ?_
                    refine HO.val (v := .bool false) (want_none) rfl (q_pickK false rfl c_9 rfl) ?_
                    refine HO.val (v := .bool false) (want_none) rfl (q_move rfl) ?_
                    refine HO.past (past_some rfl rfl) rfl ?_
                    refine HO.past (past_some rfl rfl) rfl ?_
                    refine HO.past (past_some rfl rfl) rfl ?_
                    refine HO.past (past_some rfl rfl) rfl ?_
                    refine HO.val (v := .bool false) (want_none) rfl (q_pick rfl rfl) ?_
                    refine HO.val (v := .bool false) (want_none) rfl (q_move rfl) ?_
                    refine HO.past (past_some rfl rfl) rfl ?_
                    refine HO.val (v := .bool false) (want_none) rfl (q_pick rfl rfl) ?_
                    refine HO.val (v := .bool false) (want_none) rfl (q_assign rfl) ?_
                    refine HO.nil (thenQ_normal (?_))
                    refine HW.ret (?_)
                    refine ⟨.inr rfl, .bool false, res1 rfl (rt rfl), ?_⟩
                    replace hS : St F_7 (fr) h_7 := hS.perm2 [] 3 rfl rfl
                    exact ⟨F_7, false, rfl, hK, hS, hM⟩
                · replace hM := hM.2 (of_decide_eq_false c_8)
                  refine HO.past (past_by rfl rfl c_8) rfl ?_
                  refine HO.past (past_by rfl rfl c_8) rfl ?_
                  refine HO.past (past_by rfl rfl c_8) rfl ?_
                  refine HO.past (past_by rfl rfl c_8) rfl ?_
                  refine HO.val (v := .bool false) (want_none) rfl (q_pickK false rfl c_8 rfl) ?_
                  refine HO.val (v := .bool false) (want_none) rfl (q_move rfl) ?_
                  refine HO.past (past_some rfl rfl) rfl ?_
                  refine HO.past (past_some rfl rfl) rfl ?_
                  refine HO.past (past_some rfl rfl) rfl ?_
                  refine HO.val (v := .bool false) (want_none) rfl (q_pick rfl rfl) ?_
                  refine HO.val (v := .bool false) (want_none) rfl (q_move rfl) ?_
                  refine HO.past (past_some rfl rfl) rfl ?_
                  refine HO.past (past_some rfl rfl) rfl ?_
                  refine HO.past (past_some rfl rfl) rfl ?_
                  refine HO.past (past_some rfl rfl) rfl ?_
                  refine HO.val (v := .bool false) (want_none) rfl (q_pick rfl rfl) ?_
                  refine HO.val (v := .bool false) (want_none) rfl (q_move rfl) ?_
                  refine HO.past (past_some rfl rfl) rfl ?_
                  refine HO.val (v := .bool false) (want_none) rfl (q_pick rfl rfl) ?_
                  refine HO.val (v := .bool false) (want_none) rfl (q_assign rfl) ?_
                  refine HO.nil (thenQ_normal (?_))
                  refine HW.ret (?_)
                  refine ⟨.inr rfl, .bool false, res1 rfl (rt rfl), ?_⟩
                  replace hS : St F_6 (fr) h_6 := hS.perm2 [] 2 rfl rfl
                  exact ⟨F_6, false, rfl, hK, hS, hM⟩
              · replace hM := hM.2 (of_decide_eq_false c_7)
                refine HO.past (past_by rfl rfl c_7) rfl ?_
                refine HO.past (past_by rfl rfl c_7) rfl ?_
                refine HO.past (past_by rfl rfl c_7) rfl ?_
                refine HO.past (past_by rfl rfl c_7) rfl ?_
                refine HO.past (past_by rfl rfl c_7) rfl ?_
                refine HO.val (v := .bool false) (want_none) rfl (q_pickK false rfl c_7 rfl) ?_
                refine HO.val (v := .bool false) (want_none) rfl (q_move rfl) ?_
                refine HO.past (past_some rfl rfl) rfl ?_
                refine HO.past (past_some rfl rfl) rfl ?_
                refine HO.past (past_some rfl rfl) rfl ?_
                refine HO.past (past_some rfl rfl) rfl ?_
                refine HO.val (v := .bool false) (want_none) rfl (q_pick rfl rfl) ?_
                refine HO.val (v := .bool false) (want_none) rfl (q_move rfl) ?_
                refine HO.past (past_some rfl rfl) rfl ?_
                refine HO.past (past_some rfl rfl) rfl ?_
                refine HO.past (past_some rfl rfl) rfl ?_
                refine HO.val (v := .bool false) (want_none) rfl (q_pick rfl rfl) ?_
                refine HO.val (v := .bool false) (want_none) rfl (q_move rfl) ?_
                refine HO.past (past_some rfl rfl) rfl ?_
                refine HO.past (past_some rfl rfl) rfl ?_
                refine HO.past (past_some rfl rfl) rfl ?_
                refine HO.past (past_some rfl rfl) rfl ?_
                refine HO.val (v := .bool false) (want_none) rfl (q_pick rfl rfl) ?_
                refine HO.val (v := .bool false) (want_none) rfl (q_move rfl) ?_
                refine HO.past (past_some rfl rfl) rfl ?_
                refine HO.val (v := .bool false) (want_none) rfl (q_pick rfl rfl) ?_
                refine HO.val (v := .bool false) (want_none) rfl (q_assign rfl) ?_
                refine HO.nil (thenQ_normal (?_))
                refine HW.ret (?_)
                refine ⟨.inr rfl, .bool false, res1 rfl (rt rfl), ?_⟩
                replace hS : St F_5 (fr) h_5 := hS.perm2 [] 1 rfl rfl
                exact ⟨F_5, false, rfl, hK, hS, hM⟩
            · replace hM := hM.2 c_6
              refine HO.past (past_by rfl rfl c_6) rfl ?_
              refine HO.past (past_by rfl rfl c_6) rfl ?_
              refine HO.past (past_by rfl rfl c_6) rfl ?_
              refine HO.past (past_by rfl rfl c_6) rfl ?_
              refine HO.past (past_by rfl rfl c_6) rfl ?_
              refine HO.val (v := .bool false) (want_none) rfl (q_pickK false rfl c_6 rfl) ?_
              refine HO.val (v := .bool false) (want_none) rfl (q_move rfl) ?_
              refine HO.past (past_some rfl rfl) rfl ?_
              refine HO.past (past_some rfl rfl) rfl ?_
              refine HO.past (past_some rfl rfl) rfl ?_
              refine HO.past (past_some rfl rfl) rfl ?_
              refine HO.past (past_some rfl rfl) rfl ?_
              refine HO.val (v := .bool false) (want_none) rfl (q_pick rfl rfl) ?_
              refine HO.val (v := .bool false) (want_none) rfl (q_move rfl) ?_
              refine HO.past (past_some rfl rfl) rfl ?_
              refine HO.past (past_some rfl rfl) rfl ?_
              refine HO.past (past_some rfl rfl) rfl ?_
              refine HO.past (past_some rfl rfl) rfl ?_
              refine HO.val (v := .bool false) (want_none) rfl (q_pick rfl rfl) ?_
              refine HO.val (v := .bool false) (want_none) rfl (q_move rfl) ?_
              refine HO.past (past_some rfl rfl) rfl ?_
              refine HO.past (past_some rfl rfl) rfl ?_
              refine HO.past (past_some rfl rfl) rfl ?_
              refine HO.val (v := .bool false) (want_none) rfl (q_pick rfl rfl) ?_
              refine HO.val (v := .bool false) (want_none) rfl (q_move rfl) ?_
              refine HO.past (past_some rfl rfl) rfl ?_
              refine HO.past (past_some rfl rfl) rfl ?_
              refine HO.past (past_some rfl rfl) rfl ?_
              refine HO.past (past_some rfl rfl) rfl ?_
              refine HO.val (v := .bool false) (want_none) rfl (q_pick rfl rfl) ?_
              refine HO.val (v := .bool false) (want_none) rfl (q_move rfl) ?_
              refine HO.past (past_some rfl rfl) rfl ?_
              refine HO.val (v := .bool false) (want_none) rfl (q_pick rfl rfl) ?_
              refine HO.val (v := .bool false) (want_none) rfl (q_assign rfl) ?_
              refine HO.nil (thenQ_normal (?_))
              refine HW.ret (?_)
              refine ⟨.inr rfl, .bool false, res1 rfl (rt rfl), ?_⟩
              exact ⟨F_4, false, rfl, hK, hS, hM⟩
          · replace hM := hM.2 (of_decide_eq_false c_5)
            refine HO.past (past_by rfl rfl c_5) rfl ?_
            refine HO.past (past_by rfl rfl c_5) rfl ?_
            refine HO.val (v := .bool false) (want_none) rfl (q_pickK false rfl c_5 rfl) ?_
            refine HO.val (v := .bool false) (want_none) rfl (q_move rfl) ?_
            refine HO.past (past_some rfl rfl) rfl ?_
            refine HO.past (past_some rfl rfl) rfl ?_
            refine HO.past (past_some rfl rfl) rfl ?_
            refine HO.past (past_some rfl rfl) rfl ?_
            refine HO.past (past_some rfl rfl) rfl ?_
            refine HO.val (v := .bool false) (want_none) rfl (q_pick rfl rfl) ?_
            refine HO.val (v := .bool false) (want_none) rfl (q_move rfl) ?_
            refine HO.past (past_some rfl rfl) rfl ?_
            refine HO.past (past_some rfl rfl) rfl ?_
            refine HO.past (past_some rfl rfl) rfl ?_
            refine HO.past (past_some rfl rfl) rfl ?_
            refine HO.past (past_some rfl rfl) rfl ?_
            refine HO.val (v := .bool false) (want_none) rfl (q_pick rfl rfl) ?_
            refine HO.val (v := .bool false) (want_none) rfl (q_move rfl) ?_
            refine HO.past (past_some rfl rfl) rfl ?_
            refine HO.past (past_some rfl rfl) rfl ?_
            refine HO.past (past_some rfl rfl) rfl ?_
            refine HO.past (past_some rfl rfl) rfl ?_
            refine HO.val (v := .bool false) (want_none) rfl (q_pick rfl rfl) ?_
            refine HO.val (v := .bool false) (want_none) rfl (q_move rfl) ?_
            refine HO.past (past_some rfl rfl) rfl ?_
            refine HO.past (past_some rfl rfl) rfl ?_
            refine HO.past (past_some rfl rfl) rfl ?_
            refine HO.val (v := .bool false) (want_none) rfl (q_pick rfl rfl) ?_
            refine HO.val (v := .bool false) (want_none) rfl (q_move rfl) ?_
            refine HO.past (past_some rfl rfl) rfl ?_
            refine HO.past (past_some rfl rfl) rfl ?_
            refine HO.past (past_some rfl rfl) rfl ?_
            refine HO.past (past_some rfl rfl) rfl ?_
            refine HO.val (v := .bool false) (want_none) rfl (q_pick rfl rfl) ?_
            refine HO.val (v := .bool false) (want_none) rfl (q_move rfl) ?_
            refine HO.past (past_some rfl rfl) rfl ?_
            refine HO.val (v := .bool false) (want_none) rfl (q_pick rfl rfl) ?_
            refine HO.val (v := .bool false) (want_none) rfl (q_assign rfl) ?_
            refine HO.nil (thenQ_normal (?_))
            refine HW.ret (?_)
            refine ⟨.inr rfl, .bool false, res1 rfl (rt rfl), ?_⟩
            exact ⟨F_4, false, rfl, hK, hS, hM⟩
        · replace hM := hM.2 (of_decide_eq_false c_4)
          refine HO.past (past_by rfl rfl c_4) rfl ?_
          refine HO.past (past_by rfl rfl c_4) rfl ?_
          refine HO.val (v := .bool false) (want_none) rfl (q_pickK false rfl c_4 rfl) ?_
          refine HO.val (v := .bool false) (want_none) rfl (q_move rfl) ?_
          refine HO.past (past_some rfl rfl) rfl ?_
          refine HO.past (past_some rfl rfl) rfl ?_
          refine HO.val (v := .bool false) (want_none) rfl (q_pick rfl rfl) ?_
          refine HO.val (v := .bool false) (want_none) rfl (q_move rfl) ?_
          refine HO.past (past_some rfl rfl) rfl ?_
          refine HO.past (past_some rfl rfl) rfl ?_
          refine HO.past (past_some rfl rfl) rfl ?_
          refine HO.past (past_some rfl rfl) rfl ?_
          refine HO.past (past_some rfl rfl) rfl ?_
          refine HO.val (v := .bool false) (want_none) rfl (q_pick rfl rfl) ?_
          refine HO.val (v := .bool false) (want_none) rfl (q_move rfl) ?_
          refine HO.past (past_some rfl rfl) rfl ?_
          refine HO.past (past_some rfl rfl) rfl ?_
          refine HO.past (past_some rfl rfl) rfl ?_
          refine HO.past (past_some rfl rfl) rfl ?_
          refine HO.past (past_some rfl rfl) rfl ?_
          refine HO.val (v := .bool false) (want_none) rfl (q_pick rfl rfl) ?_
          refine HO.val (v := .bool false) (want_none) rfl (q_move rfl) ?_
          refine HO.past (past_some rfl rfl) rfl ?_
          refine HO.past (past_some rfl rfl) rfl ?_
          refine HO.past (past_some rfl rfl) rfl ?_
          refine HO.past (past_some rfl rfl) rfl ?_
          refine HO.val (v := .bool false) (want_none) rfl (q_pick rfl rfl) ?_
          refine HO.val (v := .bool false) (want_none) rfl (q_move rfl) ?_
          refine HO.past (past_some rfl rfl) rfl ?_
          refine HO.past (past_some rfl rfl) rfl ?_
          refine HO.past (past_some rfl rfl) rfl ?_
          refine HO.val (v := .bool false) (want_none) rfl (q_pick rfl rfl) ?_
          refine HO.val (v := .bool false) (want_none) rfl (q_move rfl) ?_
          refine HO.past (past_some rfl rfl) rfl ?_
          refine HO.past (past_some rfl rfl) rfl ?_
          refine HO.past (past_some rfl rfl) rfl ?_
          refine HO.past (past_some rfl rfl) rfl ?_
          refine HO.val (v := .bool false) (want_none) rfl (q_pick rfl rfl) ?_
          refine HO.val (v := .bool false) (want_none) rfl (q_move rfl) ?_
          refine HO.past (past_some rfl rfl) rfl ?_
          refine HO.val (v := .bool false) (want_none) rfl (q_pick rfl rfl) ?_
          refine HO.val (v := .bool false) (want_none) rfl (q_assign rfl) ?_
          refine HO.nil (thenQ_normal (?_))
          refine HW.ret (?_)
          refine ⟨.inr rfl, .bool false, res1 rfl (rt rfl), ?_⟩
          exact ⟨F_4, false, rfl, hK, hS, hM⟩
      · replace hM := hM.2 c_3
        refine HO.past (past_by rfl rfl c_3) rfl ?_
        refine HO.past (past_by rfl rfl c_3) rfl ?_
        refine HO.val (v := .bool false) (want_none) rfl (q_pickK false rfl c_3 rfl) ?_
        refine HO.val (v := .bool false) (want_none) rfl (q_move rfl) ?_
        refine HO.past (past_some rfl rfl) rfl ?_
        refine HO.past (past_some rfl rfl) rfl ?_
        refine HO.val (v := .bool false) (want_none) rfl (q_pick rfl rfl) ?_
        refine HO.val (v := .bool false) (want_none) rfl (q_move rfl) ?_
        refine HO.past (past_some rfl rfl) rfl ?_
        refine HO.past (past_some rfl rfl) rfl ?_
        refine HO.val (v := .bool false) (want_none) rfl (q_pick rfl rfl) ?_
        refine HO.val (v := .bool false) (want_none) rfl (q_move rfl) ?_
        refine HO.past (past_some rfl rfl) rfl ?_
        refine HO.past (past_some rfl rfl) rfl ?_
        refine HO.past (past_some rfl rfl) rfl ?_
        refine HO.past (past_some rfl rfl) rfl ?_
        refine HO.past (past_some rfl rfl) rfl ?_
        refine HO.val (v := .bool false) (want_none) rfl (q_pick rfl rfl) ?_
        refine HO.val (v := .bool false) (want_none) rfl (q_move rfl) ?_
        refine HO.past (past_some rfl rfl) rfl ?_
        refine HO.past (past_some rfl rfl) rfl ?_
        refine HO.past (past_some rfl rfl) rfl ?_
        refine HO.past (past_some rfl rfl) rfl ?_
        refine HO.past (past_some rfl rfl) rfl ?_
        refine HO.val (v := .bool false) (want_none) rfl (q_pick rfl rfl) ?_
        refine HO.val (v := .bool false) (want_none) rfl (q_move rfl) ?_
        refine HO.past (past_some rfl rfl) rfl ?_
        refine HO.past (past_some rfl rfl) rfl ?_
        refine HO.past (past_some rfl rfl) rfl ?_
        refine HO.past (past_some rfl rfl) rfl ?_
        refine HO.val (v := .bool false) (want_none) rfl (q_pick rfl rfl) ?_
        refine HO.val (v := .bool false) (want_none) rfl (q_move rfl) ?_
        refine HO.past (past_some rfl rfl) rfl ?_
        refine HO.past (past_some rfl rfl) rfl ?_
        refine HO.past (past_some rfl rfl) rfl ?_
        refine HO.val (v := .bool false) (want_none) rfl (q_pick rfl rfl) ?_
        refine HO.val (v := .bool false) (want_none) rfl (q_move rfl) ?_
        refine HO.past (past_some rfl rfl) rfl ?_
        refine HO.past (past_some rfl rfl) rfl ?_
        refine HO.past (past_some rfl rfl) rfl ?_
        refine HO.past (past_some rfl rfl) rfl ?_
        refine HO.val (v := .bool false) (want_none) rfl (q_pick rfl rfl) ?_
        refine HO.val (v := .bool false) (want_none) rfl (q_move rfl) ?_
        refine HO.past (past_some rfl rfl) rfl ?_
        refine HO.val (v := .bool false) (want_none) rfl (q_pick rfl rfl) ?_
        refine HO.val (v := .bool false) (want_none) rfl (q_assign rfl) ?_
        refine HO.nil (thenQ_normal (?_))
        refine HW.ret (?_)
        refine ⟨.inr rfl, .bool false, res1 rfl (rt rfl), ?_⟩
        exact ⟨F_4, false, rfl, hK, hS, hM⟩
    · replace hM := hM.2 c_2
      refine HO.past (past_by rfl rfl c_2) rfl ?_
      refine HO.past (past_by rfl rfl c_2) rfl ?_
      refine HO.val (v := .bool false) (want_none) rfl (q_pickK false rfl c_2 rfl) ?_
      refine HO.val (v := .bool false) (want_none) rfl (q_move rfl) ?_
      refine HO.past (past_some rfl rfl) rfl ?_
      refine HO.past (past_some rfl rfl) rfl ?_
      refine HO.val (v := .bool false) (want_none) rfl (q_pick rfl rfl) ?_
      refine HO.val (v := .bool false) (want_none) rfl (q_move rfl) ?_
      refine HO.past (past_some rfl rfl) rfl ?_
      refine HO.past (past_some rfl rfl) rfl ?_
      refine HO.val (v := .bool false) (want_none) rfl (q_pick rfl rfl) ?_
      refine HO.val (v := .bool false) (want_none) rfl (q_move rfl) ?_
      refine HO.past (past_some rfl rfl) rfl ?_
      refine HO.past (past_some rfl rfl) rfl ?_
      refine HO.val (v := .bool false) (want_none) rfl (q_pick rfl rfl) ?_
      refine HO.val (v := .bool false) (want_none) rfl (q_move rfl) ?_
      refine HO.past (past_some rfl rfl) rfl ?_
      refine HO.past (past_some rfl rfl) rfl ?_
      refine HO.past (past_some rfl rfl) rfl ?_
      refine HO.past (past_some rfl rfl) rfl ?_
      refine HO.past (past_some rfl rfl) rfl ?_
      refine HO.val (v := .bool false) (want_none) rfl (q_pick rfl rfl) ?_
      refine HO.val (v := .bool false) (want_none) rfl (q_move rfl) ?_
      refine HO.past (past_some rfl rfl) rfl ?_
      refine HO.past (past_some rfl rfl) rfl ?_
      refine HO.past (past_some rfl rfl) rfl ?_
      refine HO.past (past_some rfl rfl) rfl ?_
      refine HO.past (past_some rfl rfl) rfl ?_
      refine HO.val (v := .bool false) (want_none) rfl (q_pick rfl rfl) ?_
      refine HO.val (v := .bool false) (want_none) rfl (q_move rfl) ?_
      refine HO.past (past_some rfl rfl) rfl ?_
      refine HO.past (past_some rfl rfl) rfl ?_
      refine HO.past (past_some rfl rfl) rfl ?_
      refine HO.past (past_some rfl rfl) rfl ?_
      refine HO.val (v := .bool false) (want_none) rfl (q_pick rfl rfl) ?_
      refine HO.val (v := .bool false) (want_none) rfl (q_move rfl) ?_
      refine HO.past (past_some rfl rfl) rfl ?_
      refine HO.past (past_some rfl rfl) rfl ?_
      refine HO.past (past_some rfl rfl) rfl ?_
      refine HO.val (v := .bool false) (want_none) rfl (q_pick rfl rfl) ?_
      refine HO.val (v := .bool false) (want_none) rfl (q_move rfl) ?_
      refine HO.past (past_some rfl rfl) rfl ?_
      refine HO.past (past_some rfl rfl) rfl ?_
      refine HO.past (past_some rfl rfl) rfl ?_
      refine HO.past (past_some rfl rfl) rfl ?_
      refine HO.val (v := .bool false) (want_none) rfl (q_pick rfl rfl) ?_
      refine HO.val (v := .bool false) (want_none) rfl (q_move rfl) ?_
      refine HO.past (past_some rfl rfl) rfl ?_
      refine HO.val (v := .bool false) (want_none) rfl (q_pick rfl rfl) ?_
      refine HO.val (v := .bool false) (want_none) rfl (q_assign rfl) ?_
      refine HO.nil (thenQ_normal (?_))
      refine HW.ret (?_)
      refine ⟨.inr rfl, .bool false, res1 rfl (rt rfl), ?_⟩
      exact ⟨F_4, false, rfl, hK, hS, hM⟩
  · replace hM := hM.2 c_1
    refine HO.past (past_by rfl rfl c_1) rfl ?_
    refine HO.past (past_by rfl rfl c_1) rfl ?_
    refine HO.past (past_by rfl rfl c_1) rfl ?_
    refine HO.past (past_by rfl rfl c_1) rfl ?_
    refine HO.val (v := .bool false) (want_none) rfl (q_pickK false rfl c_1 rfl) ?_
    refine HO.val (v := .bool false) (want_none) rfl (q_move rfl) ?_
    refine HO.past (past_some rfl rfl) rfl ?_
    refine HO.past (past_some rfl rfl) rfl ?_
    refine HO.val (v := .bool false) (want_none) rfl (q_pick rfl rfl) ?_
    refine HO.val (v := .bool false) (want_none) rfl (q_move rfl) ?_
    refine HO.past (past_some rfl rfl) rfl ?_
    refine HO.past (past_some rfl rfl) rfl ?_
    refine HO.val (v := .bool false) (want_none) rfl (q_pick rfl rfl) ?_
    refine HO.val (v := .bool false) (want_none) rfl (q_move rfl) ?_
    refine HO.past (past_some rfl rfl) rfl ?_
    refine HO.past (past_some rfl rfl) rfl ?_
    refine HO.val (v := .bool false) (want_none) rfl (q_pick rfl rfl) ?_
    refine HO.val (v := .bool false) (want_none) rfl (q_move rfl) ?_
    refine HO.past (past_some rfl rfl) rfl ?_
    refine HO.past (past_some rfl rfl) rfl ?_
    refine HO.val (v := .bool false) (want_none) rfl (q_pick rfl rfl) ?_
    refine HO.val (v := .bool false) (want_none) rfl (q_move rfl) ?_
    refine HO.past (past_some rfl rfl) rfl ?_
    refine HO.past (past_some rfl rfl) rfl ?_
    refine HO.past (past_some rfl rfl) rfl ?_
    refine HO.past (past_some rfl rfl) rfl ?_
    refine HO.past (past_some rfl rfl) rfl ?_
    refine HO.val (v := .bool false) (want_none) rfl (q_pick rfl rfl) ?_
    refine HO.val (v := .bool false) (want_none) rfl (q_move rfl) ?_
    refine HO.past (past_some rfl rfl) rfl ?_
    refine HO.past (past_some rfl rfl) rfl ?_
    refine HO.past (past_some rfl rfl) rfl ?_
    refine HO.past (past_some rfl rfl) rfl ?_
    refine HO.past (past_some rfl rfl) rfl ?_
    refine HO.val (v := .bool false) (want_none) rfl (q_pick rfl rfl) ?_
    refine HO.val (v := .bool false) (want_none) rfl (q_move rfl) ?_
    refine HO.past (past_some rfl rfl) rfl ?_
    refine HO.past (past_some rfl rfl) rfl ?_
    refine HO.past (past_some rfl rfl) rfl ?_
    refine HO.past (past_some rfl rfl) rfl ?_
    refine HO.val (v := .bool false) (want_none) rfl (q_pick rfl rfl) ?_
    refine HO.val (v := .bool false) (want_none) rfl (q_move rfl) ?_
    refine HO.past (past_some rfl rfl) rfl ?_
    refine HO.past (past_some rfl rfl) rfl ?_
    refine HO.past (past_some rfl rfl) rfl ?_
    refine HO.val (v := .bool false) (want_none) rfl (q_pick rfl rfl) ?_
    refine HO.val (v := .bool false) (want_none) rfl (q_move rfl) ?_
    refine HO.past (past_some rfl rfl) rfl ?_
    refine HO.past (past_some rfl rfl) rfl ?_
    refine HO.past (past_some rfl rfl) rfl ?_
    refine HO.past (past_some rfl rfl) rfl ?_
    refine HO.val (v := .bool false) (want_none) rfl (q_pick rfl rfl) ?_
    refine HO.val (v := .bool false) (want_none) rfl (q_move rfl) ?_
    refine HO.past (past_some rfl rfl) rfl ?_
    refine HO.val (v := .bool false) (want_none) rfl (q_pick rfl rfl) ?_
    refine HO.val (v := .bool false) (want_none) rfl (q_assign rfl) ?_
    refine HO.nil (thenQ_normal (?_))
    refine HW.ret (?_)
    refine ⟨.inr rfl, .bool false, res1 rfl (rt rfl), ?_⟩
    exact ⟨F_3, false, rfl, hK, hS, hM⟩
end Go.Wk
