/- Walks: slices.SortFunc at texts. -/
import Derived.Test.YtolmcabcmphkpaaTxt2
import Derived.Test.YtolmcabcmphkpaaProg
set_option linter.unusedSimpArgs false
set_option linter.unusedVariables false
set_option linter.unusedSectionVars false
namespace Go.Wk
open Go.HL
open Go.Proofs hiding encI
variable [DM]
theorem ts_36 : TSlice Try.prog 36 9 1 := ⟨Try.underlying36, Try.sizeOf9⟩
theorem to_9 : TOne Try.prog 9 := ⟨Try.isAgg9, Try.sizeOf9⟩
theorem mixed : Try.prog.follows .mixedOrders = true := by kernel_rfl
theorem en_100 (args : Array Value) (w : World) : (callFunc 100 args).run Try.prog w = .ok (.enter 100 args) w := by kernel_rfl
theorem en_74 (args : Array Value) (w : World) : (callFunc 74 args).run Try.prog w = .ok (.enter 74 args) w := by kernel_rfl
theorem to_130 : TOne Try.prog 130 := ⟨Try.isAgg130, Try.sizeOf130⟩
theorem tz_130 : TZero Try.prog 130 (.int .u64 0) := Try.zeroValue130
theorem en_101 (args : Array Value) (w : World) : (callFunc 101 args).run Try.prog w = .ok (.enter 101 args) w := by kernel_rfl
theorem en_102 (args : Array Value) (w : World) : (callFunc 102 args).run Try.prog w = .ok (.enter 102 args) w := by kernel_rfl
theorem to_3 : TOne Try.prog 3 := ⟨Try.isAgg3, Try.sizeOf3⟩
theorem en_109 (args : Array Value) (w : World) : (callFunc 109 args).run Try.prog w = .ok (.enter 109 args) w := by kernel_rfl
theorem en_104 (args : Array Value) (w : World) : (callFunc 104 args).run Try.prog w = .ok (.enter 104 args) w := by kernel_rfl
theorem tz_3 : TZero Try.prog 3 (.int .i64 0) := Try.zeroValue3
theorem en_103 (args : Array Value) (w : World) : (callFunc 103 args).run Try.prog w = .ok (.enter 103 args) w := by kernel_rfl
theorem en_80 (args : Array Value) (w : World) : (callFunc 80 args).run Try.prog w = .ok (.enter 80 args) w := by kernel_rfl
theorem en_81 (args : Array Value) (w : World) : (callFunc 81 args).run Try.prog w = .ok (.enter 81 args) w := by kernel_rfl
theorem en_82 (args : Array Value) (w : World) : (callFunc 82 args).run Try.prog w = .ok (.enter 82 args) w := by kernel_rfl
theorem en_83 (args : Array Value) (w : World) : (callFunc 83 args).run Try.prog w = .ok (.enter 83 args) w := by kernel_rfl
theorem en_84 (args : Array Value) (w : World) : (callFunc 84 args).run Try.prog w = .ok (.enter 84 args) w := by kernel_rfl
theorem en_85 (args : Array Value) (w : World) : (callFunc 85 args).run Try.prog w = .ok (.enter 85 args) w := by kernel_rfl
theorem en_86 (args : Array Value) (w : World) : (callFunc 86 args).run Try.prog w = .ok (.enter 86 args) w := by kernel_rfl
theorem en_87 (args : Array Value) (w : World) : (callFunc 87 args).run Try.prog w = .ok (.enter 87 args) w := by kernel_rfl
theorem en_73 (args : Array Value) (w : World) : (callFunc 73 args).run Try.prog w = .ok (.enter 73 args) w := by kernel_rfl
def slices_insertionSortCmpFunc_string_j2 (i_1 : Int) (K_1 : (List Str) → Int → Prop) (data_3 : List Str) (j_1 : Int) (K_2 : (List Str) → Int → Prop) (b_1 : Bool) : Prop :=
  (b_1 = true → (I64 (j_1 - 1)) ∧ (((0 : Int) ≤ j_1 - 1 ∧ j_1 - 1 < (data_3.length : Int)) ∧ (((0 : Int) ≤ j_1 ∧ j_1 < (data_3.length : Int)) ∧ (((0 : Int) ≤ j_1 - 1 ∧ j_1 - 1 < ((data_3.set (j_1).toNat (gi data_3 (j_1 - 1))).length : Int)) ∧ (K_2 ((data_3.set (j_1).toNat (gi data_3 (j_1 - 1))).set (j_1 - 1).toNat (gi data_3 j_1)) (j_1 - 1)))))) ∧ (b_1 = false → (I64 (i_1 + 1)) ∧ (K_1 data_3 (i_1 + 1)))
def slices_insertionSortCmpFunc_string_l2 (a : Int) (cf_cmp : Str → Str → Int) (i_1 : Int) (K_1 : (List Str) → Int → Prop) (K_2 : (List Str) → Int → Prop) (data_3 : List Str) (j_1 : Int) : Prop :=
  (a < j_1 → ((0 : Int) ≤ j_1 ∧ j_1 < (data_3.length : Int)) ∧ ((I64 (j_1 - 1)) ∧ (((0 : Int) ≤ j_1 - 1 ∧ j_1 - 1 < (data_3.length : Int)) ∧ (slices_insertionSortCmpFunc_string_j2 i_1 K_1 data_3 j_1 K_2 (decide ((cf_cmp (gi data_3 j_1) (gi data_3 (j_1 - 1))) < 0)))))) ∧ (¬ (a < j_1) → slices_insertionSortCmpFunc_string_j2 i_1 K_1 data_3 j_1 K_2 false)
def slices_insertionSortCmpFunc_string_l1 (a : Int) (b : Int) (cf_cmp : Str → Str → Int) (Q : (List Str) → Prop) (K_1 : (List Str) → Int → Prop) (data_2 : List Str) (i_1 : Int) : Prop :=
  (i_1 < b → loopW (fun (K_2 : (List Str × Int) → Prop) (s : List Str × Int) => slices_insertionSortCmpFunc_string_l2 a cf_cmp i_1 K_1 (fun data_3 j_1 => K_2 (data_3, j_1)) s.1 s.2) (data_2, i_1)) ∧ (¬ (i_1 < b) → Q data_2)
def slices_insertionSortCmpFunc_string_W (data : List Str) (a : Int) (b : Int) (cf_cmp : Str → Str → Int) (Q : (List Str) → Prop) : Prop :=
  (I64 (a + 1)) ∧ (loopW (fun (K_1 : (List Str × Int) → Prop) (s : List Str × Int) => slices_insertionSortCmpFunc_string_l1 a b cf_cmp Q (fun data_2 i_1 => K_1 (data_2, i_1)) s.1 s.2) (data, a + 1))
set_option maxHeartbeats 40000000 in
set_option maxRecDepth 100000 in
theorem slices_insertionSortCmpFunc_string_walk {F : Fz} {fr : List Ow} {h0 : Heap} (data : List Str) (a : Int) (b : Int) (cf_cmp : Str → Str → Int) (vdata : Value) (g_cmp : Nat) (fs_cmp : Array Value) (cs_cmp : Array Value) (hS : St F (Ow.own 9 1 encT vdata data :: fr) h0) (hF_cf_cmp : FnP Try.prog F h0 g_cmp fs_cmp cs_cmp (fun x : Str × Str => [.string (bs x.1), .string (bs x.2)]) (fun x => .int .i64 (cf_cmp x.1 x.2))) {Q : (List Str) → Prop} (hM : slices_insertionSortCmpFunc_string_W data a b cf_cmp Q) :
    HC Try.prog 80 #[vdata, .int .i64 a, .int .i64 b, .func (.func g_cmp) fs_cmp cs_cmp] h0 fun u h' => ∃ (F' : Fz) (data_1 : List Str), u = .tuple #[] ∧ Kp F h0 F' h' ∧ St F' (Ow.own 9 1 encT vdata data_1 :: fr) h' ∧ (FnP Try.prog F' h' g_cmp fs_cmp cs_cmp (fun x : Str × Str => [.string (bs x.1), .string (bs x.2)]) (fun x => .int .i64 (cf_cmp x.1 x.2))) ∧ Q data_1 := by
  unfold slices_insertionSortCmpFunc_string_W at hM
  have hK := Kp.refl F h0
  refine HC.of_HW (n := 53) Try.func80 rfl rfl (Nat.le_of_ble_eq_true rfl) ?_
  refine HW.seq ?_
  refine HW.region ?_
  refine HO.val (v := .int .i64 a) (want_none) rfl (q_move rfl) ?_
  obtain ⟨ho_1, hM⟩ := hM
  refine HO.val (v := .int .i64 (a + 1)) (want_none) rfl (q_addN _ rfl rfl rfl ho_1.1 ho_1.2) ?_
  refine HO.val (v := .int .i64 (a + 1)) (want_none) rfl (q_assign rfl) ?_
  refine HO.nil (thenQ_normal (?_))
  refine HW.block ?_
  obtain ⟨I_1, m_1, hI_1, hR_1⟩ := hM
  refine HW.loop (S := List Str × Int) (fun s f h => match s with | (data_2, i_1) => ∃ (F' : Fz), f 0 = vdata ∧ f 1 = .int .i64 a ∧ f 2 = .int .i64 b ∧ f 3 = .func (.func g_cmp) fs_cmp cs_cmp ∧ f 8 = .int .i64 i_1 ∧ Kp F h0 F' h ∧ St F' (Ow.own 9 1 encT vdata data_2 :: fr) h ∧ (FnP Try.prog F' h g_cmp fs_cmp cs_cmp (fun x : Str × Str => [.string (bs x.1), .string (bs x.2)]) (fun x => .int .i64 (cf_cmp x.1 x.2))) ∧ I_1 (data_2, i_1)) m_1 (data, a + 1) ⟨F, rfl, rfl, rfl, rfl, rfl, hK, hS, hF_cf_cmp, hI_1⟩ ?_
  rintro ⟨data_2, i_1⟩ f_1 h_1 ⟨F_1, e0, e1, e2, e3, e8, hK, hS, hF_cf_cmp, hI0⟩
  obtain ⟨K_1, hKe_1⟩ : ∃ K : (List Str) → Int → Prop, K = fun data_2' i_1' => I_1 (data_2', i_1') ∧ m_1 (data_2', i_1') < m_1 (data_2, i_1) := ⟨_, rfl⟩
  have hM : slices_insertionSortCmpFunc_string_l1 a b cf_cmp Q K_1 data_2 i_1 := by rw [hKe_1]; exact hR_1 (data_2, i_1) hI0
  unfold slices_insertionSortCmpFunc_string_l1 at hM
  refine HW.fr [(0, vdata), (1, .int .i64 a), (2, .int .i64 b), (3, .func (.func g_cmp) fs_cmp cs_cmp), (8, .int .i64 i_1)] ⟨e0, e1, e2, e3, e8, trivial⟩ ?_
  refine HW.seq ?_
  refine HW.seq ?_
  refine HW.region ?_
  refine HO.val (v := .int .i64 i_1) (want_none) rfl (q_move rfl) ?_
  refine HO.val (v := .int .i64 b) (want_none) rfl (q_move rfl) ?_
  refine HO.val (v := .bool (decide (i_1 < b))) (want_none) rfl (q_lss rfl rfl) ?_
  refine HO.nil (thenQ_normal (?_))
  refine HW.cond (decide (i_1 < b)) rfl (fun c_1 => ?_) (fun c_1 => ?_)
  · replace hM := hM.1 (of_decide_eq_true c_1)
    refine HW.skip (thenQ_normal (?_))
    refine HW.seq ?_
    refine HW.block ?_
    refine HW.seq ?_
    refine HW.region ?_
    refine HO.val (v := .int .i64 i_1) (want_none) rfl (q_move rfl) ?_
    refine HO.val (v := .int .i64 i_1) (want_none) rfl (q_assign rfl) ?_
    refine HO.nil (thenQ_normal (?_))
    refine HW.block ?_
    obtain ⟨I_2, m_2, hI_2, hR_2⟩ := hM
    refine HW.loop (S := List Str × Int) (fun s f h => match s with | (data_3, j_1) => ∃ (F' : Fz), f 0 = vdata ∧ f 1 = .int .i64 a ∧ f 2 = .int .i64 b ∧ f 3 = .func (.func g_cmp) fs_cmp cs_cmp ∧ f 8 = .int .i64 i_1 ∧ f 9 = .int .i64 j_1 ∧ Kp F h0 F' h ∧ St F' (Ow.own 9 1 encT vdata data_3 :: fr) h ∧ (FnP Try.prog F' h g_cmp fs_cmp cs_cmp (fun x : Str × Str => [.string (bs x.1), .string (bs x.2)]) (fun x => .int .i64 (cf_cmp x.1 x.2))) ∧ I_2 (data_3, j_1)) m_2 (data_2, i_1) ⟨F_1, rfl, rfl, rfl, rfl, rfl, rfl, hK, hS, hF_cf_cmp, hI_2⟩ ?_
    rintro ⟨data_3, j_1⟩ f_2 h_2 ⟨F_2, e0, e1, e2, e3, e8, e9, hK, hS, hF_cf_cmp, hI0⟩
    obtain ⟨K_2, hKe_2⟩ : ∃ K : (List Str) → Int → Prop, K = fun data_3' j_1' => I_2 (data_3', j_1') ∧ m_2 (data_3', j_1') < m_2 (data_3, j_1) := ⟨_, rfl⟩
    have hM : slices_insertionSortCmpFunc_string_l2 a cf_cmp i_1 K_1 K_2 data_3 j_1 := by rw [hKe_2]; exact hR_2 (data_3, j_1) hI0
    unfold slices_insertionSortCmpFunc_string_l2 at hM
    refine HW.fr [(0, vdata), (1, .int .i64 a), (2, .int .i64 b), (3, .func (.func g_cmp) fs_cmp cs_cmp), (8, .int .i64 i_1), (9, .int .i64 j_1)] ⟨e0, e1, e2, e3, e8, e9, trivial⟩ ?_
    refine HW.seq ?_
    refine HW.seq_mid (fun f h => ∃ (F' : Fz) (b_1 : Bool), f 0 = vdata ∧ f 1 = .int .i64 a ∧ f 2 = .int .i64 b ∧ f 3 = .func (.func g_cmp) fs_cmp cs_cmp ∧ f 8 = .int .i64 i_1 ∧ f 9 = .int .i64 j_1 ∧ f 34 = .bool b_1 ∧ Kp F h0 F' h ∧ St F' (Ow.own 9 1 encT vdata data_3 :: fr) h ∧ (FnP Try.prog F' h g_cmp fs_cmp cs_cmp (fun x : Str × Str => [.string (bs x.1), .string (bs x.2)]) (fun x => .int .i64 (cf_cmp x.1 x.2))) ∧ slices_insertionSortCmpFunc_string_j2 i_1 K_1 data_3 j_1 K_2 b_1) ?_ ?_
    · refine HW.regionA 17 mixed (fun h => (OwnIs h 0 9 1 encT vdata data_3)) [] (by kernel_rfl) ?_
      refine HA.val (k := 0) (v := .int .i64 j_1) rfl rfl (by kernel_rfl) (by kernel_rfl) (want_none) rfl (fun _ c504 => q_move rfl) ?_
      refine HA.val (k := 1) (v := .int .i64 a) rfl rfl (by kernel_rfl) (by kernel_rfl) (want_none) rfl (fun _ c504 => q_move rfl) ?_
      refine HA.val (k := 2) (v := .bool (decide (a < j_1))) rfl rfl (by kernel_rfl) (by kernel_rfl) (want_none) rfl (fun _ c504 => q_gtr rfl rfl) ?_
      refine HA.val (k := 3) (v := .bool (decide (a < j_1))) rfl rfl (by kernel_rfl) (by kernel_rfl) (want_none) rfl (fun _ c504 => q_move rfl) ?_
      rcases Bool.eq_false_or_eq_true (decide (a < j_1)) with c_2 | c_2
      · replace hM := hM.1 (of_decide_eq_true c_2)
        refine HA.val (k := 4) (v := .func (.func g_cmp) fs_cmp cs_cmp) rfl rfl (by kernel_rfl) (by kernel_rfl) (want_by rfl rfl c_2) rfl (fun _ c504 => q_move rfl) ?_
        refine HA.val (k := 5) (v := vdata) rfl rfl (by kernel_rfl) (by kernel_rfl) (want_by rfl rfl c_2) rfl (fun _ c504 => q_move rfl) ?_
        refine HA.val (k := 6) (v := .int .i64 j_1) rfl rfl (by kernel_rfl) (by kernel_rfl) (want_by rfl rfl c_2) rfl (fun _ c504 => q_move rfl) ?_
        obtain ⟨ho_2, hM⟩ := hM
        refine HA.val (k := 7) (v := elemPtr 1 vdata (j_1).toNat) rfl rfl (by kernel_rfl) (by kernel_rfl) (want_by rfl rfl c_2) rfl (fun _ c504 => q_idx ts_36 c504.slice rfl rfl ho_2) ?_
        refine HA.val (k := 8) (v := .string (bs (gi data_3 j_1))) rfl rfl (by kernel_rfl) (by kernel_rfl) (want_by rfl rfl c_2) rfl (fun _ c504 => q_ldElem to_9 c504.slice rfl ho_2 rfl) ?_
        refine HA.val (k := 9) (v := vdata) rfl rfl (by kernel_rfl) (by kernel_rfl) (want_by rfl rfl c_2) rfl (fun _ c504 => q_move rfl) ?_
        refine HA.val (k := 10) (v := .int .i64 j_1) rfl rfl (by kernel_rfl) (by kernel_rfl) (want_by rfl rfl c_2) rfl (fun _ c504 => q_move rfl) ?_
        obtain ⟨ho_3, hM⟩ := hM
        refine HA.val (k := 11) (v := .int .i64 (j_1 - 1)) rfl rfl (by kernel_rfl) (by kernel_rfl) (want_by rfl rfl c_2) rfl (fun _ c504 => q_subN _ rfl rfl rfl ho_3.1 ho_3.2) ?_
        obtain ⟨ho_4, hM⟩ := hM
        refine HA.val (k := 12) (v := elemPtr 1 vdata (j_1 - 1).toNat) rfl rfl (by kernel_rfl) (by kernel_rfl) (want_by rfl rfl c_2) rfl (fun _ c504 => q_idx ts_36 c504.slice rfl rfl ho_4) ?_
        refine HA.val (k := 13) (v := .string (bs (gi data_3 (j_1 - 1)))) rfl rfl (by kernel_rfl) (by kernel_rfl) (want_by rfl rfl c_2) rfl (fun _ c504 => q_ldElem to_9 c504.slice rfl ho_4 rfl) ?_
        refine HA.one (k := 14) ⟨(hS.own 0 rfl), (Go.Wk.at_nil _ _)⟩ (by kernel_rfl) ?_
        refine HS.call rfl (want_by rfl rfl c_2) rfl (hF_cf_cmp.ec ((gi data_3 j_1), (gi data_3 (j_1 - 1))) rfl rfl) (hF_cf_cmp.hc ((gi data_3 j_1), (gi data_3 (j_1 - 1))) hS) ?_
        rintro _ h_3 ⟨rfl, hS, hk⟩
        replace hK := hK.trans hk
        replace hF_cf_cmp := hF_cf_cmp.kp hk
        refine HA.val (k := 15) (v := .bool (decide ((cf_cmp (gi data_3 j_1) (gi data_3 (j_1 - 1))) < 0))) rfl rfl (by kernel_rfl) (by kernel_rfl) (want_by rfl rfl c_2) rfl (fun _ c504 => q_lss rfl rfl) ?_
        refine HA.val (k := 16) (v := .bool (decide ((cf_cmp (gi data_3 j_1) (gi data_3 (j_1 - 1))) < 0))) rfl rfl (by kernel_rfl) (by kernel_rfl) (want_none) rfl (fun _ c504 => q_pickK true rfl c_2 rfl) ?_
        refine HA.nil ⟨(hS.own 0 rfl), (Go.Wk.at_nil _ _)⟩ (by kernel_rfl) (thenQ_normal (?_))
        exact ⟨F_2, decide ((cf_cmp (gi data_3 j_1) (gi data_3 (j_1 - 1))) < 0), rfl, rfl, rfl, rfl, rfl, rfl, rfl, hK, hS, hF_cf_cmp, hM⟩
      · replace hM := hM.2 (of_decide_eq_false c_2)
        refine HA.past (k := 4) rfl rfl (by kernel_rfl) (by kernel_rfl) (past_by rfl rfl c_2) rfl ?_
        refine HA.past (k := 5) rfl rfl (by kernel_rfl) (by kernel_rfl) (past_by rfl rfl c_2) rfl ?_
        refine HA.past (k := 6) rfl rfl (by kernel_rfl) (by kernel_rfl) (past_by rfl rfl c_2) rfl ?_
        refine HA.past (k := 7) rfl rfl (by kernel_rfl) (by kernel_rfl) (past_by rfl rfl c_2) rfl ?_
        refine HA.past (k := 8) rfl rfl (by kernel_rfl) (by kernel_rfl) (past_by rfl rfl c_2) rfl ?_
        refine HA.past (k := 9) rfl rfl (by kernel_rfl) (by kernel_rfl) (past_by rfl rfl c_2) rfl ?_
        refine HA.past (k := 10) rfl rfl (by kernel_rfl) (by kernel_rfl) (past_by rfl rfl c_2) rfl ?_
        refine HA.past (k := 11) rfl rfl (by kernel_rfl) (by kernel_rfl) (past_by rfl rfl c_2) rfl ?_
        refine HA.past (k := 12) rfl rfl (by kernel_rfl) (by kernel_rfl) (past_by rfl rfl c_2) rfl ?_
        refine HA.past (k := 13) rfl rfl (by kernel_rfl) (by kernel_rfl) (past_by rfl rfl c_2) rfl ?_
        refine HA.one (k := 14) ⟨(hS.own 0 rfl), (Go.Wk.at_nil _ _)⟩ (by kernel_rfl) ?_
        refine HS.past rfl (past_by rfl rfl c_2) rfl ?_
        refine HA.past (k := 15) rfl rfl (by kernel_rfl) (by kernel_rfl) (past_by rfl rfl c_2) rfl ?_
        refine HA.val (k := 16) (v := .bool false) rfl rfl (by kernel_rfl) (by kernel_rfl) (want_none) rfl (fun _ c504 => q_pickK false rfl c_2 rfl) ?_
        refine HA.nil ⟨(hS.own 0 rfl), (Go.Wk.at_nil _ _)⟩ (by kernel_rfl) (thenQ_normal (?_))
        exact ⟨F_2, false, rfl, rfl, rfl, rfl, rfl, rfl, rfl, hK, hS, hF_cf_cmp, hM⟩
    · rintro f_3 h_4 ⟨F_3, b_1, e0, e1, e2, e3, e8, e9, e34, hK, hS, hF_cf_cmp, hM⟩
      unfold slices_insertionSortCmpFunc_string_j2 at hM
      refine HW.fr [(0, vdata), (1, .int .i64 a), (2, .int .i64 b), (3, .func (.func g_cmp) fs_cmp cs_cmp), (8, .int .i64 i_1), (9, .int .i64 j_1), (34, .bool b_1)] ⟨e0, e1, e2, e3, e8, e9, e34, trivial⟩ ?_
      refine HW.cond b_1 rfl (fun c_3 => ?_) (fun c_3 => ?_)
      · replace hM := hM.1 c_3
        refine HW.skip (thenQ_normal (?_))
        refine HW.seq ?_
        refine HW.block ?_
        refine HW.regionA 18 mixed (fun h => True) [(15, fun h => (OwnIs h 0 9 1 encT vdata data_3))] (by kernel_rfl) ?_
        refine HA.val (k := 0) (v := vdata) rfl rfl (by kernel_rfl) (by kernel_rfl) (want_none) rfl (fun _ _ => q_move rfl) ?_
        refine HA.val (k := 1) (v := .int .i64 j_1) rfl rfl (by kernel_rfl) (by kernel_rfl) (want_none) rfl (fun _ _ => q_move rfl) ?_
        refine HA.val (k := 2) (v := vdata) rfl rfl (by kernel_rfl) (by kernel_rfl) (want_none) rfl (fun _ _ => q_move rfl) ?_
        refine HA.val (k := 3) (v := .int .i64 j_1) rfl rfl (by kernel_rfl) (by kernel_rfl) (want_none) rfl (fun _ _ => q_move rfl) ?_
        obtain ⟨ho_5, hM⟩ := hM
        refine HA.val (k := 4) (v := .int .i64 (j_1 - 1)) rfl rfl (by kernel_rfl) (by kernel_rfl) (want_none) rfl (fun _ _ => q_subN _ rfl rfl rfl ho_5.1 ho_5.2) ?_
        refine HA.val (k := 5) (v := vdata) rfl rfl (by kernel_rfl) (by kernel_rfl) (want_none) rfl (fun _ _ => q_move rfl) ?_
        refine HA.val (k := 6) (v := .int .i64 j_1) rfl rfl (by kernel_rfl) (by kernel_rfl) (want_none) rfl (fun _ _ => q_move rfl) ?_
        refine HA.val (k := 7) (v := .int .i64 (j_1 - 1)) rfl rfl (by kernel_rfl) (by kernel_rfl) (want_none) rfl (fun _ _ => q_subN _ rfl rfl rfl ho_5.1 ho_5.2) ?_
        obtain ⟨ho_6, hM⟩ := hM
        refine Go.Wk.HA.valN (k := 8) (v := elemPtr 1 vdata (j_1 - 1).toNat) 0 15 (fun h => (OwnIs h 0 9 1 encT vdata data_3)) rfl rfl (by kernel_rfl) (by kernel_rfl) (want_none) rfl rfl (by kernel_rfl) (fun _ _ c505 => q_idx ts_36 c505.slice rfl rfl ho_6) ?_
        refine Go.Wk.HA.valN (k := 9) (v := .string (bs (gi data_3 (j_1 - 1)))) 0 15 (fun h => (OwnIs h 0 9 1 encT vdata data_3)) rfl rfl (by kernel_rfl) (by kernel_rfl) (want_none) rfl rfl (by kernel_rfl) (fun _ _ c505 => q_ldElem to_9 c505.slice rfl ho_6 rfl) ?_
        refine HA.val (k := 10) (v := vdata) rfl rfl (by kernel_rfl) (by kernel_rfl) (want_none) rfl (fun _ _ => q_move rfl) ?_
        refine HA.val (k := 11) (v := .int .i64 j_1) rfl rfl (by kernel_rfl) (by kernel_rfl) (want_none) rfl (fun _ _ => q_move rfl) ?_
        obtain ⟨ho_7, hM⟩ := hM
        refine Go.Wk.HA.valN (k := 12) (v := elemPtr 1 vdata (j_1).toNat) 0 15 (fun h => (OwnIs h 0 9 1 encT vdata data_3)) rfl rfl (by kernel_rfl) (by kernel_rfl) (want_none) rfl rfl (by kernel_rfl) (fun _ _ c505 => q_idx ts_36 c505.slice rfl rfl ho_7) ?_
        refine Go.Wk.HA.valN (k := 13) (v := .string (bs (gi data_3 j_1))) 0 15 (fun h => (OwnIs h 0 9 1 encT vdata data_3)) rfl rfl (by kernel_rfl) (by kernel_rfl) (want_none) rfl rfl (by kernel_rfl) (fun _ _ c505 => q_ldElem to_9 c505.slice rfl ho_7 rfl) ?_
        refine Go.Wk.HA.valN (k := 14) (v := elemPtr 1 vdata (j_1).toNat) 0 15 (fun h => (OwnIs h 0 9 1 encT vdata data_3)) rfl rfl (by kernel_rfl) (by kernel_rfl) (want_none) rfl rfl (by kernel_rfl) (fun _ _ c505 => q_idx ts_36 c505.slice rfl rfl ho_7) ?_
        refine HA.one (k := 15) ⟨trivial, (at_now (hS.own 0 rfl) (Go.Wk.at_nil _ _))⟩ (by kernel_rfl) ?_
        refine HS.sto rfl (want_none) rfl (st_storeField (a := (gi data_3 (j_1 - 1))) (n := (j_1).toNat) (j := 0) hS (i := 0) rfl to_9 (elem_field _ _ _) (by omega) (by decide) rfl (by rw [← gi_lt ho_7.1 ho_7.2]; rfl) rfl rfl) ?_
        rintro h_5 ⟨hS, hk⟩
        replace hS : St F_3 (Ow.own 9 1 encT vdata (data_3.set (j_1).toNat (gi data_3 (j_1 - 1))) :: fr) h_5 := hS
        replace hK := hK.trans hk
        replace hF_cf_cmp := hF_cf_cmp.kp hk
        refine Go.Wk.HA.re (fun h => True) [(17, fun h => (OwnIs h 0 9 1 encT vdata (data_3.set (j_1).toNat (gi data_3 (j_1 - 1)))))] (fun L_ h_ hL_ _ hs_ => ⟨trivial, (at_gone hL_ (by kernel_rfl) (Go.Wk.at_nil _ _))⟩) ?_
        obtain ⟨ho_8, hM⟩ := hM
        refine Go.Wk.HA.valN (k := 16) (v := elemPtr 1 vdata (j_1 - 1).toNat) 0 17 (fun h => (OwnIs h 0 9 1 encT vdata (data_3.set (j_1).toNat (gi data_3 (j_1 - 1))))) rfl rfl (by kernel_rfl) (by kernel_rfl) (want_none) rfl rfl (by kernel_rfl) (fun _ _ c505 => q_idx ts_36 c505.slice rfl rfl ho_8) ?_
        refine HA.one (k := 17) ⟨trivial, (at_now (hS.own 0 rfl) (Go.Wk.at_nil _ _))⟩ (by kernel_rfl) ?_
        refine HS.sto rfl (want_none) rfl (st_storeField (a := (gi data_3 j_1)) (n := (j_1 - 1).toNat) (j := 0) hS (i := 0) rfl to_9 (elem_field _ _ _) (by omega) (by decide) rfl (by rw [← gi_lt ho_8.1 ho_8.2]; rfl) rfl rfl) ?_
        rintro h_6 ⟨hS, hk⟩
        replace hS : St F_3 (Ow.own 9 1 encT vdata ((data_3.set (j_1).toNat (gi data_3 (j_1 - 1))).set (j_1 - 1).toNat (gi data_3 j_1)) :: fr) h_6 := hS
        replace hK := hK.trans hk
        replace hF_cf_cmp := hF_cf_cmp.kp hk
        refine HA.nil ⟨trivial, (at_done (by kernel_rfl) (Go.Wk.at_nil _ _))⟩ (by kernel_rfl) (blockQ_normal (thenQ_normal (?_)))
        refine HW.region ?_
        refine HO.val (v := .int .i64 j_1) (want_none) rfl (q_move rfl) ?_
        refine HO.val (v := .int .i64 (j_1 - 1)) (want_none) rfl (q_subN _ rfl rfl rfl ho_5.1 ho_5.2) ?_
        refine HO.val (v := .int .i64 (j_1 - 1)) (want_none) rfl (q_assign rfl) ?_
        refine HO.nil (thenQ_normal (?_))
        rw [hKe_2] at hM
        exact ⟨((data_3.set (j_1).toNat (gi data_3 (j_1 - 1))).set (j_1 - 1).toNat (gi data_3 j_1), j_1 - 1), ⟨F_3, rfl, rfl, rfl, rfl, rfl, rfl, hK, hS, hF_cf_cmp, hM.1⟩, hM.2⟩
      · replace hM := hM.2 c_3
        refine HW.exit (thenQ_exit (thenQ_exit (blockQ_exit (blockQ_normal (thenQ_normal (?_))))))
        refine HW.region ?_
        refine HO.val (v := .int .i64 i_1) (want_none) rfl (q_move rfl) ?_
        obtain ⟨ho_9, hM⟩ := hM
        refine HO.val (v := .int .i64 (i_1 + 1)) (want_none) rfl (q_addN _ rfl rfl rfl ho_9.1 ho_9.2) ?_
        refine HO.val (v := .int .i64 (i_1 + 1)) (want_none) rfl (q_assign rfl) ?_
        refine HO.nil (thenQ_normal (?_))
        rw [hKe_1] at hM
        exact ⟨(data_3, i_1 + 1), ⟨F_3, rfl, rfl, rfl, rfl, rfl, hK, hS, hF_cf_cmp, hM.1⟩, hM.2⟩
  · replace hM := hM.2 (of_decide_eq_false c_1)
    refine HW.exit (thenQ_exit (thenQ_exit (blockQ_exit (?_))))
    refine ⟨.inl rfl, .tuple #[], res0 rfl , ?_⟩
    exact ⟨F_1, data_2, rfl, hK, hS, hF_cf_cmp, hM⟩

def slices_siftDownCmpFunc_string_j1 (first : Int) (cf_cmp : Str → Str → Int) (Q : (List Str) → Prop) (data_2 : List Str) (root_1 : Int) (K_1 : (List Str) → Int → Prop) (child_1 : Int) : Prop :=
  (I64 (first + root_1)) ∧ (((0 : Int) ≤ first + root_1 ∧ first + root_1 < (data_2.length : Int)) ∧ ((I64 (first + child_1)) ∧ (((0 : Int) ≤ first + child_1 ∧ first + child_1 < (data_2.length : Int)) ∧ ((¬ ((cf_cmp (gi data_2 (first + root_1)) (gi data_2 (first + child_1))) < 0) → Q data_2) ∧ ((cf_cmp (gi data_2 (first + root_1)) (gi data_2 (first + child_1))) < 0 → ((0 : Int) ≤ first + child_1 ∧ first + child_1 < ((data_2.set (first + root_1).toNat (gi data_2 (first + child_1))).length : Int)) ∧ (K_1 ((data_2.set (first + root_1).toNat (gi data_2 (first + child_1))).set (first + child_1).toNat (gi data_2 (first + root_1))) child_1))))))
def slices_siftDownCmpFunc_string_l1 (hi : Int) (first : Int) (cf_cmp : Str → Str → Int) (Q : (List Str) → Prop) (K_1 : (List Str) → Int → Prop) (data_2 : List Str) (root_1 : Int) : Prop :=
  (I64 (2 * root_1)) ∧ ((I64 ((2 * root_1) + 1)) ∧ ((hi ≤ ((2 * root_1) + 1) → Q data_2) ∧ (¬ (hi ≤ ((2 * root_1) + 1)) → (I64 (((2 * root_1) + 1) + 1)) ∧ (((((2 * root_1) + 1) + 1) < hi → (I64 (first + ((2 * root_1) + 1))) ∧ (((0 : Int) ≤ first + ((2 * root_1) + 1) ∧ first + ((2 * root_1) + 1) < (data_2.length : Int)) ∧ ((I64 ((first + ((2 * root_1) + 1)) + 1)) ∧ (((0 : Int) ≤ (first + ((2 * root_1) + 1)) + 1 ∧ (first + ((2 * root_1) + 1)) + 1 < (data_2.length : Int)) ∧ (((cf_cmp (gi data_2 (first + ((2 * root_1) + 1))) (gi data_2 ((first + ((2 * root_1) + 1)) + 1))) < 0 → slices_siftDownCmpFunc_string_j1 first cf_cmp Q data_2 root_1 K_1 (((2 * root_1) + 1) + 1)) ∧ (¬ ((cf_cmp (gi data_2 (first + ((2 * root_1) + 1))) (gi data_2 ((first + ((2 * root_1) + 1)) + 1))) < 0) → slices_siftDownCmpFunc_string_j1 first cf_cmp Q data_2 root_1 K_1 ((2 * root_1) + 1))))))) ∧ (¬ ((((2 * root_1) + 1) + 1) < hi) → slices_siftDownCmpFunc_string_j1 first cf_cmp Q data_2 root_1 K_1 ((2 * root_1) + 1))))))
def slices_siftDownCmpFunc_string_W (data : List Str) (lo : Int) (hi : Int) (first : Int) (cf_cmp : Str → Str → Int) (Q : (List Str) → Prop) : Prop :=
  loopW (fun (K_1 : (List Str × Int) → Prop) (s : List Str × Int) => slices_siftDownCmpFunc_string_l1 hi first cf_cmp Q (fun data_2 root_1 => K_1 (data_2, root_1)) s.1 s.2) (data, lo)
set_option maxHeartbeats 40000000 in
set_option maxRecDepth 100000 in
theorem slices_siftDownCmpFunc_string_walk {F : Fz} {fr : List Ow} {h0 : Heap} (data : List Str) (lo : Int) (hi : Int) (first : Int) (cf_cmp : Str → Str → Int) (vdata : Value) (g_cmp : Nat) (fs_cmp : Array Value) (cs_cmp : Array Value) (hS : St F (Ow.own 9 1 encT vdata data :: fr) h0) (hF_cf_cmp : FnP Try.prog F h0 g_cmp fs_cmp cs_cmp (fun x : Str × Str => [.string (bs x.1), .string (bs x.2)]) (fun x => .int .i64 (cf_cmp x.1 x.2))) {Q : (List Str) → Prop} (hM : slices_siftDownCmpFunc_string_W data lo hi first cf_cmp Q) :
    HC Try.prog 100 #[vdata, .int .i64 lo, .int .i64 hi, .int .i64 first, .func (.func g_cmp) fs_cmp cs_cmp] h0 fun u h' => ∃ (F' : Fz) (data_1 : List Str), u = .tuple #[] ∧ Kp F h0 F' h' ∧ St F' (Ow.own 9 1 encT vdata data_1 :: fr) h' ∧ (FnP Try.prog F' h' g_cmp fs_cmp cs_cmp (fun x : Str × Str => [.string (bs x.1), .string (bs x.2)]) (fun x => .int .i64 (cf_cmp x.1 x.2))) ∧ Q data_1 := by
  unfold slices_siftDownCmpFunc_string_W at hM
  have hK := Kp.refl F h0
  refine HC.of_HW (n := 82) Try.func100 rfl rfl (Nat.le_of_ble_eq_true rfl) ?_
  refine HW.seq ?_
  refine HW.region ?_
  refine HO.val (v := .int .i64 lo) (want_none) rfl (q_move rfl) ?_
  refine HO.val (v := .int .i64 lo) (want_none) rfl (q_assign rfl) ?_
  refine HO.nil (thenQ_normal (?_))
  refine HW.block ?_
  obtain ⟨I_1, m_1, hI_1, hR_1⟩ := hM
  refine HW.loop (S := List Str × Int) (fun s f h => match s with | (data_2, root_1) => ∃ (F' : Fz), f 0 = vdata ∧ f 2 = .int .i64 hi ∧ f 3 = .int .i64 first ∧ f 4 = .func (.func g_cmp) fs_cmp cs_cmp ∧ f 10 = .int .i64 root_1 ∧ Kp F h0 F' h ∧ St F' (Ow.own 9 1 encT vdata data_2 :: fr) h ∧ (FnP Try.prog F' h g_cmp fs_cmp cs_cmp (fun x : Str × Str => [.string (bs x.1), .string (bs x.2)]) (fun x => .int .i64 (cf_cmp x.1 x.2))) ∧ I_1 (data_2, root_1)) m_1 (data, lo) ⟨F, rfl, rfl, rfl, rfl, rfl, hK, hS, hF_cf_cmp, hI_1⟩ ?_
  rintro ⟨data_2, root_1⟩ f_1 h_1 ⟨F_1, e0, e2, e3, e4, e10, hK, hS, hF_cf_cmp, hI0⟩
  obtain ⟨K_1, hKe_1⟩ : ∃ K : (List Str) → Int → Prop, K = fun data_2' root_1' => I_1 (data_2', root_1') ∧ m_1 (data_2', root_1') < m_1 (data_2, root_1) := ⟨_, rfl⟩
  have hM : slices_siftDownCmpFunc_string_l1 hi first cf_cmp Q K_1 data_2 root_1 := by rw [hKe_1]; exact hR_1 (data_2, root_1) hI0
  unfold slices_siftDownCmpFunc_string_l1 at hM
  refine HW.fr [(0, vdata), (2, .int .i64 hi), (3, .int .i64 first), (4, .func (.func g_cmp) fs_cmp cs_cmp), (10, .int .i64 root_1)] ⟨e0, e2, e3, e4, e10, trivial⟩ ?_
  refine HW.block ?_
  refine HW.seq ?_
  refine HW.region ?_
  refine HO.val (v := .int .i64 root_1) (want_none) rfl (q_move rfl) ?_
  obtain ⟨ho_1, hM⟩ := hM
  refine HO.val (v := .int .i64 (2 * root_1)) (want_none) rfl (q_mulN _ rfl rfl rfl ho_1.1 ho_1.2) ?_
  obtain ⟨ho_2, hM⟩ := hM
  refine HO.val (v := .int .i64 ((2 * root_1) + 1)) (want_none) rfl (q_addN _ rfl rfl rfl ho_2.1 ho_2.2) ?_
  refine HO.val (v := .int .i64 ((2 * root_1) + 1)) (want_none) rfl (q_assign rfl) ?_
  refine HO.nil (thenQ_normal (?_))
  refine HW.seq ?_
  refine HW.seq ?_
  refine HW.region ?_
  refine HO.val (v := .int .i64 ((2 * root_1) + 1)) (want_none) rfl (q_move rfl) ?_
  refine HO.val (v := .int .i64 hi) (want_none) rfl (q_move rfl) ?_
  refine HO.val (v := .bool (decide (hi ≤ ((2 * root_1) + 1)))) (want_none) rfl (q_geq rfl rfl) ?_
  refine HO.nil (thenQ_normal (?_))
  refine HW.cond (decide (hi ≤ ((2 * root_1) + 1))) rfl (fun c_1 => ?_) (fun c_1 => ?_)
  · replace hM := hM.1 (of_decide_eq_true c_1)
    refine HW.exit (thenQ_exit (blockQ_pass rfl (thenQ_exit (blockQ_exit (?_)))))
    refine ⟨.inl rfl, .tuple #[], res0 rfl , ?_⟩
    exact ⟨F_1, data_2, rfl, hK, hS, hF_cf_cmp, hM⟩
  · replace hM := hM.2 (of_decide_eq_false c_1)
    refine HW.skip (thenQ_normal (?_))
    refine HW.seq_mid (fun f h => ∃ (F' : Fz) (child_1 : Int), f 0 = vdata ∧ f 2 = .int .i64 hi ∧ f 3 = .int .i64 first ∧ f 4 = .func (.func g_cmp) fs_cmp cs_cmp ∧ f 10 = .int .i64 root_1 ∧ f 11 = .int .i64 child_1 ∧ Kp F h0 F' h ∧ St F' (Ow.own 9 1 encT vdata data_2 :: fr) h ∧ (FnP Try.prog F' h g_cmp fs_cmp cs_cmp (fun x : Str × Str => [.string (bs x.1), .string (bs x.2)]) (fun x => .int .i64 (cf_cmp x.1 x.2))) ∧ slices_siftDownCmpFunc_string_j1 first cf_cmp Q data_2 root_1 K_1 child_1) ?_ ?_
    · refine HW.seq ?_
      refine HW.regionA 22 mixed (fun h => (OwnIs h 0 9 1 encT vdata data_2)) [] (by kernel_rfl) ?_
      refine HA.val (k := 0) (v := .int .i64 ((2 * root_1) + 1)) rfl rfl (by kernel_rfl) (by kernel_rfl) (want_none) rfl (fun _ c353 => q_move rfl) ?_
      obtain ⟨ho_3, hM⟩ := hM
      refine HA.val (k := 1) (v := .int .i64 (((2 * root_1) + 1) + 1)) rfl rfl (by kernel_rfl) (by kernel_rfl) (want_none) rfl (fun _ c353 => q_addN _ rfl rfl rfl ho_3.1 ho_3.2) ?_
      refine HA.val (k := 2) (v := .int .i64 hi) rfl rfl (by kernel_rfl) (by kernel_rfl) (want_none) rfl (fun _ c353 => q_move rfl) ?_
      refine HA.val (k := 3) (v := .bool (decide ((((2 * root_1) + 1) + 1) < hi))) rfl rfl (by kernel_rfl) (by kernel_rfl) (want_none) rfl (fun _ c353 => q_lss rfl rfl) ?_
      refine HA.val (k := 4) (v := .bool (decide ((((2 * root_1) + 1) + 1) < hi))) rfl rfl (by kernel_rfl) (by kernel_rfl) (want_none) rfl (fun _ c353 => q_move rfl) ?_
      rcases Bool.eq_false_or_eq_true (decide ((((2 * root_1) + 1) + 1) < hi)) with c_2 | c_2
      · replace hM := hM.1 (of_decide_eq_true c_2)
        refine HA.val (k := 5) (v := .func (.func g_cmp) fs_cmp cs_cmp) rfl rfl (by kernel_rfl) (by kernel_rfl) (want_by rfl rfl c_2) rfl (fun _ c353 => q_move rfl) ?_
        refine HA.val (k := 6) (v := vdata) rfl rfl (by kernel_rfl) (by kernel_rfl) (want_by rfl rfl c_2) rfl (fun _ c353 => q_move rfl) ?_
        refine HA.val (k := 7) (v := .int .i64 first) rfl rfl (by kernel_rfl) (by kernel_rfl) (want_by rfl rfl c_2) rfl (fun _ c353 => q_move rfl) ?_
        refine HA.val (k := 8) (v := .int .i64 ((2 * root_1) + 1)) rfl rfl (by kernel_rfl) (by kernel_rfl) (want_by rfl rfl c_2) rfl (fun _ c353 => q_move rfl) ?_
        obtain ⟨ho_4, hM⟩ := hM
        refine HA.val (k := 9) (v := .int .i64 (first + ((2 * root_1) + 1))) rfl rfl (by kernel_rfl) (by kernel_rfl) (want_by rfl rfl c_2) rfl (fun _ c353 => q_addN _ rfl rfl rfl ho_4.1 ho_4.2) ?_
        obtain ⟨ho_5, hM⟩ := hM
        refine HA.val (k := 10) (v := elemPtr 1 vdata (first + ((2 * root_1) + 1)).toNat) rfl rfl (by kernel_rfl) (by kernel_rfl) (want_by rfl rfl c_2) rfl (fun _ c353 => q_idx ts_36 c353.slice rfl rfl ho_5) ?_
        refine HA.val (k := 11) (v := .string (bs (gi data_2 (first + ((2 * root_1) + 1))))) rfl rfl (by kernel_rfl) (by kernel_rfl) (want_by rfl rfl c_2) rfl (fun _ c353 => q_ldElem to_9 c353.slice rfl ho_5 rfl) ?_
        refine HA.val (k := 12) (v := vdata) rfl rfl (by kernel_rfl) (by kernel_rfl) (want_by rfl rfl c_2) rfl (fun _ c353 => q_move rfl) ?_
        refine HA.val (k := 13) (v := .int .i64 first) rfl rfl (by kernel_rfl) (by kernel_rfl) (want_by rfl rfl c_2) rfl (fun _ c353 => q_move rfl) ?_
        refine HA.val (k := 14) (v := .int .i64 ((2 * root_1) + 1)) rfl rfl (by kernel_rfl) (by kernel_rfl) (want_by rfl rfl c_2) rfl (fun _ c353 => q_move rfl) ?_
        refine HA.val (k := 15) (v := .int .i64 (first + ((2 * root_1) + 1))) rfl rfl (by kernel_rfl) (by kernel_rfl) (want_by rfl rfl c_2) rfl (fun _ c353 => q_addN _ rfl rfl rfl ho_4.1 ho_4.2) ?_
        obtain ⟨ho_6, hM⟩ := hM
        refine HA.val (k := 16) (v := .int .i64 ((first + ((2 * root_1) + 1)) + 1)) rfl rfl (by kernel_rfl) (by kernel_rfl) (want_by rfl rfl c_2) rfl (fun _ c353 => q_addN _ rfl rfl rfl ho_6.1 ho_6.2) ?_
        obtain ⟨ho_7, hM⟩ := hM
        refine HA.val (k := 17) (v := elemPtr 1 vdata ((first + ((2 * root_1) + 1)) + 1).toNat) rfl rfl (by kernel_rfl) (by kernel_rfl) (want_by rfl rfl c_2) rfl (fun _ c353 => q_idx ts_36 c353.slice rfl rfl ho_7) ?_
        refine HA.val (k := 18) (v := .string (bs (gi data_2 ((first + ((2 * root_1) + 1)) + 1)))) rfl rfl (by kernel_rfl) (by kernel_rfl) (want_by rfl rfl c_2) rfl (fun _ c353 => q_ldElem to_9 c353.slice rfl ho_7 rfl) ?_
        refine HA.one (k := 19) ⟨(hS.own 0 rfl), (Go.Wk.at_nil _ _)⟩ (by kernel_rfl) ?_
        refine HS.call rfl (want_by rfl rfl c_2) rfl (hF_cf_cmp.ec ((gi data_2 (first + ((2 * root_1) + 1))), (gi data_2 ((first + ((2 * root_1) + 1)) + 1))) rfl rfl) (hF_cf_cmp.hc ((gi data_2 (first + ((2 * root_1) + 1))), (gi data_2 ((first + ((2 * root_1) + 1)) + 1))) hS) ?_
        rintro _ h_2 ⟨rfl, hS, hk⟩
        replace hK := hK.trans hk
        replace hF_cf_cmp := hF_cf_cmp.kp hk
        refine HA.val (k := 20) (v := .bool (decide ((cf_cmp (gi data_2 (first + ((2 * root_1) + 1))) (gi data_2 ((first + ((2 * root_1) + 1)) + 1))) < 0))) rfl rfl (by kernel_rfl) (by kernel_rfl) (want_by rfl rfl c_2) rfl (fun _ c353 => q_lss rfl rfl) ?_
        refine HA.val (k := 21) (v := .bool (decide ((cf_cmp (gi data_2 (first + ((2 * root_1) + 1))) (gi data_2 ((first + ((2 * root_1) + 1)) + 1))) < 0))) rfl rfl (by kernel_rfl) (by kernel_rfl) (want_none) rfl (fun _ c353 => q_pickK true rfl c_2 rfl) ?_
        refine HA.nil ⟨(hS.own 0 rfl), (Go.Wk.at_nil _ _)⟩ (by kernel_rfl) (thenQ_normal (?_))
        refine HW.cond (decide ((cf_cmp (gi data_2 (first + ((2 * root_1) + 1))) (gi data_2 ((first + ((2 * root_1) + 1)) + 1))) < 0)) rfl (fun c_3 => ?_) (fun c_3 => ?_)
        · replace hM := hM.1 (of_decide_eq_true c_3)
          refine HW.region ?_
          refine HO.val (v := .int .i64 ((2 * root_1) + 1)) (want_none) rfl (q_move rfl) ?_
          refine HO.val (v := .int .i64 (((2 * root_1) + 1) + 1)) (want_none) rfl (q_addN _ rfl rfl rfl ho_3.1 ho_3.2) ?_
          refine HO.val (v := .int .i64 (((2 * root_1) + 1) + 1)) (want_none) rfl (q_assign rfl) ?_
          refine HO.nil (thenQ_normal (?_))
          exact ⟨F_1, ((2 * root_1) + 1) + 1, rfl, rfl, rfl, rfl, rfl, rfl, hK, hS, hF_cf_cmp, hM⟩
        · replace hM := hM.2 (of_decide_eq_false c_3)
          refine HW.skip (thenQ_normal (?_))
          exact ⟨F_1, (2 * root_1) + 1, rfl, rfl, rfl, rfl, rfl, rfl, hK, hS, hF_cf_cmp, hM⟩
      · replace hM := hM.2 (of_decide_eq_false c_2)
        refine HA.past (k := 5) rfl rfl (by kernel_rfl) (by kernel_rfl) (past_by rfl rfl c_2) rfl ?_
        refine HA.past (k := 6) rfl rfl (by kernel_rfl) (by kernel_rfl) (past_by rfl rfl c_2) rfl ?_
        refine HA.past (k := 7) rfl rfl (by kernel_rfl) (by kernel_rfl) (past_by rfl rfl c_2) rfl ?_
        refine HA.past (k := 8) rfl rfl (by kernel_rfl) (by kernel_rfl) (past_by rfl rfl c_2) rfl ?_
        refine HA.past (k := 9) rfl rfl (by kernel_rfl) (by kernel_rfl) (past_by rfl rfl c_2) rfl ?_
        refine HA.past (k := 10) rfl rfl (by kernel_rfl) (by kernel_rfl) (past_by rfl rfl c_2) rfl ?_
        refine HA.past (k := 11) rfl rfl (by kernel_rfl) (by kernel_rfl) (past_by rfl rfl c_2) rfl ?_
        refine HA.past (k := 12) rfl rfl (by kernel_rfl) (by kernel_rfl) (past_by rfl rfl c_2) rfl ?_
        refine HA.past (k := 13) rfl rfl (by kernel_rfl) (by kernel_rfl) (past_by rfl rfl c_2) rfl ?_
        refine HA.past (k := 14) rfl rfl (by kernel_rfl) (by kernel_rfl) (past_by rfl rfl c_2) rfl ?_
        refine HA.past (k := 15) rfl rfl (by kernel_rfl) (by kernel_rfl) (past_by rfl rfl c_2) rfl ?_
        refine HA.past (k := 16) rfl rfl (by kernel_rfl) (by kernel_rfl) (past_by rfl rfl c_2) rfl ?_
        refine HA.past (k := 17) rfl rfl (by kernel_rfl) (by kernel_rfl) (past_by rfl rfl c_2) rfl ?_
        refine HA.past (k := 18) rfl rfl (by kernel_rfl) (by kernel_rfl) (past_by rfl rfl c_2) rfl ?_
        refine HA.one (k := 19) ⟨(hS.own 0 rfl), (Go.Wk.at_nil _ _)⟩ (by kernel_rfl) ?_
        refine HS.past rfl (past_by rfl rfl c_2) rfl ?_
        refine HA.past (k := 20) rfl rfl (by kernel_rfl) (by kernel_rfl) (past_by rfl rfl c_2) rfl ?_
        refine HA.val (k := 21) (v := .bool false) rfl rfl (by kernel_rfl) (by kernel_rfl) (want_none) rfl (fun _ c353 => q_pickK false rfl c_2 rfl) ?_
        refine HA.nil ⟨(hS.own 0 rfl), (Go.Wk.at_nil _ _)⟩ (by kernel_rfl) (thenQ_normal (?_))
        refine HW.condF rfl ?_
        refine HW.skip (thenQ_normal (?_))
        exact ⟨F_1, (2 * root_1) + 1, rfl, rfl, rfl, rfl, rfl, rfl, hK, hS, hF_cf_cmp, hM⟩
    · rintro f_2 h_3 ⟨F_2, child_1, e0, e2, e3, e4, e10, e11, hK, hS, hF_cf_cmp, hM⟩
      unfold slices_siftDownCmpFunc_string_j1 at hM
      refine HW.fr [(0, vdata), (2, .int .i64 hi), (3, .int .i64 first), (4, .func (.func g_cmp) fs_cmp cs_cmp), (10, .int .i64 root_1), (11, .int .i64 child_1)] ⟨e0, e2, e3, e4, e10, e11, trivial⟩ ?_
      refine HW.seq ?_
      refine HW.seq ?_
      refine HW.regionA 16 mixed (fun h => (OwnIs h 0 9 1 encT vdata data_2)) [] (by kernel_rfl) ?_
      refine HA.val (k := 0) (v := .func (.func g_cmp) fs_cmp cs_cmp) rfl rfl (by kernel_rfl) (by kernel_rfl) (want_none) rfl (fun _ c354 => q_move rfl) ?_
      refine HA.val (k := 1) (v := vdata) rfl rfl (by kernel_rfl) (by kernel_rfl) (want_none) rfl (fun _ c354 => q_move rfl) ?_
      refine HA.val (k := 2) (v := .int .i64 first) rfl rfl (by kernel_rfl) (by kernel_rfl) (want_none) rfl (fun _ c354 => q_move rfl) ?_
      refine HA.val (k := 3) (v := .int .i64 root_1) rfl rfl (by kernel_rfl) (by kernel_rfl) (want_none) rfl (fun _ c354 => q_move rfl) ?_
      obtain ⟨ho_8, hM⟩ := hM
      refine HA.val (k := 4) (v := .int .i64 (first + root_1)) rfl rfl (by kernel_rfl) (by kernel_rfl) (want_none) rfl (fun _ c354 => q_addN _ rfl rfl rfl ho_8.1 ho_8.2) ?_
      obtain ⟨ho_9, hM⟩ := hM
      refine HA.val (k := 5) (v := elemPtr 1 vdata (first + root_1).toNat) rfl rfl (by kernel_rfl) (by kernel_rfl) (want_none) rfl (fun _ c354 => q_idx ts_36 c354.slice rfl rfl ho_9) ?_
      refine HA.val (k := 6) (v := .string (bs (gi data_2 (first + root_1)))) rfl rfl (by kernel_rfl) (by kernel_rfl) (want_none) rfl (fun _ c354 => q_ldElem to_9 c354.slice rfl ho_9 rfl) ?_
      refine HA.val (k := 7) (v := vdata) rfl rfl (by kernel_rfl) (by kernel_rfl) (want_none) rfl (fun _ c354 => q_move rfl) ?_
      refine HA.val (k := 8) (v := .int .i64 first) rfl rfl (by kernel_rfl) (by kernel_rfl) (want_none) rfl (fun _ c354 => q_move rfl) ?_
      refine HA.val (k := 9) (v := .int .i64 child_1) rfl rfl (by kernel_rfl) (by kernel_rfl) (want_none) rfl (fun _ c354 => q_move rfl) ?_
      obtain ⟨ho_10, hM⟩ := hM
      refine HA.val (k := 10) (v := .int .i64 (first + child_1)) rfl rfl (by kernel_rfl) (by kernel_rfl) (want_none) rfl (fun _ c354 => q_addN _ rfl rfl rfl ho_10.1 ho_10.2) ?_
      obtain ⟨ho_11, hM⟩ := hM
      refine HA.val (k := 11) (v := elemPtr 1 vdata (first + child_1).toNat) rfl rfl (by kernel_rfl) (by kernel_rfl) (want_none) rfl (fun _ c354 => q_idx ts_36 c354.slice rfl rfl ho_11) ?_
      refine HA.val (k := 12) (v := .string (bs (gi data_2 (first + child_1)))) rfl rfl (by kernel_rfl) (by kernel_rfl) (want_none) rfl (fun _ c354 => q_ldElem to_9 c354.slice rfl ho_11 rfl) ?_
      refine HA.one (k := 13) ⟨(hS.own 0 rfl), (Go.Wk.at_nil _ _)⟩ (by kernel_rfl) ?_
      refine HS.call rfl (want_none) rfl (hF_cf_cmp.ec ((gi data_2 (first + root_1)), (gi data_2 (first + child_1))) rfl rfl) (hF_cf_cmp.hc ((gi data_2 (first + root_1)), (gi data_2 (first + child_1))) hS) ?_
      rintro _ h_4 ⟨rfl, hS, hk⟩
      replace hK := hK.trans hk
      replace hF_cf_cmp := hF_cf_cmp.kp hk
      refine HA.val (k := 14) (v := .bool (decide ((cf_cmp (gi data_2 (first + root_1)) (gi data_2 (first + child_1))) < 0))) rfl rfl (by kernel_rfl) (by kernel_rfl) (want_none) rfl (fun _ c354 => q_lss rfl rfl) ?_
      refine HA.val (k := 15) (v := .bool (!decide ((cf_cmp (gi data_2 (first + root_1)) (gi data_2 (first + child_1))) < 0))) rfl rfl (by kernel_rfl) (by kernel_rfl) (want_none) rfl (fun _ c354 => q_not rfl) ?_
      refine HA.nil ⟨(hS.own 0 rfl), (Go.Wk.at_nil _ _)⟩ (by kernel_rfl) (thenQ_normal (?_))
      refine HW.cond (!decide ((cf_cmp (gi data_2 (first + root_1)) (gi data_2 (first + child_1))) < 0)) rfl (fun c_4 => ?_) (fun c_4 => ?_)
      · replace hM := hM.1 (nd_true c_4)
        refine HW.ret (thenQ_ret (blockQ_ret (thenQ_ret (blockQ_ret (?_)))))
        refine ⟨.inr rfl, .tuple #[], res0 rfl , ?_⟩
        exact ⟨F_2, data_2, rfl, hK, hS, hF_cf_cmp, hM⟩
      · replace hM := hM.2 (nd_false c_4)
        refine HW.skip (thenQ_normal (?_))
        refine HW.seq ?_
        refine HW.regionA 24 mixed (fun h => True) [(21, fun h => (OwnIs h 0 9 1 encT vdata data_2))] (by kernel_rfl) ?_
        refine HA.val (k := 0) (v := vdata) rfl rfl (by kernel_rfl) (by kernel_rfl) (want_none) rfl (fun _ _ => q_move rfl) ?_
        refine HA.val (k := 1) (v := .int .i64 first) rfl rfl (by kernel_rfl) (by kernel_rfl) (want_none) rfl (fun _ _ => q_move rfl) ?_
        refine HA.val (k := 2) (v := .int .i64 root_1) rfl rfl (by kernel_rfl) (by kernel_rfl) (want_none) rfl (fun _ _ => q_move rfl) ?_
        refine HA.val (k := 3) (v := .int .i64 (first + root_1)) rfl rfl (by kernel_rfl) (by kernel_rfl) (want_none) rfl (fun _ _ => q_addN _ rfl rfl rfl ho_8.1 ho_8.2) ?_
        refine HA.val (k := 4) (v := vdata) rfl rfl (by kernel_rfl) (by kernel_rfl) (want_none) rfl (fun _ _ => q_move rfl) ?_
        refine HA.val (k := 5) (v := .int .i64 first) rfl rfl (by kernel_rfl) (by kernel_rfl) (want_none) rfl (fun _ _ => q_move rfl) ?_
        refine HA.val (k := 6) (v := .int .i64 child_1) rfl rfl (by kernel_rfl) (by kernel_rfl) (want_none) rfl (fun _ _ => q_move rfl) ?_
        refine HA.val (k := 7) (v := .int .i64 (first + child_1)) rfl rfl (by kernel_rfl) (by kernel_rfl) (want_none) rfl (fun _ _ => q_addN _ rfl rfl rfl ho_10.1 ho_10.2) ?_
        refine HA.val (k := 8) (v := vdata) rfl rfl (by kernel_rfl) (by kernel_rfl) (want_none) rfl (fun _ _ => q_move rfl) ?_
        refine HA.val (k := 9) (v := .int .i64 first) rfl rfl (by kernel_rfl) (by kernel_rfl) (want_none) rfl (fun _ _ => q_move rfl) ?_
        refine HA.val (k := 10) (v := .int .i64 child_1) rfl rfl (by kernel_rfl) (by kernel_rfl) (want_none) rfl (fun _ _ => q_move rfl) ?_
        refine HA.val (k := 11) (v := .int .i64 (first + child_1)) rfl rfl (by kernel_rfl) (by kernel_rfl) (want_none) rfl (fun _ _ => q_addN _ rfl rfl rfl ho_10.1 ho_10.2) ?_
        refine Go.Wk.HA.valN (k := 12) (v := elemPtr 1 vdata (first + child_1).toNat) 0 21 (fun h => (OwnIs h 0 9 1 encT vdata data_2)) rfl rfl (by kernel_rfl) (by kernel_rfl) (want_none) rfl rfl (by kernel_rfl) (fun _ _ c354 => q_idx ts_36 c354.slice rfl rfl ho_11) ?_
        refine Go.Wk.HA.valN (k := 13) (v := .string (bs (gi data_2 (first + child_1)))) 0 21 (fun h => (OwnIs h 0 9 1 encT vdata data_2)) rfl rfl (by kernel_rfl) (by kernel_rfl) (want_none) rfl rfl (by kernel_rfl) (fun _ _ c354 => q_ldElem to_9 c354.slice rfl ho_11 rfl) ?_
        refine HA.val (k := 14) (v := vdata) rfl rfl (by kernel_rfl) (by kernel_rfl) (want_none) rfl (fun _ _ => q_move rfl) ?_
        refine HA.val (k := 15) (v := .int .i64 first) rfl rfl (by kernel_rfl) (by kernel_rfl) (want_none) rfl (fun _ _ => q_move rfl) ?_
        refine HA.val (k := 16) (v := .int .i64 root_1) rfl rfl (by kernel_rfl) (by kernel_rfl) (want_none) rfl (fun _ _ => q_move rfl) ?_
        refine HA.val (k := 17) (v := .int .i64 (first + root_1)) rfl rfl (by kernel_rfl) (by kernel_rfl) (want_none) rfl (fun _ _ => q_addN _ rfl rfl rfl ho_8.1 ho_8.2) ?_
        refine Go.Wk.HA.valN (k := 18) (v := elemPtr 1 vdata (first + root_1).toNat) 0 21 (fun h => (OwnIs h 0 9 1 encT vdata data_2)) rfl rfl (by kernel_rfl) (by kernel_rfl) (want_none) rfl rfl (by kernel_rfl) (fun _ _ c354 => q_idx ts_36 c354.slice rfl rfl ho_9) ?_
        refine Go.Wk.HA.valN (k := 19) (v := .string (bs (gi data_2 (first + root_1)))) 0 21 (fun h => (OwnIs h 0 9 1 encT vdata data_2)) rfl rfl (by kernel_rfl) (by kernel_rfl) (want_none) rfl rfl (by kernel_rfl) (fun _ _ c354 => q_ldElem to_9 c354.slice rfl ho_9 rfl) ?_
        refine Go.Wk.HA.valN (k := 20) (v := elemPtr 1 vdata (first + root_1).toNat) 0 21 (fun h => (OwnIs h 0 9 1 encT vdata data_2)) rfl rfl (by kernel_rfl) (by kernel_rfl) (want_none) rfl rfl (by kernel_rfl) (fun _ _ c354 => q_idx ts_36 c354.slice rfl rfl ho_9) ?_
        refine HA.one (k := 21) ⟨trivial, (at_now (hS.own 0 rfl) (Go.Wk.at_nil _ _))⟩ (by kernel_rfl) ?_
        refine HS.sto rfl (want_none) rfl (st_storeField (a := (gi data_2 (first + child_1))) (n := (first + root_1).toNat) (j := 0) hS (i := 0) rfl to_9 (elem_field _ _ _) (by omega) (by decide) rfl (by rw [← gi_lt ho_9.1 ho_9.2]; rfl) rfl rfl) ?_
        rintro h_5 ⟨hS, hk⟩
        replace hS : St F_2 (Ow.own 9 1 encT vdata (data_2.set (first + root_1).toNat (gi data_2 (first + child_1))) :: fr) h_5 := hS
        replace hK := hK.trans hk
        replace hF_cf_cmp := hF_cf_cmp.kp hk
        refine Go.Wk.HA.re (fun h => True) [(23, fun h => (OwnIs h 0 9 1 encT vdata (data_2.set (first + root_1).toNat (gi data_2 (first + child_1)))))] (fun L_ h_ hL_ _ hs_ => ⟨trivial, (at_gone hL_ (by kernel_rfl) (Go.Wk.at_nil _ _))⟩) ?_
        obtain ⟨ho_12, hM⟩ := hM
        refine Go.Wk.HA.valN (k := 22) (v := elemPtr 1 vdata (first + child_1).toNat) 0 23 (fun h => (OwnIs h 0 9 1 encT vdata (data_2.set (first + root_1).toNat (gi data_2 (first + child_1))))) rfl rfl (by kernel_rfl) (by kernel_rfl) (want_none) rfl rfl (by kernel_rfl) (fun _ _ c354 => q_idx ts_36 c354.slice rfl rfl ho_12) ?_
        refine HA.one (k := 23) ⟨trivial, (at_now (hS.own 0 rfl) (Go.Wk.at_nil _ _))⟩ (by kernel_rfl) ?_
        refine HS.sto rfl (want_none) rfl (st_storeField (a := (gi data_2 (first + root_1))) (n := (first + child_1).toNat) (j := 0) hS (i := 0) rfl to_9 (elem_field _ _ _) (by omega) (by decide) rfl (by rw [← gi_lt ho_12.1 ho_12.2]; rfl) rfl rfl) ?_
        rintro h_6 ⟨hS, hk⟩
        replace hS : St F_2 (Ow.own 9 1 encT vdata ((data_2.set (first + root_1).toNat (gi data_2 (first + child_1))).set (first + child_1).toNat (gi data_2 (first + root_1))) :: fr) h_6 := hS
        replace hK := hK.trans hk
        replace hF_cf_cmp := hF_cf_cmp.kp hk
        refine HA.nil ⟨trivial, (at_done (by kernel_rfl) (Go.Wk.at_nil _ _))⟩ (by kernel_rfl) (thenQ_normal (?_))
        refine HW.region ?_
        refine HO.val (v := .int .i64 child_1) (want_none) rfl (q_move rfl) ?_
        refine HO.val (v := .int .i64 child_1) (want_none) rfl (q_assign rfl) ?_
        refine HO.nil (blockQ_normal (thenQ_normal (?_)))
        rw [hKe_1] at hM
        exact ⟨((data_2.set (first + root_1).toNat (gi data_2 (first + child_1))).set (first + child_1).toNat (gi data_2 (first + root_1)), child_1), ⟨F_2, rfl, rfl, rfl, rfl, rfl, hK, hS, hF_cf_cmp, hM.1⟩, hM.2⟩

def slices_heapSortCmpFunc_string_l2 (a : Int) (cf_cmp : Str → Str → Int) (Q : (List Str) → Prop) (K_2 : (List Str) → Int → Prop) (data_4 : List Str) (i_2 : Int) : Prop :=
  (0 ≤ i_2 → (I64 (a + i_2)) ∧ (((0 : Int) ≤ a + i_2 ∧ a + i_2 < (data_4.length : Int)) ∧ (((0 : Int) ≤ a ∧ a < (data_4.length : Int)) ∧ (((0 : Int) ≤ a + i_2 ∧ a + i_2 < ((data_4.set (a).toNat (gi data_4 (a + i_2))).length : Int)) ∧ (slices_siftDownCmpFunc_string_W ((data_4.set (a).toNat (gi data_4 (a + i_2))).set (a + i_2).toNat (gi data_4 a)) 0 i_2 a cf_cmp (fun data_5 => (I64 (i_2 - 1)) ∧ (K_2 data_5 (i_2 - 1)))))))) ∧ (¬ (0 ≤ i_2) → Q data_4)
def slices_heapSortCmpFunc_string_l1 (a : Int) (b : Int) (cf_cmp : Str → Str → Int) (Q : (List Str) → Prop) (K_1 : (List Str) → Int → Prop) (data_2 : List Str) (i_1 : Int) : Prop :=
  (0 ≤ i_1 → slices_siftDownCmpFunc_string_W data_2 i_1 (b - a) a cf_cmp (fun data_3 => (I64 (i_1 - 1)) ∧ (K_1 data_3 (i_1 - 1)))) ∧ (¬ (0 ≤ i_1) → (I64 ((b - a) - 1)) ∧ (loopW (fun (K_2 : (List Str × Int) → Prop) (s : List Str × Int) => slices_heapSortCmpFunc_string_l2 a cf_cmp Q (fun data_4 i_2 => K_2 (data_4, i_2)) s.1 s.2) (data_2, (b - a) - 1)))
def slices_heapSortCmpFunc_string_W (data : List Str) (a : Int) (b : Int) (cf_cmp : Str → Str → Int) (Q : (List Str) → Prop) : Prop :=
  (I64 (b - a)) ∧ ((I64 ((b - a) - 1)) ∧ ((I64 (((b - a) - 1).tdiv 2)) ∧ (loopW (fun (K_1 : (List Str × Int) → Prop) (s : List Str × Int) => slices_heapSortCmpFunc_string_l1 a b cf_cmp Q (fun data_2 i_1 => K_1 (data_2, i_1)) s.1 s.2) (data, ((b - a) - 1).tdiv 2))))
set_option maxHeartbeats 40000000 in
set_option maxRecDepth 100000 in
theorem slices_heapSortCmpFunc_string_walk {F : Fz} {fr : List Ow} {h0 : Heap} (data : List Str) (a : Int) (b : Int) (cf_cmp : Str → Str → Int) (vdata : Value) (g_cmp : Nat) (fs_cmp : Array Value) (cs_cmp : Array Value) (hS : St F (Ow.own 9 1 encT vdata data :: fr) h0) (hF_cf_cmp : FnP Try.prog F h0 g_cmp fs_cmp cs_cmp (fun x : Str × Str => [.string (bs x.1), .string (bs x.2)]) (fun x => .int .i64 (cf_cmp x.1 x.2))) {Q : (List Str) → Prop} (hM : slices_heapSortCmpFunc_string_W data a b cf_cmp Q) :
    HC Try.prog 81 #[vdata, .int .i64 a, .int .i64 b, .func (.func g_cmp) fs_cmp cs_cmp] h0 fun u h' => ∃ (F' : Fz) (data_1 : List Str), u = .tuple #[] ∧ Kp F h0 F' h' ∧ St F' (Ow.own 9 1 encT vdata data_1 :: fr) h' ∧ (FnP Try.prog F' h' g_cmp fs_cmp cs_cmp (fun x : Str × Str => [.string (bs x.1), .string (bs x.2)]) (fun x => .int .i64 (cf_cmp x.1 x.2))) ∧ Q data_1 := by
  unfold slices_heapSortCmpFunc_string_W at hM
  have hK := Kp.refl F h0
  refine HC.of_HW (n := 60) Try.func81 rfl rfl (Nat.le_of_ble_eq_true rfl) ?_
  refine HW.seq ?_
  refine HW.region ?_
  refine HO.val (v := .int .i64 a) (want_none) rfl (q_move rfl) ?_
  refine HO.val (v := .int .i64 a) (want_none) rfl (q_assign rfl) ?_
  refine HO.nil (thenQ_normal (?_))
  refine HW.seq ?_
  refine HW.region ?_
  refine HO.val (v := .int .i64 0) (want_none) rfl (q_assign rfl) ?_
  refine HO.nil (thenQ_normal (?_))
  refine HW.seq ?_
  refine HW.region ?_
  refine HO.val (v := .int .i64 b) (want_none) rfl (q_move rfl) ?_
  refine HO.val (v := .int .i64 a) (want_none) rfl (q_move rfl) ?_
  obtain ⟨ho_1, hM⟩ := hM
  refine HO.val (v := .int .i64 (b - a)) (want_none) rfl (q_subN _ rfl rfl rfl ho_1.1 ho_1.2) ?_
  refine HO.val (v := .int .i64 (b - a)) (want_none) rfl (q_assign rfl) ?_
  refine HO.nil (thenQ_normal (?_))
  refine HW.seq ?_
  refine HW.seq ?_
  refine HW.region ?_
  refine HO.val (v := .int .i64 (b - a)) (want_none) rfl (q_move rfl) ?_
  obtain ⟨ho_2, hM⟩ := hM
  refine HO.val (v := .int .i64 ((b - a) - 1)) (want_none) rfl (q_subN _ rfl rfl rfl ho_2.1 ho_2.2) ?_
  obtain ⟨ho_3, hM⟩ := hM
  refine HO.val (v := .int .i64 (((b - a) - 1).tdiv 2)) (want_none) rfl (q_quoN _ rfl rfl (by decide) rfl ho_3.1 ho_3.2) ?_
  refine HO.val (v := .int .i64 (((b - a) - 1).tdiv 2)) (want_none) rfl (q_assign rfl) ?_
  refine HO.nil (thenQ_normal (?_))
  refine HW.block ?_
  obtain ⟨I_1, m_1, hI_1, hR_1⟩ := hM
  refine HW.loop (S := List Str × Int) (fun s f h => match s with | (data_2, i_1) => ∃ (F' : Fz), f 0 = vdata ∧ f 3 = .func (.func g_cmp) fs_cmp cs_cmp ∧ f 8 = .int .i64 a ∧ f 9 = .int .i64 0 ∧ f 10 = .int .i64 (b - a) ∧ f 11 = .int .i64 i_1 ∧ Kp F h0 F' h ∧ St F' (Ow.own 9 1 encT vdata data_2 :: fr) h ∧ (FnP Try.prog F' h g_cmp fs_cmp cs_cmp (fun x : Str × Str => [.string (bs x.1), .string (bs x.2)]) (fun x => .int .i64 (cf_cmp x.1 x.2))) ∧ I_1 (data_2, i_1)) m_1 (data, ((b - a) - 1).tdiv 2) ⟨F, rfl, rfl, rfl, rfl, rfl, rfl, hK, hS, hF_cf_cmp, hI_1⟩ ?_
  rintro ⟨data_2, i_1⟩ f_1 h_1 ⟨F_1, e0, e3, e8, e9, e10, e11, hK, hS, hF_cf_cmp, hI0⟩
  obtain ⟨K_1, hKe_1⟩ : ∃ K : (List Str) → Int → Prop, K = fun data_2' i_1' => I_1 (data_2', i_1') ∧ m_1 (data_2', i_1') < m_1 (data_2, i_1) := ⟨_, rfl⟩
  have hM : slices_heapSortCmpFunc_string_l1 a b cf_cmp Q K_1 data_2 i_1 := by rw [hKe_1]; exact hR_1 (data_2, i_1) hI0
  unfold slices_heapSortCmpFunc_string_l1 at hM
  refine HW.fr [(0, vdata), (3, .func (.func g_cmp) fs_cmp cs_cmp), (8, .int .i64 a), (9, .int .i64 0), (10, .int .i64 (b - a)), (11, .int .i64 i_1)] ⟨e0, e3, e8, e9, e10, e11, trivial⟩ ?_
  refine HW.seq ?_
  refine HW.seq ?_
  refine HW.region ?_
  refine HO.val (v := .int .i64 i_1) (want_none) rfl (q_move rfl) ?_
  refine HO.val (v := .bool (decide (0 ≤ i_1))) (want_none) rfl (q_geq rfl rfl) ?_
  refine HO.nil (thenQ_normal (?_))
  refine HW.cond (decide (0 ≤ i_1)) rfl (fun c_1 => ?_) (fun c_1 => ?_)
  · replace hM := hM.1 (of_decide_eq_true c_1)
    refine HW.skip (thenQ_normal (?_))
    refine HW.seq ?_
    refine HW.block ?_
    refine HW.region ?_
    refine HO.val (v := vdata) (want_none) rfl (q_move rfl) ?_
    refine HO.val (v := .int .i64 i_1) (want_none) rfl (q_move rfl) ?_
    refine HO.val (v := .int .i64 (b - a)) (want_none) rfl (q_move rfl) ?_
    refine HO.val (v := .int .i64 a) (want_none) rfl (q_move rfl) ?_
    refine HO.val (v := .func (.func g_cmp) fs_cmp cs_cmp) (want_none) rfl (q_move rfl) ?_
    refine HO.call (want_none) rfl (ec en_100 rfl rfl) (slices_siftDownCmpFunc_string_walk (fr := (fr)) data_2 i_1 (b - a) a cf_cmp vdata g_cmp fs_cmp cs_cmp hS hF_cf_cmp hM) ?_
    rintro _ h_2 ⟨F_2, data_3, rfl, hk, hS, _, hM⟩
    replace hK := hK.trans hk
    replace hF_cf_cmp := hF_cf_cmp.kp hk
    refine HO.nil (blockQ_normal (thenQ_normal (?_)))
    refine HW.region ?_
    refine HO.val (v := .int .i64 i_1) (want_none) rfl (q_move rfl) ?_
    obtain ⟨ho_4, hM⟩ := hM
    refine HO.val (v := .int .i64 (i_1 - 1)) (want_none) rfl (q_subN _ rfl rfl rfl ho_4.1 ho_4.2) ?_
    refine HO.val (v := .int .i64 (i_1 - 1)) (want_none) rfl (q_assign rfl) ?_
    refine HO.nil (thenQ_normal (?_))
    rw [hKe_1] at hM
    exact ⟨(data_3, i_1 - 1), ⟨F_2, rfl, rfl, rfl, rfl, rfl, rfl, hK, hS, hF_cf_cmp, hM.1⟩, hM.2⟩
  · replace hM := hM.2 (of_decide_eq_false c_1)
    refine HW.exit (thenQ_exit (thenQ_exit (blockQ_exit (thenQ_normal (?_)))))
    refine HW.seq ?_
    refine HW.region ?_
    refine HO.val (v := .int .i64 (b - a)) (want_none) rfl (q_move rfl) ?_
    obtain ⟨ho_5, hM⟩ := hM
    refine HO.val (v := .int .i64 ((b - a) - 1)) (want_none) rfl (q_subN _ rfl rfl rfl ho_5.1 ho_5.2) ?_
    refine HO.val (v := .int .i64 ((b - a) - 1)) (want_none) rfl (q_assign rfl) ?_
    refine HO.nil (thenQ_normal (?_))
    refine HW.block ?_
    obtain ⟨I_2, m_2, hI_2, hR_2⟩ := hM
    refine HW.loop (S := List Str × Int) (fun s f h => match s with | (data_4, i_2) => ∃ (F' : Fz), f 0 = vdata ∧ f 3 = .func (.func g_cmp) fs_cmp cs_cmp ∧ f 8 = .int .i64 a ∧ f 9 = .int .i64 0 ∧ f 12 = .int .i64 i_2 ∧ Kp F h0 F' h ∧ St F' (Ow.own 9 1 encT vdata data_4 :: fr) h ∧ (FnP Try.prog F' h g_cmp fs_cmp cs_cmp (fun x : Str × Str => [.string (bs x.1), .string (bs x.2)]) (fun x => .int .i64 (cf_cmp x.1 x.2))) ∧ I_2 (data_4, i_2)) m_2 (data_2, (b - a) - 1) ⟨F_1, rfl, rfl, rfl, rfl, rfl, hK, hS, hF_cf_cmp, hI_2⟩ ?_
    rintro ⟨data_4, i_2⟩ f_2 h_3 ⟨F_3, e0, e3, e8, e9, e12, hK, hS, hF_cf_cmp, hI0⟩
    obtain ⟨K_2, hKe_2⟩ : ∃ K : (List Str) → Int → Prop, K = fun data_4' i_2' => I_2 (data_4', i_2') ∧ m_2 (data_4', i_2') < m_2 (data_4, i_2) := ⟨_, rfl⟩
    have hM : slices_heapSortCmpFunc_string_l2 a cf_cmp Q K_2 data_4 i_2 := by rw [hKe_2]; exact hR_2 (data_4, i_2) hI0
    unfold slices_heapSortCmpFunc_string_l2 at hM
    refine HW.fr [(0, vdata), (3, .func (.func g_cmp) fs_cmp cs_cmp), (8, .int .i64 a), (9, .int .i64 0), (12, .int .i64 i_2)] ⟨e0, e3, e8, e9, e12, trivial⟩ ?_
    refine HW.seq ?_
    refine HW.seq ?_
    refine HW.region ?_
    refine HO.val (v := .int .i64 i_2) (want_none) rfl (q_move rfl) ?_
    refine HO.val (v := .bool (decide (0 ≤ i_2))) (want_none) rfl (q_geq rfl rfl) ?_
    refine HO.nil (thenQ_normal (?_))
    refine HW.cond (decide (0 ≤ i_2)) rfl (fun c_2 => ?_) (fun c_2 => ?_)
    · replace hM := hM.1 (of_decide_eq_true c_2)
      refine HW.skip (thenQ_normal (?_))
      refine HW.seq ?_
      refine HW.block ?_
      refine HW.seq ?_
      refine HW.regionA 20 mixed (fun h => True) [(17, fun h => (OwnIs h 0 9 1 encT vdata data_4))] (by kernel_rfl) ?_
      refine HA.val (k := 0) (v := vdata) rfl rfl (by kernel_rfl) (by kernel_rfl) (want_none) rfl (fun _ _ => q_move rfl) ?_
      refine HA.val (k := 1) (v := .int .i64 a) rfl rfl (by kernel_rfl) (by kernel_rfl) (want_none) rfl (fun _ _ => q_move rfl) ?_
      refine HA.val (k := 2) (v := vdata) rfl rfl (by kernel_rfl) (by kernel_rfl) (want_none) rfl (fun _ _ => q_move rfl) ?_
      refine HA.val (k := 3) (v := .int .i64 a) rfl rfl (by kernel_rfl) (by kernel_rfl) (want_none) rfl (fun _ _ => q_move rfl) ?_
      refine HA.val (k := 4) (v := .int .i64 i_2) rfl rfl (by kernel_rfl) (by kernel_rfl) (want_none) rfl (fun _ _ => q_move rfl) ?_
      obtain ⟨ho_6, hM⟩ := hM
      refine HA.val (k := 5) (v := .int .i64 (a + i_2)) rfl rfl (by kernel_rfl) (by kernel_rfl) (want_none) rfl (fun _ _ => q_addN _ rfl rfl rfl ho_6.1 ho_6.2) ?_
      refine HA.val (k := 6) (v := vdata) rfl rfl (by kernel_rfl) (by kernel_rfl) (want_none) rfl (fun _ _ => q_move rfl) ?_
      refine HA.val (k := 7) (v := .int .i64 a) rfl rfl (by kernel_rfl) (by kernel_rfl) (want_none) rfl (fun _ _ => q_move rfl) ?_
      refine HA.val (k := 8) (v := .int .i64 i_2) rfl rfl (by kernel_rfl) (by kernel_rfl) (want_none) rfl (fun _ _ => q_move rfl) ?_
      refine HA.val (k := 9) (v := .int .i64 (a + i_2)) rfl rfl (by kernel_rfl) (by kernel_rfl) (want_none) rfl (fun _ _ => q_addN _ rfl rfl rfl ho_6.1 ho_6.2) ?_
      obtain ⟨ho_7, hM⟩ := hM
      refine Go.Wk.HA.valN (k := 10) (v := elemPtr 1 vdata (a + i_2).toNat) 0 17 (fun h => (OwnIs h 0 9 1 encT vdata data_4)) rfl rfl (by kernel_rfl) (by kernel_rfl) (want_none) rfl rfl (by kernel_rfl) (fun _ _ c504 => q_idx ts_36 c504.slice rfl rfl ho_7) ?_
      refine Go.Wk.HA.valN (k := 11) (v := .string (bs (gi data_4 (a + i_2)))) 0 17 (fun h => (OwnIs h 0 9 1 encT vdata data_4)) rfl rfl (by kernel_rfl) (by kernel_rfl) (want_none) rfl rfl (by kernel_rfl) (fun _ _ c504 => q_ldElem to_9 c504.slice rfl ho_7 rfl) ?_
      refine HA.val (k := 12) (v := vdata) rfl rfl (by kernel_rfl) (by kernel_rfl) (want_none) rfl (fun _ _ => q_move rfl) ?_
      refine HA.val (k := 13) (v := .int .i64 a) rfl rfl (by kernel_rfl) (by kernel_rfl) (want_none) rfl (fun _ _ => q_move rfl) ?_
      obtain ⟨ho_8, hM⟩ := hM
      refine Go.Wk.HA.valN (k := 14) (v := elemPtr 1 vdata (a).toNat) 0 17 (fun h => (OwnIs h 0 9 1 encT vdata data_4)) rfl rfl (by kernel_rfl) (by kernel_rfl) (want_none) rfl rfl (by kernel_rfl) (fun _ _ c504 => q_idx ts_36 c504.slice rfl rfl ho_8) ?_
      refine Go.Wk.HA.valN (k := 15) (v := .string (bs (gi data_4 a))) 0 17 (fun h => (OwnIs h 0 9 1 encT vdata data_4)) rfl rfl (by kernel_rfl) (by kernel_rfl) (want_none) rfl rfl (by kernel_rfl) (fun _ _ c504 => q_ldElem to_9 c504.slice rfl ho_8 rfl) ?_
      refine Go.Wk.HA.valN (k := 16) (v := elemPtr 1 vdata (a).toNat) 0 17 (fun h => (OwnIs h 0 9 1 encT vdata data_4)) rfl rfl (by kernel_rfl) (by kernel_rfl) (want_none) rfl rfl (by kernel_rfl) (fun _ _ c504 => q_idx ts_36 c504.slice rfl rfl ho_8) ?_
      refine HA.one (k := 17) ⟨trivial, (at_now (hS.own 0 rfl) (Go.Wk.at_nil _ _))⟩ (by kernel_rfl) ?_
      refine HS.sto rfl (want_none) rfl (st_storeField (a := (gi data_4 (a + i_2))) (n := (a).toNat) (j := 0) hS (i := 0) rfl to_9 (elem_field _ _ _) (by omega) (by decide) rfl (by rw [← gi_lt ho_8.1 ho_8.2]; rfl) rfl rfl) ?_
      rintro h_4 ⟨hS, hk⟩
      replace hS : St F_3 (Ow.own 9 1 encT vdata (data_4.set (a).toNat (gi data_4 (a + i_2))) :: fr) h_4 := hS
      replace hK := hK.trans hk
      replace hF_cf_cmp := hF_cf_cmp.kp hk
      refine Go.Wk.HA.re (fun h => True) [(19, fun h => (OwnIs h 0 9 1 encT vdata (data_4.set (a).toNat (gi data_4 (a + i_2)))))] (fun L_ h_ hL_ _ hs_ => ⟨trivial, (at_gone hL_ (by kernel_rfl) (Go.Wk.at_nil _ _))⟩) ?_
      obtain ⟨ho_9, hM⟩ := hM
      refine Go.Wk.HA.valN (k := 18) (v := elemPtr 1 vdata (a + i_2).toNat) 0 19 (fun h => (OwnIs h 0 9 1 encT vdata (data_4.set (a).toNat (gi data_4 (a + i_2))))) rfl rfl (by kernel_rfl) (by kernel_rfl) (want_none) rfl rfl (by kernel_rfl) (fun _ _ c504 => q_idx ts_36 c504.slice rfl rfl ho_9) ?_
      refine HA.one (k := 19) ⟨trivial, (at_now (hS.own 0 rfl) (Go.Wk.at_nil _ _))⟩ (by kernel_rfl) ?_
      refine HS.sto rfl (want_none) rfl (st_storeField (a := (gi data_4 a)) (n := (a + i_2).toNat) (j := 0) hS (i := 0) rfl to_9 (elem_field _ _ _) (by omega) (by decide) rfl (by rw [← gi_lt ho_9.1 ho_9.2]; rfl) rfl rfl) ?_
      rintro h_5 ⟨hS, hk⟩
      replace hS : St F_3 (Ow.own 9 1 encT vdata ((data_4.set (a).toNat (gi data_4 (a + i_2))).set (a + i_2).toNat (gi data_4 a)) :: fr) h_5 := hS
      replace hK := hK.trans hk
      replace hF_cf_cmp := hF_cf_cmp.kp hk
      refine HA.nil ⟨trivial, (at_done (by kernel_rfl) (Go.Wk.at_nil _ _))⟩ (by kernel_rfl) (thenQ_normal (?_))
      refine HW.region ?_
      refine HO.val (v := vdata) (want_none) rfl (q_move rfl) ?_
      refine HO.val (v := .int .i64 0) (want_none) rfl (q_move rfl) ?_
      refine HO.val (v := .int .i64 i_2) (want_none) rfl (q_move rfl) ?_
      refine HO.val (v := .int .i64 a) (want_none) rfl (q_move rfl) ?_
      refine HO.val (v := .func (.func g_cmp) fs_cmp cs_cmp) (want_none) rfl (q_move rfl) ?_
      refine HO.call (want_none) rfl (ec en_100 rfl rfl) (slices_siftDownCmpFunc_string_walk (fr := (fr)) ((data_4.set (a).toNat (gi data_4 (a + i_2))).set (a + i_2).toNat (gi data_4 a)) 0 i_2 a cf_cmp vdata g_cmp fs_cmp cs_cmp hS hF_cf_cmp hM) ?_
      rintro _ h_6 ⟨F_4, data_5, rfl, hk, hS, _, hM⟩
      replace hK := hK.trans hk
      replace hF_cf_cmp := hF_cf_cmp.kp hk
      refine HO.nil (blockQ_normal (thenQ_normal (?_)))
      refine HW.region ?_
      refine HO.val (v := .int .i64 i_2) (want_none) rfl (q_move rfl) ?_
      obtain ⟨ho_10, hM⟩ := hM
      refine HO.val (v := .int .i64 (i_2 - 1)) (want_none) rfl (q_subN _ rfl rfl rfl ho_10.1 ho_10.2) ?_
      refine HO.val (v := .int .i64 (i_2 - 1)) (want_none) rfl (q_assign rfl) ?_
      refine HO.nil (thenQ_normal (?_))
      rw [hKe_2] at hM
      exact ⟨(data_5, i_2 - 1), ⟨F_4, rfl, rfl, rfl, rfl, rfl, hK, hS, hF_cf_cmp, hM.1⟩, hM.2⟩
    · replace hM := hM.2 (of_decide_eq_false c_2)
      refine HW.exit (thenQ_exit (thenQ_exit (blockQ_exit (?_))))
      refine ⟨.inl rfl, .tuple #[], res0 rfl , ?_⟩
      exact ⟨F_3, data_4, rfl, hK, hS, hF_cf_cmp, hM⟩

def slices_nextPowerOfTwo_W (length : Int) (Q : Int → Prop) : Prop :=
  ((0 : Int) ≤ (IntKind.u64.wrap length) ∧ (IntKind.u64.wrap length) ≤ 18446744073709551615) ∧ (((0 : Int) ≤ blen (IntKind.u64.wrap length)) ∧ (Q (IntKind.u64.wrap ((1 : Int) * 2 ^ (min (blen (IntKind.u64.wrap length)).toNat IntKind.u64.bits)))))
set_option maxHeartbeats 40000000 in
set_option maxRecDepth 100000 in
theorem slices_nextPowerOfTwo_walk {F : Fz} {fr : List Ow} {h0 : Heap} (length : Int) (hS : St F (fr) h0)  {Q : Int → Prop} (hM : slices_nextPowerOfTwo_W length Q) :
    HC Try.prog 101 #[.int .i64 length] h0 fun u h' => ∃ (F' : Fz) (r_1 : Int), u = .int .u64 r_1 ∧ Kp F h0 F' h' ∧ St F' (fr) h' ∧ Q r_1 := by
  unfold slices_nextPowerOfTwo_W at hM
  have hK := Kp.refl F h0
  refine HC.of_HW (n := 7) Try.func101 rfl rfl (Nat.le_of_ble_eq_true rfl) ?_
  refine HW.seq ?_
  refine HW.region ?_
  refine HO.val (v := .int .u64 0) (want_none) rfl (q_assign rfl) ?_
  refine HO.nil (thenQ_normal (?_))
  refine HW.seq ?_
  refine HW.region ?_
  refine HO.val (v := .int .i64 length) (want_none) rfl (q_move rfl) ?_
  refine HO.val (v := .int .u64 (IntKind.u64.wrap length)) (want_none) rfl (q_convInt Try.underlying3 Try.underlying109 rfl rfl) ?_
  obtain ⟨ho_1, hM⟩ := hM
  refine HO.call (want_none) rfl (ec en_74 rfl rfl) (blen_hc Try.blen (IntKind.u64.wrap length) ho_1 _) ?_
  rintro _ h_1 ⟨rfl, hEq⟩
  rw [hEq]
  obtain ⟨ho_2, hM⟩ := hM
  refine HO.val (v := .int .u64 (IntKind.u64.wrap ((1 : Int) * 2 ^ (min (blen (IntKind.u64.wrap length)).toNat IntKind.u64.bits)))) (want_none) rfl (q_shl rfl rfl ho_2 rfl) ?_
  refine HO.val (v := .int .u64 (IntKind.u64.wrap ((1 : Int) * 2 ^ (min (blen (IntKind.u64.wrap length)).toNat IntKind.u64.bits)))) (want_none) rfl (q_assign rfl) ?_
  refine HO.nil (thenQ_normal (?_))
  refine HW.ret (?_)
  refine ⟨.inr rfl, .int .u64 (IntKind.u64.wrap ((1 : Int) * 2 ^ (min (blen (IntKind.u64.wrap length)).toNat IntKind.u64.bits))), res1 rfl (rt rfl), ?_⟩
  exact ⟨F, IntKind.u64.wrap ((1 : Int) * 2 ^ (min (blen (IntKind.u64.wrap length)).toNat IntKind.u64.bits)), rfl, hK, hS, hM⟩

def slices_xorshift_Next_W (r_v : Int) (Q : Int → Int → Prop) : Prop :=
  Q (bits .xor .u64 (bits .xor .u64 (bits .xor .u64 r_v (IntKind.u64.wrap (r_v * 2 ^ (min (13 : Int).toNat IntKind.u64.bits)))) ((bits .xor .u64 r_v (IntKind.u64.wrap (r_v * 2 ^ (min (13 : Int).toNat IntKind.u64.bits)))).fdiv (2 ^ (min (7 : Int).toNat IntKind.u64.bits)))) (IntKind.u64.wrap ((bits .xor .u64 (bits .xor .u64 r_v (IntKind.u64.wrap (r_v * 2 ^ (min (13 : Int).toNat IntKind.u64.bits)))) ((bits .xor .u64 r_v (IntKind.u64.wrap (r_v * 2 ^ (min (13 : Int).toNat IntKind.u64.bits)))).fdiv (2 ^ (min (7 : Int).toNat IntKind.u64.bits)))) * 2 ^ (min (17 : Int).toNat IntKind.u64.bits)))) (bits .xor .u64 (bits .xor .u64 (bits .xor .u64 r_v (IntKind.u64.wrap (r_v * 2 ^ (min (13 : Int).toNat IntKind.u64.bits)))) ((bits .xor .u64 r_v (IntKind.u64.wrap (r_v * 2 ^ (min (13 : Int).toNat IntKind.u64.bits)))).fdiv (2 ^ (min (7 : Int).toNat IntKind.u64.bits)))) (IntKind.u64.wrap ((bits .xor .u64 (bits .xor .u64 r_v (IntKind.u64.wrap (r_v * 2 ^ (min (13 : Int).toNat IntKind.u64.bits)))) ((bits .xor .u64 r_v (IntKind.u64.wrap (r_v * 2 ^ (min (13 : Int).toNat IntKind.u64.bits)))).fdiv (2 ^ (min (7 : Int).toNat IntKind.u64.bits)))) * 2 ^ (min (17 : Int).toNat IntKind.u64.bits))))
set_option maxHeartbeats 40000000 in
set_option maxRecDepth 100000 in
theorem slices_xorshift_Next_walk {F : Fz} {fr : List Ow} {h0 : Heap} (r_v : Int) (br : Nat) (hS : St F (Ow.box br 130 #[.int .u64 r_v] :: fr) h0)  {Q : Int → Int → Prop} (hM : slices_xorshift_Next_W r_v Q) :
    HC Try.prog 102 #[.pointer (some ⟨br, 0, none⟩)] h0 fun u h' => ∃ (F' : Fz) (r_1 : Int) (r_0_1 : Int), u = .int .u64 r_1 ∧ Kp F h0 F' h' ∧ St F' (Ow.box br 130 #[.int .u64 r_0_1] :: fr) h' ∧ Q r_1 r_0_1 := by
  unfold slices_xorshift_Next_W at hM
  have hK := Kp.refl F h0
  refine HC.of_HW (n := 33) Try.func102 rfl rfl (Nat.le_of_ble_eq_true rfl) ?_
  refine HW.seq ?_
  refine HW.region ?_
  refine HO.val (v := .int .u64 0) (want_none) rfl (q_assign rfl) ?_
  refine HO.nil (thenQ_normal (?_))
  refine HW.seq ?_
  refine HW.regionA 10 mixed (fun h => True) [(9, fun h => (Blk h br (.cells #[.int .u64 r_v] 130 (0, 0))))] (by kernel_rfl) ?_
  refine HA.val (k := 0) (v := .pointer (some ⟨br, 0, none⟩)) rfl rfl (by kernel_rfl) (by kernel_rfl) (want_none) rfl (fun _ _ => q_move rfl) ?_
  refine HA.val (k := 1) (v := .pointer (some ⟨br, 0, none⟩)) rfl rfl (by kernel_rfl) (by kernel_rfl) (want_none) rfl (fun _ _ => q_nilCheck rfl) ?_
  refine Go.Wk.HA.valN (k := 2) (v := .int .u64 r_v) 0 9 (fun h => (Blk h br (.cells #[.int .u64 r_v] 130 (0, 0)))) rfl rfl (by kernel_rfl) (by kernel_rfl) (want_none) rfl rfl (by kernel_rfl) (fun _ _ c1 => q_load to_130 rfl (Blk.cell c1 rfl)) ?_
  refine HA.val (k := 3) (v := .pointer (some ⟨br, 0, none⟩)) rfl rfl (by kernel_rfl) (by kernel_rfl) (want_none) rfl (fun _ _ => q_move rfl) ?_
  refine HA.val (k := 4) (v := .pointer (some ⟨br, 0, none⟩)) rfl rfl (by kernel_rfl) (by kernel_rfl) (want_none) rfl (fun _ _ => q_nilCheck rfl) ?_
  refine Go.Wk.HA.valN (k := 5) (v := .int .u64 r_v) 0 9 (fun h => (Blk h br (.cells #[.int .u64 r_v] 130 (0, 0)))) rfl rfl (by kernel_rfl) (by kernel_rfl) (want_none) rfl rfl (by kernel_rfl) (fun _ _ c1 => q_load to_130 rfl (Blk.cell c1 rfl)) ?_
  refine HA.val (k := 6) (v := .int .u64 (IntKind.u64.wrap (r_v * 2 ^ (min (13 : Int).toNat IntKind.u64.bits)))) rfl rfl (by kernel_rfl) (by kernel_rfl) (want_none) rfl (fun _ _ => q_shl rfl rfl (by decide) rfl) ?_
  refine HA.val (k := 7) (v := .int .u64 (bits .xor .u64 r_v (IntKind.u64.wrap (r_v * 2 ^ (min (13 : Int).toNat IntKind.u64.bits))))) rfl rfl (by kernel_rfl) (by kernel_rfl) (want_none) rfl (fun _ _ => q_bits (by simp) rfl rfl) ?_
  refine HA.val (k := 8) (v := .pointer (some ⟨br, 0, none⟩)) rfl rfl (by kernel_rfl) (by kernel_rfl) (want_none) rfl (fun _ _ => q_nilCheck rfl) ?_
  refine HA.one (k := 9) ⟨trivial, (at_now (hS.box 0 rfl) (Go.Wk.at_nil _ _))⟩ (by kernel_rfl) ?_
  refine HS.sto rfl (want_none) rfl (st_store (c' := #[.int .u64 (bits .xor .u64 r_v (IntKind.u64.wrap (r_v * 2 ^ (min (13 : Int).toNat IntKind.u64.bits))))]) hS (i := 0) rfl to_130 rfl rfl rfl rfl (Nat.le_of_ble_eq_true rfl) rfl) ?_
  rintro h_1 ⟨hS, hk⟩
  replace hS : St F (Ow.box br 130 #[.int .u64 (bits .xor .u64 r_v (IntKind.u64.wrap (r_v * 2 ^ (min (13 : Int).toNat IntKind.u64.bits))))] :: fr) h_1 := hS
  replace hK := hK.trans hk
  refine HA.nil ⟨trivial, (at_done (by kernel_rfl) (Go.Wk.at_nil _ _))⟩ (by kernel_rfl) (thenQ_normal (?_))
  refine HW.seq ?_
  refine HW.regionA 10 mixed (fun h => True) [(9, fun h => (Blk h br (.cells #[.int .u64 (bits .xor .u64 r_v (IntKind.u64.wrap (r_v * 2 ^ (min (13 : Int).toNat IntKind.u64.bits))))] 130 (0, 0))))] (by kernel_rfl) ?_
  refine HA.val (k := 0) (v := .pointer (some ⟨br, 0, none⟩)) rfl rfl (by kernel_rfl) (by kernel_rfl) (want_none) rfl (fun _ _ => q_move rfl) ?_
  refine HA.val (k := 1) (v := .pointer (some ⟨br, 0, none⟩)) rfl rfl (by kernel_rfl) (by kernel_rfl) (want_none) rfl (fun _ _ => q_nilCheck rfl) ?_
  refine Go.Wk.HA.valN (k := 2) (v := .int .u64 (bits .xor .u64 r_v (IntKind.u64.wrap (r_v * 2 ^ (min (13 : Int).toNat IntKind.u64.bits))))) 0 9 (fun h => (Blk h br (.cells #[.int .u64 (bits .xor .u64 r_v (IntKind.u64.wrap (r_v * 2 ^ (min (13 : Int).toNat IntKind.u64.bits))))] 130 (0, 0)))) rfl rfl (by kernel_rfl) (by kernel_rfl) (want_none) rfl rfl (by kernel_rfl) (fun _ _ c1 => q_load to_130 rfl (Blk.cell c1 rfl)) ?_
  refine HA.val (k := 3) (v := .pointer (some ⟨br, 0, none⟩)) rfl rfl (by kernel_rfl) (by kernel_rfl) (want_none) rfl (fun _ _ => q_move rfl) ?_
  refine HA.val (k := 4) (v := .pointer (some ⟨br, 0, none⟩)) rfl rfl (by kernel_rfl) (by kernel_rfl) (want_none) rfl (fun _ _ => q_nilCheck rfl) ?_
  refine Go.Wk.HA.valN (k := 5) (v := .int .u64 (bits .xor .u64 r_v (IntKind.u64.wrap (r_v * 2 ^ (min (13 : Int).toNat IntKind.u64.bits))))) 0 9 (fun h => (Blk h br (.cells #[.int .u64 (bits .xor .u64 r_v (IntKind.u64.wrap (r_v * 2 ^ (min (13 : Int).toNat IntKind.u64.bits))))] 130 (0, 0)))) rfl rfl (by kernel_rfl) (by kernel_rfl) (want_none) rfl rfl (by kernel_rfl) (fun _ _ c1 => q_load to_130 rfl (Blk.cell c1 rfl)) ?_
  refine HA.val (k := 6) (v := .int .u64 ((bits .xor .u64 r_v (IntKind.u64.wrap (r_v * 2 ^ (min (13 : Int).toNat IntKind.u64.bits)))).fdiv (2 ^ (min (7 : Int).toNat IntKind.u64.bits)))) rfl rfl (by kernel_rfl) (by kernel_rfl) (want_none) rfl (fun _ _ => q_shr rfl rfl (by decide) rfl) ?_
  refine HA.val (k := 7) (v := .int .u64 (bits .xor .u64 (bits .xor .u64 r_v (IntKind.u64.wrap (r_v * 2 ^ (min (13 : Int).toNat IntKind.u64.bits)))) ((bits .xor .u64 r_v (IntKind.u64.wrap (r_v * 2 ^ (min (13 : Int).toNat IntKind.u64.bits)))).fdiv (2 ^ (min (7 : Int).toNat IntKind.u64.bits))))) rfl rfl (by kernel_rfl) (by kernel_rfl) (want_none) rfl (fun _ _ => q_bits (by simp) rfl rfl) ?_
  refine HA.val (k := 8) (v := .pointer (some ⟨br, 0, none⟩)) rfl rfl (by kernel_rfl) (by kernel_rfl) (want_none) rfl (fun _ _ => q_nilCheck rfl) ?_
  refine HA.one (k := 9) ⟨trivial, (at_now (hS.box 0 rfl) (Go.Wk.at_nil _ _))⟩ (by kernel_rfl) ?_
  refine HS.sto rfl (want_none) rfl (st_store (c' := #[.int .u64 (bits .xor .u64 (bits .xor .u64 r_v (IntKind.u64.wrap (r_v * 2 ^ (min (13 : Int).toNat IntKind.u64.bits)))) ((bits .xor .u64 r_v (IntKind.u64.wrap (r_v * 2 ^ (min (13 : Int).toNat IntKind.u64.bits)))).fdiv (2 ^ (min (7 : Int).toNat IntKind.u64.bits))))]) hS (i := 0) rfl to_130 rfl rfl rfl rfl (Nat.le_of_ble_eq_true rfl) rfl) ?_
  rintro h_2 ⟨hS, hk⟩
  replace hS : St F (Ow.box br 130 #[.int .u64 (bits .xor .u64 (bits .xor .u64 r_v (IntKind.u64.wrap (r_v * 2 ^ (min (13 : Int).toNat IntKind.u64.bits)))) ((bits .xor .u64 r_v (IntKind.u64.wrap (r_v * 2 ^ (min (13 : Int).toNat IntKind.u64.bits)))).fdiv (2 ^ (min (7 : Int).toNat IntKind.u64.bits))))] :: fr) h_2 := hS
  replace hK := hK.trans hk
  refine HA.nil ⟨trivial, (at_done (by kernel_rfl) (Go.Wk.at_nil _ _))⟩ (by kernel_rfl) (thenQ_normal (?_))
  refine HW.seq ?_
  refine HW.regionA 10 mixed (fun h => True) [(9, fun h => (Blk h br (.cells #[.int .u64 (bits .xor .u64 (bits .xor .u64 r_v (IntKind.u64.wrap (r_v * 2 ^ (min (13 : Int).toNat IntKind.u64.bits)))) ((bits .xor .u64 r_v (IntKind.u64.wrap (r_v * 2 ^ (min (13 : Int).toNat IntKind.u64.bits)))).fdiv (2 ^ (min (7 : Int).toNat IntKind.u64.bits))))] 130 (0, 0))))] (by kernel_rfl) ?_
  refine HA.val (k := 0) (v := .pointer (some ⟨br, 0, none⟩)) rfl rfl (by kernel_rfl) (by kernel_rfl) (want_none) rfl (fun _ _ => q_move rfl) ?_
  refine HA.val (k := 1) (v := .pointer (some ⟨br, 0, none⟩)) rfl rfl (by kernel_rfl) (by kernel_rfl) (want_none) rfl (fun _ _ => q_nilCheck rfl) ?_
  refine Go.Wk.HA.valN (k := 2) (v := .int .u64 (bits .xor .u64 (bits .xor .u64 r_v (IntKind.u64.wrap (r_v * 2 ^ (min (13 : Int).toNat IntKind.u64.bits)))) ((bits .xor .u64 r_v (IntKind.u64.wrap (r_v * 2 ^ (min (13 : Int).toNat IntKind.u64.bits)))).fdiv (2 ^ (min (7 : Int).toNat IntKind.u64.bits))))) 0 9 (fun h => (Blk h br (.cells #[.int .u64 (bits .xor .u64 (bits .xor .u64 r_v (IntKind.u64.wrap (r_v * 2 ^ (min (13 : Int).toNat IntKind.u64.bits)))) ((bits .xor .u64 r_v (IntKind.u64.wrap (r_v * 2 ^ (min (13 : Int).toNat IntKind.u64.bits)))).fdiv (2 ^ (min (7 : Int).toNat IntKind.u64.bits))))] 130 (0, 0)))) rfl rfl (by kernel_rfl) (by kernel_rfl) (want_none) rfl rfl (by kernel_rfl) (fun _ _ c1 => q_load to_130 rfl (Blk.cell c1 rfl)) ?_
  refine HA.val (k := 3) (v := .pointer (some ⟨br, 0, none⟩)) rfl rfl (by kernel_rfl) (by kernel_rfl) (want_none) rfl (fun _ _ => q_move rfl) ?_
  refine HA.val (k := 4) (v := .pointer (some ⟨br, 0, none⟩)) rfl rfl (by kernel_rfl) (by kernel_rfl) (want_none) rfl (fun _ _ => q_nilCheck rfl) ?_
  refine Go.Wk.HA.valN (k := 5) (v := .int .u64 (bits .xor .u64 (bits .xor .u64 r_v (IntKind.u64.wrap (r_v * 2 ^ (min (13 : Int).toNat IntKind.u64.bits)))) ((bits .xor .u64 r_v (IntKind.u64.wrap (r_v * 2 ^ (min (13 : Int).toNat IntKind.u64.bits)))).fdiv (2 ^ (min (7 : Int).toNat IntKind.u64.bits))))) 0 9 (fun h => (Blk h br (.cells #[.int .u64 (bits .xor .u64 (bits .xor .u64 r_v (IntKind.u64.wrap (r_v * 2 ^ (min (13 : Int).toNat IntKind.u64.bits)))) ((bits .xor .u64 r_v (IntKind.u64.wrap (r_v * 2 ^ (min (13 : Int).toNat IntKind.u64.bits)))).fdiv (2 ^ (min (7 : Int).toNat IntKind.u64.bits))))] 130 (0, 0)))) rfl rfl (by kernel_rfl) (by kernel_rfl) (want_none) rfl rfl (by kernel_rfl) (fun _ _ c1 => q_load to_130 rfl (Blk.cell c1 rfl)) ?_
  refine HA.val (k := 6) (v := .int .u64 (IntKind.u64.wrap ((bits .xor .u64 (bits .xor .u64 r_v (IntKind.u64.wrap (r_v * 2 ^ (min (13 : Int).toNat IntKind.u64.bits)))) ((bits .xor .u64 r_v (IntKind.u64.wrap (r_v * 2 ^ (min (13 : Int).toNat IntKind.u64.bits)))).fdiv (2 ^ (min (7 : Int).toNat IntKind.u64.bits)))) * 2 ^ (min (17 : Int).toNat IntKind.u64.bits)))) rfl rfl (by kernel_rfl) (by kernel_rfl) (want_none) rfl (fun _ _ => q_shl rfl rfl (by decide) rfl) ?_
  refine HA.val (k := 7) (v := .int .u64 (bits .xor .u64 (bits .xor .u64 (bits .xor .u64 r_v (IntKind.u64.wrap (r_v * 2 ^ (min (13 : Int).toNat IntKind.u64.bits)))) ((bits .xor .u64 r_v (IntKind.u64.wrap (r_v * 2 ^ (min (13 : Int).toNat IntKind.u64.bits)))).fdiv (2 ^ (min (7 : Int).toNat IntKind.u64.bits)))) (IntKind.u64.wrap ((bits .xor .u64 (bits .xor .u64 r_v (IntKind.u64.wrap (r_v * 2 ^ (min (13 : Int).toNat IntKind.u64.bits)))) ((bits .xor .u64 r_v (IntKind.u64.wrap (r_v * 2 ^ (min (13 : Int).toNat IntKind.u64.bits)))).fdiv (2 ^ (min (7 : Int).toNat IntKind.u64.bits)))) * 2 ^ (min (17 : Int).toNat IntKind.u64.bits))))) rfl rfl (by kernel_rfl) (by kernel_rfl) (want_none) rfl (fun _ _ => q_bits (by simp) rfl rfl) ?_
  refine HA.val (k := 8) (v := .pointer (some ⟨br, 0, none⟩)) rfl rfl (by kernel_rfl) (by kernel_rfl) (want_none) rfl (fun _ _ => q_nilCheck rfl) ?_
  refine HA.one (k := 9) ⟨trivial, (at_now (hS.box 0 rfl) (Go.Wk.at_nil _ _))⟩ (by kernel_rfl) ?_
  refine HS.sto rfl (want_none) rfl (st_store (c' := #[.int .u64 (bits .xor .u64 (bits .xor .u64 (bits .xor .u64 r_v (IntKind.u64.wrap (r_v * 2 ^ (min (13 : Int).toNat IntKind.u64.bits)))) ((bits .xor .u64 r_v (IntKind.u64.wrap (r_v * 2 ^ (min (13 : Int).toNat IntKind.u64.bits)))).fdiv (2 ^ (min (7 : Int).toNat IntKind.u64.bits)))) (IntKind.u64.wrap ((bits .xor .u64 (bits .xor .u64 r_v (IntKind.u64.wrap (r_v * 2 ^ (min (13 : Int).toNat IntKind.u64.bits)))) ((bits .xor .u64 r_v (IntKind.u64.wrap (r_v * 2 ^ (min (13 : Int).toNat IntKind.u64.bits)))).fdiv (2 ^ (min (7 : Int).toNat IntKind.u64.bits)))) * 2 ^ (min (17 : Int).toNat IntKind.u64.bits))))]) hS (i := 0) rfl to_130 rfl rfl rfl rfl (Nat.le_of_ble_eq_true rfl) rfl) ?_
  rintro h_3 ⟨hS, hk⟩
  replace hS : St F (Ow.box br 130 #[.int .u64 (bits .xor .u64 (bits .xor .u64 (bits .xor .u64 r_v (IntKind.u64.wrap (r_v * 2 ^ (min (13 : Int).toNat IntKind.u64.bits)))) ((bits .xor .u64 r_v (IntKind.u64.wrap (r_v * 2 ^ (min (13 : Int).toNat IntKind.u64.bits)))).fdiv (2 ^ (min (7 : Int).toNat IntKind.u64.bits)))) (IntKind.u64.wrap ((bits .xor .u64 (bits .xor .u64 r_v (IntKind.u64.wrap (r_v * 2 ^ (min (13 : Int).toNat IntKind.u64.bits)))) ((bits .xor .u64 r_v (IntKind.u64.wrap (r_v * 2 ^ (min (13 : Int).toNat IntKind.u64.bits)))).fdiv (2 ^ (min (7 : Int).toNat IntKind.u64.bits)))) * 2 ^ (min (17 : Int).toNat IntKind.u64.bits))))] :: fr) h_3 := hS
  replace hK := hK.trans hk
  refine HA.nil ⟨trivial, (at_done (by kernel_rfl) (Go.Wk.at_nil _ _))⟩ (by kernel_rfl) (thenQ_normal (?_))
  refine HW.seq ?_
  refine HW.region ?_
  refine HO.val (v := .pointer (some ⟨br, 0, none⟩)) (want_none) rfl (q_move rfl) ?_
  refine HO.val (v := .pointer (some ⟨br, 0, none⟩)) (want_none) rfl (q_nilCheck rfl) ?_
  refine HO.val (v := .int .u64 (bits .xor .u64 (bits .xor .u64 (bits .xor .u64 r_v (IntKind.u64.wrap (r_v * 2 ^ (min (13 : Int).toNat IntKind.u64.bits)))) ((bits .xor .u64 r_v (IntKind.u64.wrap (r_v * 2 ^ (min (13 : Int).toNat IntKind.u64.bits)))).fdiv (2 ^ (min (7 : Int).toNat IntKind.u64.bits)))) (IntKind.u64.wrap ((bits .xor .u64 (bits .xor .u64 r_v (IntKind.u64.wrap (r_v * 2 ^ (min (13 : Int).toNat IntKind.u64.bits)))) ((bits .xor .u64 r_v (IntKind.u64.wrap (r_v * 2 ^ (min (13 : Int).toNat IntKind.u64.bits)))).fdiv (2 ^ (min (7 : Int).toNat IntKind.u64.bits)))) * 2 ^ (min (17 : Int).toNat IntKind.u64.bits))))) (want_none) rfl (q_load to_130 rfl (Blk.cell (hS.box 0 rfl) rfl)) ?_
  refine HO.val (v := .int .u64 (bits .xor .u64 (bits .xor .u64 (bits .xor .u64 r_v (IntKind.u64.wrap (r_v * 2 ^ (min (13 : Int).toNat IntKind.u64.bits)))) ((bits .xor .u64 r_v (IntKind.u64.wrap (r_v * 2 ^ (min (13 : Int).toNat IntKind.u64.bits)))).fdiv (2 ^ (min (7 : Int).toNat IntKind.u64.bits)))) (IntKind.u64.wrap ((bits .xor .u64 (bits .xor .u64 r_v (IntKind.u64.wrap (r_v * 2 ^ (min (13 : Int).toNat IntKind.u64.bits)))) ((bits .xor .u64 r_v (IntKind.u64.wrap (r_v * 2 ^ (min (13 : Int).toNat IntKind.u64.bits)))).fdiv (2 ^ (min (7 : Int).toNat IntKind.u64.bits)))) * 2 ^ (min (17 : Int).toNat IntKind.u64.bits))))) (want_none) rfl (q_assign rfl) ?_
  refine HO.nil (thenQ_normal (?_))
  refine HW.ret (?_)
  refine ⟨.inr rfl, .int .u64 (bits .xor .u64 (bits .xor .u64 (bits .xor .u64 r_v (IntKind.u64.wrap (r_v * 2 ^ (min (13 : Int).toNat IntKind.u64.bits)))) ((bits .xor .u64 r_v (IntKind.u64.wrap (r_v * 2 ^ (min (13 : Int).toNat IntKind.u64.bits)))).fdiv (2 ^ (min (7 : Int).toNat IntKind.u64.bits)))) (IntKind.u64.wrap ((bits .xor .u64 (bits .xor .u64 r_v (IntKind.u64.wrap (r_v * 2 ^ (min (13 : Int).toNat IntKind.u64.bits)))) ((bits .xor .u64 r_v (IntKind.u64.wrap (r_v * 2 ^ (min (13 : Int).toNat IntKind.u64.bits)))).fdiv (2 ^ (min (7 : Int).toNat IntKind.u64.bits)))) * 2 ^ (min (17 : Int).toNat IntKind.u64.bits)))), res1 rfl (rt rfl), ?_⟩
  exact ⟨F, bits .xor .u64 (bits .xor .u64 (bits .xor .u64 r_v (IntKind.u64.wrap (r_v * 2 ^ (min (13 : Int).toNat IntKind.u64.bits)))) ((bits .xor .u64 r_v (IntKind.u64.wrap (r_v * 2 ^ (min (13 : Int).toNat IntKind.u64.bits)))).fdiv (2 ^ (min (7 : Int).toNat IntKind.u64.bits)))) (IntKind.u64.wrap ((bits .xor .u64 (bits .xor .u64 r_v (IntKind.u64.wrap (r_v * 2 ^ (min (13 : Int).toNat IntKind.u64.bits)))) ((bits .xor .u64 r_v (IntKind.u64.wrap (r_v * 2 ^ (min (13 : Int).toNat IntKind.u64.bits)))).fdiv (2 ^ (min (7 : Int).toNat IntKind.u64.bits)))) * 2 ^ (min (17 : Int).toNat IntKind.u64.bits))), bits .xor .u64 (bits .xor .u64 (bits .xor .u64 r_v (IntKind.u64.wrap (r_v * 2 ^ (min (13 : Int).toNat IntKind.u64.bits)))) ((bits .xor .u64 r_v (IntKind.u64.wrap (r_v * 2 ^ (min (13 : Int).toNat IntKind.u64.bits)))).fdiv (2 ^ (min (7 : Int).toNat IntKind.u64.bits)))) (IntKind.u64.wrap ((bits .xor .u64 (bits .xor .u64 r_v (IntKind.u64.wrap (r_v * 2 ^ (min (13 : Int).toNat IntKind.u64.bits)))) ((bits .xor .u64 r_v (IntKind.u64.wrap (r_v * 2 ^ (min (13 : Int).toNat IntKind.u64.bits)))).fdiv (2 ^ (min (7 : Int).toNat IntKind.u64.bits)))) * 2 ^ (min (17 : Int).toNat IntKind.u64.bits))), rfl, hK, hS, hM⟩

def slices_breakPatternsCmpFunc_string_j1 (a : Int) (data_2 : List Str) (idx_1 : Int) (K_1 : (List Str) → Int → Int → Prop) (r_0_1 : Int) (other_1 : Int) : Prop :=
  (I64 (a + other_1)) ∧ (((0 : Int) ≤ a + other_1 ∧ a + other_1 < (data_2.length : Int)) ∧ (((0 : Int) ≤ idx_1 ∧ idx_1 < (data_2.length : Int)) ∧ (((0 : Int) ≤ a + other_1 ∧ a + other_1 < ((data_2.set (idx_1).toNat (gi data_2 (a + other_1))).length : Int)) ∧ ((I64 (idx_1 + 1)) ∧ (K_1 ((data_2.set (idx_1).toNat (gi data_2 (a + other_1))).set (a + other_1).toNat (gi data_2 idx_1)) r_0_1 (idx_1 + 1))))))
def slices_breakPatternsCmpFunc_string_l1 (a : Int) (b : Int) (Q : (List Str) → Prop) (r_1 : Int) (K_1 : (List Str) → Int → Int → Prop) (data_2 : List Str) (random_0_1 : Int) (idx_1 : Int) : Prop :=
  (I64 ((b - a).tdiv 4)) ∧ ((I64 (((b - a).tdiv 4) * 2)) ∧ ((I64 (a + (((b - a).tdiv 4) * 2))) ∧ ((I64 ((a + (((b - a).tdiv 4) * 2)) + 1)) ∧ ((idx_1 ≤ ((a + (((b - a).tdiv 4) * 2)) + 1) → slices_xorshift_Next_W random_0_1 (fun r_2 r_0_1 => (I64 (bits .and .u64 r_2 (IntKind.u64.wrap (r_1 - 1)))) ∧ (((b - a) ≤ (bits .and .u64 r_2 (IntKind.u64.wrap (r_1 - 1))) → (I64 ((bits .and .u64 r_2 (IntKind.u64.wrap (r_1 - 1))) - (b - a))) ∧ (slices_breakPatternsCmpFunc_string_j1 a data_2 idx_1 K_1 r_0_1 ((bits .and .u64 r_2 (IntKind.u64.wrap (r_1 - 1))) - (b - a)))) ∧ (¬ ((b - a) ≤ (bits .and .u64 r_2 (IntKind.u64.wrap (r_1 - 1)))) → slices_breakPatternsCmpFunc_string_j1 a data_2 idx_1 K_1 r_0_1 (bits .and .u64 r_2 (IntKind.u64.wrap (r_1 - 1))))))) ∧ (¬ (idx_1 ≤ ((a + (((b - a).tdiv 4) * 2)) + 1)) → Q data_2)))))
def slices_breakPatternsCmpFunc_string_W (data : List Str) (a : Int) (b : Int) (cf_cmp : Str → Str → Int) (Q : (List Str) → Prop) : Prop :=
  (I64 (b - a)) ∧ ((8 ≤ (b - a) → slices_nextPowerOfTwo_W (b - a) (fun r_1 => (I64 ((b - a).tdiv 4)) ∧ ((I64 (((b - a).tdiv 4) * 2)) ∧ ((I64 (a + (((b - a).tdiv 4) * 2))) ∧ ((I64 ((a + (((b - a).tdiv 4) * 2)) - 1)) ∧ (loopW (fun (K_1 : (List Str × Int × Int) → Prop) (s : List Str × Int × Int) => slices_breakPatternsCmpFunc_string_l1 a b Q r_1 (fun data_2 random_0_1 idx_1 => K_1 (data_2, random_0_1, idx_1)) s.1 s.2.1 s.2.2) (data, IntKind.u64.wrap (b - a), (a + (((b - a).tdiv 4) * 2)) - 1))))))) ∧ (¬ (8 ≤ (b - a)) → Q data))
set_option maxHeartbeats 40000000 in
set_option maxRecDepth 100000 in
theorem slices_breakPatternsCmpFunc_string_walk {F : Fz} {fr : List Ow} {h0 : Heap} (data : List Str) (a : Int) (b : Int) (cf_cmp : Str → Str → Int) (vdata : Value) (g_cmp : Nat) (fs_cmp : Array Value) (cs_cmp : Array Value) (hS : St F (Ow.own 9 1 encT vdata data :: fr) h0) (hF_cf_cmp : FnP Try.prog F h0 g_cmp fs_cmp cs_cmp (fun x : Str × Str => [.string (bs x.1), .string (bs x.2)]) (fun x => .int .i64 (cf_cmp x.1 x.2))) {Q : (List Str) → Prop} (hM : slices_breakPatternsCmpFunc_string_W data a b cf_cmp Q) :
    HC Try.prog 82 #[vdata, .int .i64 a, .int .i64 b, .func (.func g_cmp) fs_cmp cs_cmp] h0 fun u h' => ∃ (F' : Fz) (data_1 : List Str), u = .tuple #[] ∧ Kp F h0 F' h' ∧ St F' (Ow.own 9 1 encT vdata data_1 :: fr) h' ∧ (FnP Try.prog F' h' g_cmp fs_cmp cs_cmp (fun x : Str × Str => [.string (bs x.1), .string (bs x.2)]) (fun x => .int .i64 (cf_cmp x.1 x.2))) ∧ Q data_1 := by
  unfold slices_breakPatternsCmpFunc_string_W at hM
  have hK := Kp.refl F h0
  refine HC.of_HW (n := 67) Try.func82 rfl rfl (Nat.le_of_ble_eq_true rfl) ?_
  refine HW.seq ?_
  refine HW.region ?_
  refine HO.val (v := .int .i64 b) (want_none) rfl (q_move rfl) ?_
  refine HO.val (v := .int .i64 a) (want_none) rfl (q_move rfl) ?_
  obtain ⟨ho_1, hM⟩ := hM
  refine HO.val (v := .int .i64 (b - a)) (want_none) rfl (q_subN _ rfl rfl rfl ho_1.1 ho_1.2) ?_
  refine HO.val (v := .int .i64 (b - a)) (want_none) rfl (q_assign rfl) ?_
  refine HO.nil (thenQ_normal (?_))
  refine HW.seq ?_
  refine HW.region ?_
  refine HO.val (v := .int .i64 (b - a)) (want_none) rfl (q_move rfl) ?_
  refine HO.val (v := .bool (decide (8 ≤ (b - a)))) (want_none) rfl (q_geq rfl rfl) ?_
  refine HO.nil (thenQ_normal (?_))
  refine HW.cond (decide (8 ≤ (b - a))) rfl (fun c_1 => ?_) (fun c_1 => ?_)
  · replace hM := hM.1 (of_decide_eq_true c_1)
    refine HW.seq ?_
    refine HW.region ?_
    refine HO.val (v := .int .i64 (b - a)) (want_none) rfl (q_move rfl) ?_
    refine HO.val (v := .int .u64 (IntKind.u64.wrap (b - a))) (want_none) rfl (q_convInt Try.underlying3 Try.underlying130 rfl rfl) ?_
    refine HO.eff (want_none) rfl (st_alloc (c := #[.int .u64 0]) hS tz_130 rfl) ?_
    rintro _ h_1 ⟨b_1, rfl, hS, hk⟩
    replace hK := hK.trans hk
    replace hF_cf_cmp := hF_cf_cmp.kp hk
    refine HO.sto (want_none) rfl (st_store (c' := #[.int .u64 (IntKind.u64.wrap (b - a))]) hS (i := 0) rfl to_130 rfl rfl rfl rfl (Nat.le_of_ble_eq_true rfl) rfl) ?_
    rintro h_2 ⟨hS, hk⟩
    replace hS : St F (Ow.box b_1 130 #[.int .u64 (IntKind.u64.wrap (b - a))] :: Ow.own 9 1 encT vdata data :: fr) h_2 := hS
    replace hK := hK.trans hk
    replace hF_cf_cmp := hF_cf_cmp.kp hk
    refine HO.nil (thenQ_normal (?_))
    refine HW.seq ?_
    refine HW.region ?_
    refine HO.val (v := .int .i64 (b - a)) (want_none) rfl (q_move rfl) ?_
    refine HO.call (want_none) rfl (ec en_101 rfl rfl) (slices_nextPowerOfTwo_walk (fr := (Ow.box b_1 130 #[.int .u64 (IntKind.u64.wrap (b - a))] :: Ow.own 9 1 encT vdata data :: fr)) (b - a) hS hM) ?_
    rintro _ h_3 ⟨F_1, r_1, rfl, hk, hS, hM⟩
    replace hK := hK.trans hk
    replace hF_cf_cmp := hF_cf_cmp.kp hk
    refine HO.val (v := .int .u64 r_1) (want_none) rfl (q_assign rfl) ?_
    refine HO.nil (thenQ_normal (?_))
    refine HW.seq ?_
    refine HW.region ?_
    refine HO.val (v := .int .i64 a) (want_none) rfl (q_move rfl) ?_
    refine HO.val (v := .int .i64 (b - a)) (want_none) rfl (q_move rfl) ?_
    obtain ⟨ho_2, hM⟩ := hM
    refine HO.val (v := .int .i64 ((b - a).tdiv 4)) (want_none) rfl (q_quoN _ rfl rfl (by decide) rfl ho_2.1 ho_2.2) ?_
    obtain ⟨ho_3, hM⟩ := hM
    refine HO.val (v := .int .i64 (((b - a).tdiv 4) * 2)) (want_none) rfl (q_mulN _ rfl rfl rfl ho_3.1 ho_3.2) ?_
    obtain ⟨ho_4, hM⟩ := hM
    refine HO.val (v := .int .i64 (a + (((b - a).tdiv 4) * 2))) (want_none) rfl (q_addN _ rfl rfl rfl ho_4.1 ho_4.2) ?_
    obtain ⟨ho_5, hM⟩ := hM
    refine HO.val (v := .int .i64 ((a + (((b - a).tdiv 4) * 2)) - 1)) (want_none) rfl (q_subN _ rfl rfl rfl ho_5.1 ho_5.2) ?_
    refine HO.val (v := .int .i64 ((a + (((b - a).tdiv 4) * 2)) - 1)) (want_none) rfl (q_assign rfl) ?_
    refine HO.nil (thenQ_normal (?_))
    refine HW.block ?_
    obtain ⟨I_1, m_1, hI_1, hR_1⟩ := hM
    replace hS : St F_1 (Ow.own 9 1 encT vdata data :: Ow.box b_1 130 #[.int .u64 (IntKind.u64.wrap (b - a))] :: fr) h_3 := hS.perm2 [1, 0] 2 rfl rfl
    refine HW.loop (S := List Str × Int × Int) (fun s f h => match s with | (data_2, random_0_1, idx_1) => ∃ (F' : Fz), f 0 = vdata ∧ f 1 = .int .i64 a ∧ f 8 = .int .i64 (b - a) ∧ f 9 = .pointer (some ⟨b_1, 0, none⟩) ∧ f 10 = .int .u64 r_1 ∧ f 11 = .int .i64 idx_1 ∧ Kp F h0 F' h ∧ St F' (Ow.own 9 1 encT vdata data_2 :: Ow.box b_1 130 #[.int .u64 random_0_1] :: fr) h ∧ (FnP Try.prog F' h g_cmp fs_cmp cs_cmp (fun x : Str × Str => [.string (bs x.1), .string (bs x.2)]) (fun x => .int .i64 (cf_cmp x.1 x.2))) ∧ I_1 (data_2, random_0_1, idx_1)) m_1 (data, IntKind.u64.wrap (b - a), (a + (((b - a).tdiv 4) * 2)) - 1) ⟨F_1, rfl, rfl, rfl, rfl, rfl, rfl, hK, hS, hF_cf_cmp, hI_1⟩ ?_
    rintro ⟨data_2, random_0_1, idx_1⟩ f_1 h_4 ⟨F_2, e0, e1, e8, e9, e10, e11, hK, hS, hF_cf_cmp, hI0⟩
    obtain ⟨K_1, hKe_1⟩ : ∃ K : (List Str) → Int → Int → Prop, K = fun data_2' random_0_1' idx_1' => I_1 (data_2', random_0_1', idx_1') ∧ m_1 (data_2', random_0_1', idx_1') < m_1 (data_2, random_0_1, idx_1) := ⟨_, rfl⟩
    have hM : slices_breakPatternsCmpFunc_string_l1 a b Q r_1 K_1 data_2 random_0_1 idx_1 := by rw [hKe_1]; exact hR_1 (data_2, random_0_1, idx_1) hI0
    unfold slices_breakPatternsCmpFunc_string_l1 at hM
    refine HW.fr [(0, vdata), (1, .int .i64 a), (8, .int .i64 (b - a)), (9, .pointer (some ⟨b_1, 0, none⟩)), (10, .int .u64 r_1), (11, .int .i64 idx_1)] ⟨e0, e1, e8, e9, e10, e11, trivial⟩ ?_
    refine HW.seq ?_
    refine HW.seq ?_
    refine HW.region ?_
    refine HO.val (v := .int .i64 idx_1) (want_none) rfl (q_move rfl) ?_
    refine HO.val (v := .int .i64 a) (want_none) rfl (q_move rfl) ?_
    refine HO.val (v := .int .i64 (b - a)) (want_none) rfl (q_move rfl) ?_
    obtain ⟨ho_6, hM⟩ := hM
    refine HO.val (v := .int .i64 ((b - a).tdiv 4)) (want_none) rfl (q_quoN _ rfl rfl (by decide) rfl ho_6.1 ho_6.2) ?_
    obtain ⟨ho_7, hM⟩ := hM
    refine HO.val (v := .int .i64 (((b - a).tdiv 4) * 2)) (want_none) rfl (q_mulN _ rfl rfl rfl ho_7.1 ho_7.2) ?_
    obtain ⟨ho_8, hM⟩ := hM
    refine HO.val (v := .int .i64 (a + (((b - a).tdiv 4) * 2))) (want_none) rfl (q_addN _ rfl rfl rfl ho_8.1 ho_8.2) ?_
    obtain ⟨ho_9, hM⟩ := hM
    refine HO.val (v := .int .i64 ((a + (((b - a).tdiv 4) * 2)) + 1)) (want_none) rfl (q_addN _ rfl rfl rfl ho_9.1 ho_9.2) ?_
    refine HO.val (v := .bool (decide (idx_1 ≤ ((a + (((b - a).tdiv 4) * 2)) + 1)))) (want_none) rfl (q_leq rfl rfl) ?_
    refine HO.nil (thenQ_normal (?_))
    refine HW.cond (decide (idx_1 ≤ ((a + (((b - a).tdiv 4) * 2)) + 1))) rfl (fun c_2 => ?_) (fun c_2 => ?_)
    · replace hM := hM.1 (of_decide_eq_true c_2)
      refine HW.skip (thenQ_normal (?_))
      refine HW.seq ?_
      refine HW.block ?_
      refine HW.seq ?_
      refine HW.region ?_
      replace hS : St F_2 (Ow.box b_1 130 #[.int .u64 random_0_1] :: Ow.own 9 1 encT vdata data_2 :: fr) h_4 := hS.perm2 [1, 0] 2 rfl rfl
      refine HO.call (want_none) rfl (ec en_102 rfl rfl) (slices_xorshift_Next_walk (fr := (Ow.own 9 1 encT vdata data_2 :: fr)) random_0_1 b_1 hS hM) ?_
      rintro _ h_5 ⟨F_3, r_2, r_0_1, rfl, hk, hS, hM⟩
      replace hK := hK.trans hk
      replace hF_cf_cmp := hF_cf_cmp.kp hk
      refine HO.val (v := .int .u64 r_1) (want_none) rfl (q_move rfl) ?_
      refine HO.val (v := .int .u64 (IntKind.u64.wrap (r_1 - 1))) (want_none) rfl (q_sub rfl rfl) ?_
      refine HO.val (v := .int .u64 (bits .and .u64 r_2 (IntKind.u64.wrap (r_1 - 1)))) (want_none) rfl (q_bits (by simp) rfl rfl) ?_
      obtain ⟨ho_10, hM⟩ := hM
      refine HO.val (v := .int .i64 (bits .and .u64 r_2 (IntKind.u64.wrap (r_1 - 1)))) (want_none) rfl (q_convInt Try.underlying109 Try.underlying3 rfl (wrap_i64 ho_10.1 ho_10.2)) ?_
      refine HO.val (v := .int .i64 (bits .and .u64 r_2 (IntKind.u64.wrap (r_1 - 1)))) (want_none) rfl (q_assign rfl) ?_
      refine HO.nil (thenQ_normal (?_))
      refine HW.seq_mid (fun f h => ∃ (F' : Fz) (other_1 : Int), f 0 = vdata ∧ f 1 = .int .i64 a ∧ f 8 = .int .i64 (b - a) ∧ f 9 = .pointer (some ⟨b_1, 0, none⟩) ∧ f 10 = .int .u64 r_1 ∧ f 11 = .int .i64 idx_1 ∧ f 12 = .int .i64 other_1 ∧ Kp F h0 F' h ∧ St F' (Ow.own 9 1 encT vdata data_2 :: Ow.box b_1 130 #[.int .u64 r_0_1] :: fr) h ∧ (FnP Try.prog F' h g_cmp fs_cmp cs_cmp (fun x : Str × Str => [.string (bs x.1), .string (bs x.2)]) (fun x => .int .i64 (cf_cmp x.1 x.2))) ∧ slices_breakPatternsCmpFunc_string_j1 a data_2 idx_1 K_1 r_0_1 other_1) ?_ ?_
      · refine HW.seq ?_
        refine HW.region ?_
        refine HO.val (v := .int .i64 (bits .and .u64 r_2 (IntKind.u64.wrap (r_1 - 1)))) (want_none) rfl (q_move rfl) ?_
        refine HO.val (v := .int .i64 (b - a)) (want_none) rfl (q_move rfl) ?_
        refine HO.val (v := .bool (decide ((b - a) ≤ (bits .and .u64 r_2 (IntKind.u64.wrap (r_1 - 1)))))) (want_none) rfl (q_geq rfl rfl) ?_
        refine HO.nil (thenQ_normal (?_))
        refine HW.cond (decide ((b - a) ≤ (bits .and .u64 r_2 (IntKind.u64.wrap (r_1 - 1))))) rfl (fun c_3 => ?_) (fun c_3 => ?_)
        · replace hM := hM.1 (of_decide_eq_true c_3)
          refine HW.region ?_
          refine HO.val (v := .int .i64 (bits .and .u64 r_2 (IntKind.u64.wrap (r_1 - 1)))) (want_none) rfl (q_move rfl) ?_
          refine HO.val (v := .int .i64 (b - a)) (want_none) rfl (q_move rfl) ?_
          obtain ⟨ho_11, hM⟩ := hM
          refine HO.val (v := .int .i64 ((bits .and .u64 r_2 (IntKind.u64.wrap (r_1 - 1))) - (b - a))) (want_none) rfl (q_subN _ rfl rfl rfl ho_11.1 ho_11.2) ?_
          refine HO.val (v := .int .i64 ((bits .and .u64 r_2 (IntKind.u64.wrap (r_1 - 1))) - (b - a))) (want_none) rfl (q_assign rfl) ?_
          refine HO.nil (thenQ_normal (?_))
          replace hS : St F_3 (Ow.own 9 1 encT vdata data_2 :: Ow.box b_1 130 #[.int .u64 r_0_1] :: fr) h_5 := hS.perm2 [1, 0] 2 rfl rfl
          exact ⟨F_3, (bits .and .u64 r_2 (IntKind.u64.wrap (r_1 - 1))) - (b - a), rfl, rfl, rfl, rfl, rfl, rfl, rfl, hK, hS, hF_cf_cmp, hM⟩
        · replace hM := hM.2 (of_decide_eq_false c_3)
          refine HW.skip (thenQ_normal (?_))
          replace hS : St F_3 (Ow.own 9 1 encT vdata data_2 :: Ow.box b_1 130 #[.int .u64 r_0_1] :: fr) h_5 := hS.perm2 [1, 0] 2 rfl rfl
          exact ⟨F_3, bits .and .u64 r_2 (IntKind.u64.wrap (r_1 - 1)), rfl, rfl, rfl, rfl, rfl, rfl, rfl, hK, hS, hF_cf_cmp, hM⟩
      · rintro f_2 h_6 ⟨F_4, other_1, e0, e1, e8, e9, e10, e11, e12, hK, hS, hF_cf_cmp, hM⟩
        unfold slices_breakPatternsCmpFunc_string_j1 at hM
        refine HW.fr [(0, vdata), (1, .int .i64 a), (8, .int .i64 (b - a)), (9, .pointer (some ⟨b_1, 0, none⟩)), (10, .int .u64 r_1), (11, .int .i64 idx_1), (12, .int .i64 other_1)] ⟨e0, e1, e8, e9, e10, e11, e12, trivial⟩ ?_
        refine HW.regionA 20 mixed (fun h => True) [(17, fun h => (OwnIs h 0 9 1 encT vdata data_2))] (by kernel_rfl) ?_
        refine HA.val (k := 0) (v := vdata) rfl rfl (by kernel_rfl) (by kernel_rfl) (want_none) rfl (fun _ _ => q_move rfl) ?_
        refine HA.val (k := 1) (v := .int .i64 idx_1) rfl rfl (by kernel_rfl) (by kernel_rfl) (want_none) rfl (fun _ _ => q_move rfl) ?_
        refine HA.val (k := 2) (v := vdata) rfl rfl (by kernel_rfl) (by kernel_rfl) (want_none) rfl (fun _ _ => q_move rfl) ?_
        refine HA.val (k := 3) (v := .int .i64 a) rfl rfl (by kernel_rfl) (by kernel_rfl) (want_none) rfl (fun _ _ => q_move rfl) ?_
        refine HA.val (k := 4) (v := .int .i64 other_1) rfl rfl (by kernel_rfl) (by kernel_rfl) (want_none) rfl (fun _ _ => q_move rfl) ?_
        obtain ⟨ho_12, hM⟩ := hM
        refine HA.val (k := 5) (v := .int .i64 (a + other_1)) rfl rfl (by kernel_rfl) (by kernel_rfl) (want_none) rfl (fun _ _ => q_addN _ rfl rfl rfl ho_12.1 ho_12.2) ?_
        refine HA.val (k := 6) (v := vdata) rfl rfl (by kernel_rfl) (by kernel_rfl) (want_none) rfl (fun _ _ => q_move rfl) ?_
        refine HA.val (k := 7) (v := .int .i64 a) rfl rfl (by kernel_rfl) (by kernel_rfl) (want_none) rfl (fun _ _ => q_move rfl) ?_
        refine HA.val (k := 8) (v := .int .i64 other_1) rfl rfl (by kernel_rfl) (by kernel_rfl) (want_none) rfl (fun _ _ => q_move rfl) ?_
        refine HA.val (k := 9) (v := .int .i64 (a + other_1)) rfl rfl (by kernel_rfl) (by kernel_rfl) (want_none) rfl (fun _ _ => q_addN _ rfl rfl rfl ho_12.1 ho_12.2) ?_
        obtain ⟨ho_13, hM⟩ := hM
        refine Go.Wk.HA.valN (k := 10) (v := elemPtr 1 vdata (a + other_1).toNat) 0 17 (fun h => (OwnIs h 0 9 1 encT vdata data_2)) rfl rfl (by kernel_rfl) (by kernel_rfl) (want_none) rfl rfl (by kernel_rfl) (fun _ _ c356 => q_idx ts_36 c356.slice rfl rfl ho_13) ?_
        refine Go.Wk.HA.valN (k := 11) (v := .string (bs (gi data_2 (a + other_1)))) 0 17 (fun h => (OwnIs h 0 9 1 encT vdata data_2)) rfl rfl (by kernel_rfl) (by kernel_rfl) (want_none) rfl rfl (by kernel_rfl) (fun _ _ c356 => q_ldElem to_9 c356.slice rfl ho_13 rfl) ?_
        refine HA.val (k := 12) (v := vdata) rfl rfl (by kernel_rfl) (by kernel_rfl) (want_none) rfl (fun _ _ => q_move rfl) ?_
        refine HA.val (k := 13) (v := .int .i64 idx_1) rfl rfl (by kernel_rfl) (by kernel_rfl) (want_none) rfl (fun _ _ => q_move rfl) ?_
        obtain ⟨ho_14, hM⟩ := hM
        refine Go.Wk.HA.valN (k := 14) (v := elemPtr 1 vdata (idx_1).toNat) 0 17 (fun h => (OwnIs h 0 9 1 encT vdata data_2)) rfl rfl (by kernel_rfl) (by kernel_rfl) (want_none) rfl rfl (by kernel_rfl) (fun _ _ c356 => q_idx ts_36 c356.slice rfl rfl ho_14) ?_
        refine Go.Wk.HA.valN (k := 15) (v := .string (bs (gi data_2 idx_1))) 0 17 (fun h => (OwnIs h 0 9 1 encT vdata data_2)) rfl rfl (by kernel_rfl) (by kernel_rfl) (want_none) rfl rfl (by kernel_rfl) (fun _ _ c356 => q_ldElem to_9 c356.slice rfl ho_14 rfl) ?_
        refine Go.Wk.HA.valN (k := 16) (v := elemPtr 1 vdata (idx_1).toNat) 0 17 (fun h => (OwnIs h 0 9 1 encT vdata data_2)) rfl rfl (by kernel_rfl) (by kernel_rfl) (want_none) rfl rfl (by kernel_rfl) (fun _ _ c356 => q_idx ts_36 c356.slice rfl rfl ho_14) ?_
        refine HA.one (k := 17) ⟨trivial, (at_now (hS.own 0 rfl) (Go.Wk.at_nil _ _))⟩ (by kernel_rfl) ?_
        refine HS.sto rfl (want_none) rfl (st_storeField (a := (gi data_2 (a + other_1))) (n := (idx_1).toNat) (j := 0) hS (i := 0) rfl to_9 (elem_field _ _ _) (by omega) (by decide) rfl (by rw [← gi_lt ho_14.1 ho_14.2]; rfl) rfl rfl) ?_
        rintro h_7 ⟨hS, hk⟩
        replace hS : St F_4 (Ow.own 9 1 encT vdata (data_2.set (idx_1).toNat (gi data_2 (a + other_1))) :: Ow.box b_1 130 #[.int .u64 r_0_1] :: fr) h_7 := hS
        replace hK := hK.trans hk
        replace hF_cf_cmp := hF_cf_cmp.kp hk
        refine Go.Wk.HA.re (fun h => True) [(19, fun h => (OwnIs h 0 9 1 encT vdata (data_2.set (idx_1).toNat (gi data_2 (a + other_1)))))] (fun L_ h_ hL_ _ hs_ => ⟨trivial, (at_gone hL_ (by kernel_rfl) (Go.Wk.at_nil _ _))⟩) ?_
        obtain ⟨ho_15, hM⟩ := hM
        refine Go.Wk.HA.valN (k := 18) (v := elemPtr 1 vdata (a + other_1).toNat) 0 19 (fun h => (OwnIs h 0 9 1 encT vdata (data_2.set (idx_1).toNat (gi data_2 (a + other_1))))) rfl rfl (by kernel_rfl) (by kernel_rfl) (want_none) rfl rfl (by kernel_rfl) (fun _ _ c356 => q_idx ts_36 c356.slice rfl rfl ho_15) ?_
        refine HA.one (k := 19) ⟨trivial, (at_now (hS.own 0 rfl) (Go.Wk.at_nil _ _))⟩ (by kernel_rfl) ?_
        refine HS.sto rfl (want_none) rfl (st_storeField (a := (gi data_2 idx_1)) (n := (a + other_1).toNat) (j := 0) hS (i := 0) rfl to_9 (elem_field _ _ _) (by omega) (by decide) rfl (by rw [← gi_lt ho_15.1 ho_15.2]; rfl) rfl rfl) ?_
        rintro h_8 ⟨hS, hk⟩
        replace hS : St F_4 (Ow.own 9 1 encT vdata ((data_2.set (idx_1).toNat (gi data_2 (a + other_1))).set (a + other_1).toNat (gi data_2 idx_1)) :: Ow.box b_1 130 #[.int .u64 r_0_1] :: fr) h_8 := hS
        replace hK := hK.trans hk
        replace hF_cf_cmp := hF_cf_cmp.kp hk
        refine HA.nil ⟨trivial, (at_done (by kernel_rfl) (Go.Wk.at_nil _ _))⟩ (by kernel_rfl) (blockQ_normal (thenQ_normal (?_)))
        refine HW.region ?_
        refine HO.val (v := .int .i64 idx_1) (want_none) rfl (q_move rfl) ?_
        obtain ⟨ho_16, hM⟩ := hM
        refine HO.val (v := .int .i64 (idx_1 + 1)) (want_none) rfl (q_addN _ rfl rfl rfl ho_16.1 ho_16.2) ?_
        refine HO.val (v := .int .i64 (idx_1 + 1)) (want_none) rfl (q_assign rfl) ?_
        refine HO.nil (thenQ_normal (?_))
        rw [hKe_1] at hM
        exact ⟨((data_2.set (idx_1).toNat (gi data_2 (a + other_1))).set (a + other_1).toNat (gi data_2 idx_1), r_0_1, idx_1 + 1), ⟨F_4, rfl, rfl, rfl, rfl, rfl, rfl, hK, hS, hF_cf_cmp, hM.1⟩, hM.2⟩
    · replace hM := hM.2 (of_decide_eq_false c_2)
      refine HW.exit (thenQ_exit (thenQ_exit (blockQ_exit (?_))))
      refine ⟨.inl rfl, .tuple #[], res0 rfl , ?_⟩
      replace hS : St F_2 (Ow.own 9 1 encT vdata data_2 :: fr) h_4 := hS.perm2 [0] 2 rfl rfl
      exact ⟨F_2, data_2, rfl, hK, hS, hF_cf_cmp, hM⟩
  · replace hM := hM.2 (of_decide_eq_false c_1)
    refine HW.skip (?_)
    refine ⟨.inl rfl, .tuple #[], res0 rfl , ?_⟩
    exact ⟨F, data, rfl, hK, hS, hF_cf_cmp, hM⟩

def slices_order2CmpFunc_string_W (data : List Str) (a : Int) (b : Int) (swaps_v : Int) (cf_cmp : Str → Str → Int) (Q : Int → Int → Int → Prop) : Prop :=
  ((0 : Int) ≤ b ∧ b < (data.length : Int)) ∧ (((0 : Int) ≤ a ∧ a < (data.length : Int)) ∧ (((cf_cmp (gi data b) (gi data a)) < 0 → (I64 (swaps_v + 1)) ∧ (Q b a (swaps_v + 1))) ∧ (¬ ((cf_cmp (gi data b) (gi data a)) < 0) → Q a b swaps_v)))
set_option maxHeartbeats 40000000 in
set_option maxRecDepth 100000 in
theorem slices_order2CmpFunc_string_walk {F : Fz} {fr : List Ow} {h0 : Heap} (data : List Str) (a : Int) (b : Int) (swaps_v : Int) (cf_cmp : Str → Str → Int) (vdata : Value) (bswaps : Nat) (g_cmp : Nat) (fs_cmp : Array Value) (cs_cmp : Array Value) (hS : St F (Ow.box bswaps 3 #[.int .i64 swaps_v] :: fr) h0) (hL_data : SliceF F h0 1 encT vdata data) (hF_cf_cmp : FnP Try.prog F h0 g_cmp fs_cmp cs_cmp (fun x : Str × Str => [.string (bs x.1), .string (bs x.2)]) (fun x => .int .i64 (cf_cmp x.1 x.2))) {Q : Int → Int → Int → Prop} (hM : slices_order2CmpFunc_string_W data a b swaps_v cf_cmp Q) :
    HC Try.prog 109 #[vdata, .int .i64 a, .int .i64 b, .pointer (some ⟨bswaps, 0, none⟩), .func (.func g_cmp) fs_cmp cs_cmp] h0 fun u h' => ∃ (F' : Fz) (r0_1 : Int) (r1_1 : Int) (swaps_0_2 : Int), u = .tuple #[.int .i64 r0_1, .int .i64 r1_1] ∧ Kp F h0 F' h' ∧ St F' (Ow.box bswaps 3 #[.int .i64 swaps_0_2] :: fr) h' ∧ (SliceF F' h' 1 encT vdata data) ∧ (FnP Try.prog F' h' g_cmp fs_cmp cs_cmp (fun x : Str × Str => [.string (bs x.1), .string (bs x.2)]) (fun x => .int .i64 (cf_cmp x.1 x.2))) ∧ Q r0_1 r1_1 swaps_0_2 := by
  unfold slices_order2CmpFunc_string_W at hM
  have hK := Kp.refl F h0
  refine HC.of_HW (n := 32) Try.func109 rfl rfl (Nat.le_of_ble_eq_true rfl) ?_
  refine HW.seq ?_
  refine HW.region ?_
  refine HO.val (v := .int .i64 0) (want_none) rfl (q_assign rfl) ?_
  refine HO.val (v := .int .i64 0) (want_none) rfl (q_assign rfl) ?_
  refine HO.nil (thenQ_normal (?_))
  refine HW.seq ?_
  refine HW.seq ?_
  refine HW.regionA 11 mixed (fun h => (SliceIs h 1 encT vdata data)) [] (by kernel_rfl) ?_
  refine HA.val (k := 0) (v := .func (.func g_cmp) fs_cmp cs_cmp) rfl rfl (by kernel_rfl) (by kernel_rfl) (want_none) rfl (fun _ hL_data => q_move rfl) ?_
  refine HA.val (k := 1) (v := vdata) rfl rfl (by kernel_rfl) (by kernel_rfl) (want_none) rfl (fun _ hL_data => q_move rfl) ?_
  refine HA.val (k := 2) (v := .int .i64 b) rfl rfl (by kernel_rfl) (by kernel_rfl) (want_none) rfl (fun _ hL_data => q_move rfl) ?_
  obtain ⟨ho_1, hM⟩ := hM
  refine HA.val (k := 3) (v := elemPtr 1 vdata (b).toNat) rfl rfl (by kernel_rfl) (by kernel_rfl) (want_none) rfl (fun _ hL_data => q_idx ts_36 hL_data rfl rfl ho_1) ?_
  refine HA.val (k := 4) (v := .string (bs (gi data b))) rfl rfl (by kernel_rfl) (by kernel_rfl) (want_none) rfl (fun _ hL_data => q_ldElem to_9 hL_data rfl ho_1 rfl) ?_
  refine HA.val (k := 5) (v := vdata) rfl rfl (by kernel_rfl) (by kernel_rfl) (want_none) rfl (fun _ hL_data => q_move rfl) ?_
  refine HA.val (k := 6) (v := .int .i64 a) rfl rfl (by kernel_rfl) (by kernel_rfl) (want_none) rfl (fun _ hL_data => q_move rfl) ?_
  obtain ⟨ho_2, hM⟩ := hM
  refine HA.val (k := 7) (v := elemPtr 1 vdata (a).toNat) rfl rfl (by kernel_rfl) (by kernel_rfl) (want_none) rfl (fun _ hL_data => q_idx ts_36 hL_data rfl rfl ho_2) ?_
  refine HA.val (k := 8) (v := .string (bs (gi data a))) rfl rfl (by kernel_rfl) (by kernel_rfl) (want_none) rfl (fun _ hL_data => q_ldElem to_9 hL_data rfl ho_2 rfl) ?_
  refine HA.one (k := 9) ⟨hL_data.is, (Go.Wk.at_nil _ _)⟩ (by kernel_rfl) ?_
  refine HS.call rfl (want_none) rfl (hF_cf_cmp.ec ((gi data b), (gi data a)) rfl rfl) (hF_cf_cmp.hc ((gi data b), (gi data a)) hS) ?_
  rintro _ h_1 ⟨rfl, hS, hk⟩
  replace hK := hK.trans hk
  replace hL_data := hL_data.kp hk
  replace hF_cf_cmp := hF_cf_cmp.kp hk
  refine HA.val (k := 10) (v := .bool (decide ((cf_cmp (gi data b) (gi data a)) < 0))) rfl rfl (by kernel_rfl) (by kernel_rfl) (want_none) rfl (fun _ hL_data => q_lss rfl rfl) ?_
  refine HA.nil ⟨hL_data.is, (Go.Wk.at_nil _ _)⟩ (by kernel_rfl) (thenQ_normal (?_))
  refine HW.cond (decide ((cf_cmp (gi data b) (gi data a)) < 0)) rfl (fun c_1 => ?_) (fun c_1 => ?_)
  · replace hM := hM.1 (of_decide_eq_true c_1)
    refine HW.seq ?_
    refine HW.region ?_
    refine HO.val (v := .pointer (some ⟨bswaps, 0, none⟩)) (want_none) rfl (q_move rfl) ?_
    refine HO.val (v := .pointer (some ⟨bswaps, 0, none⟩)) (want_none) rfl (q_nilCheck rfl) ?_
    refine HO.val (v := .int .i64 swaps_v) (want_none) rfl (q_load to_3 rfl (Blk.cell (hS.box 0 rfl) rfl)) ?_
    obtain ⟨ho_3, hM⟩ := hM
    refine HO.val (v := .int .i64 (swaps_v + 1)) (want_none) rfl (q_addN _ rfl rfl rfl ho_3.1 ho_3.2) ?_
    refine HO.val (v := .pointer (some ⟨bswaps, 0, none⟩)) (want_none) rfl (q_nilCheck rfl) ?_
    refine HO.sto (want_none) rfl (st_store (c' := #[.int .i64 (swaps_v + 1)]) hS (i := 0) rfl to_3 rfl rfl rfl rfl (Nat.le_of_ble_eq_true rfl) rfl) ?_
    rintro h_2 ⟨hS, hk⟩
    replace hS : St F (Ow.box bswaps 3 #[.int .i64 (swaps_v + 1)] :: fr) h_2 := hS
    replace hK := hK.trans hk
    replace hL_data := hL_data.kp hk
    replace hF_cf_cmp := hF_cf_cmp.kp hk
    refine HO.nil (thenQ_normal (?_))
    refine HW.seq ?_
    refine HW.region ?_
    refine HO.val (v := .int .i64 b) (want_none) rfl (q_move rfl) ?_
    refine HO.val (v := .int .i64 a) (want_none) rfl (q_move rfl) ?_
    refine HO.val (v := .int .i64 b) (want_none) rfl (q_assign rfl) ?_
    refine HO.val (v := .int .i64 a) (want_none) rfl (q_assign rfl) ?_
    refine HO.nil (thenQ_normal (?_))
    refine HW.ret (thenQ_ret (?_))
    refine ⟨.inr rfl, .tuple #[.int .i64 b, .int .i64 a], res2 rfl (rt rfl) (rt rfl), ?_⟩
    exact ⟨F, b, a, swaps_v + 1, rfl, hK, hS, hL_data, hF_cf_cmp, hM⟩
  · replace hM := hM.2 (of_decide_eq_false c_1)
    refine HW.skip (thenQ_normal (?_))
    refine HW.seq ?_
    refine HW.region ?_
    refine HO.val (v := .int .i64 a) (want_none) rfl (q_move rfl) ?_
    refine HO.val (v := .int .i64 b) (want_none) rfl (q_move rfl) ?_
    refine HO.val (v := .int .i64 a) (want_none) rfl (q_assign rfl) ?_
    refine HO.val (v := .int .i64 b) (want_none) rfl (q_assign rfl) ?_
    refine HO.nil (thenQ_normal (?_))
    refine HW.ret (?_)
    refine ⟨.inr rfl, .tuple #[.int .i64 a, .int .i64 b], res2 rfl (rt rfl) (rt rfl), ?_⟩
    exact ⟨F, a, b, swaps_v, rfl, hK, hS, hL_data, hF_cf_cmp, hM⟩

def slices_medianCmpFunc_string_W (data : List Str) (a : Int) (b : Int) (c : Int) (swaps_v : Int) (cf_cmp : Str → Str → Int) (Q : Int → Int → Prop) : Prop :=
  slices_order2CmpFunc_string_W data a b swaps_v cf_cmp (fun r0_1 r1_1 swaps_0_3 => slices_order2CmpFunc_string_W data r1_1 c swaps_0_3 cf_cmp (fun r0_2 r1_2 swaps_0_4 => slices_order2CmpFunc_string_W data r0_1 r0_2 swaps_0_4 cf_cmp (fun r0_3 r1_3 swaps_0_5 => Q r1_3 swaps_0_5)))
set_option maxHeartbeats 40000000 in
set_option maxRecDepth 100000 in
theorem slices_medianCmpFunc_string_walk {F : Fz} {fr : List Ow} {h0 : Heap} (data : List Str) (a : Int) (b : Int) (c : Int) (swaps_v : Int) (cf_cmp : Str → Str → Int) (vdata : Value) (bswaps : Nat) (g_cmp : Nat) (fs_cmp : Array Value) (cs_cmp : Array Value) (hS : St F (Ow.box bswaps 3 #[.int .i64 swaps_v] :: fr) h0) (hL_data : SliceF F h0 1 encT vdata data) (hF_cf_cmp : FnP Try.prog F h0 g_cmp fs_cmp cs_cmp (fun x : Str × Str => [.string (bs x.1), .string (bs x.2)]) (fun x => .int .i64 (cf_cmp x.1 x.2))) {Q : Int → Int → Prop} (hM : slices_medianCmpFunc_string_W data a b c swaps_v cf_cmp Q) :
    HC Try.prog 104 #[vdata, .int .i64 a, .int .i64 b, .int .i64 c, .pointer (some ⟨bswaps, 0, none⟩), .func (.func g_cmp) fs_cmp cs_cmp] h0 fun u h' => ∃ (F' : Fz) (r_1 : Int) (swaps_0_2 : Int), u = .int .i64 r_1 ∧ Kp F h0 F' h' ∧ St F' (Ow.box bswaps 3 #[.int .i64 swaps_0_2] :: fr) h' ∧ (SliceF F' h' 1 encT vdata data) ∧ (FnP Try.prog F' h' g_cmp fs_cmp cs_cmp (fun x : Str × Str => [.string (bs x.1), .string (bs x.2)]) (fun x => .int .i64 (cf_cmp x.1 x.2))) ∧ Q r_1 swaps_0_2 := by
  unfold slices_medianCmpFunc_string_W at hM
  have hK := Kp.refl F h0
  refine HC.of_HW (n := 41) Try.func104 rfl rfl (Nat.le_of_ble_eq_true rfl) ?_
  refine HW.seq ?_
  refine HW.region ?_
  refine HO.val (v := .int .i64 0) (want_none) rfl (q_assign rfl) ?_
  refine HO.nil (thenQ_normal (?_))
  refine HW.seq ?_
  refine HW.region ?_
  refine HO.val (v := vdata) (want_none) rfl (q_move rfl) ?_
  refine HO.val (v := .int .i64 a) (want_none) rfl (q_move rfl) ?_
  refine HO.val (v := .int .i64 b) (want_none) rfl (q_move rfl) ?_
  refine HO.val (v := .pointer (some ⟨bswaps, 0, none⟩)) (want_none) rfl (q_move rfl) ?_
  refine HO.val (v := .func (.func g_cmp) fs_cmp cs_cmp) (want_none) rfl (q_move rfl) ?_
  refine HO.call (want_none) rfl (ec en_109 rfl rfl) (slices_order2CmpFunc_string_walk (fr := (fr)) data a b swaps_v cf_cmp vdata bswaps g_cmp fs_cmp cs_cmp hS hL_data hF_cf_cmp hM) ?_
  rintro _ h_1 ⟨F_1, r0_1, r1_1, swaps_0_3, rfl, hk, hS, _, _, hM⟩
  replace hK := hK.trans hk
  replace hL_data := hL_data.kp hk
  replace hF_cf_cmp := hF_cf_cmp.kp hk
  refine HO.val (v := .tuple #[.int .i64 r0_1, .int .i64 r1_1]) (want_none) rfl (q_move rfl) ?_
  refine HO.val (v := .int .i64 r0_1) (want_none) rfl (q_extract rfl rfl) ?_
  refine HO.val (v := .int .i64 r1_1) (want_none) rfl (q_extract rfl rfl) ?_
  refine HO.val (v := .int .i64 r0_1) (want_none) rfl (q_assign rfl) ?_
  refine HO.val (v := .int .i64 r1_1) (want_none) rfl (q_assign rfl) ?_
  refine HO.nil (thenQ_normal (?_))
  refine HW.seq ?_
  refine HW.region ?_
  refine HO.val (v := vdata) (want_none) rfl (q_move rfl) ?_
  refine HO.val (v := .int .i64 r1_1) (want_none) rfl (q_move rfl) ?_
  refine HO.val (v := .int .i64 c) (want_none) rfl (q_move rfl) ?_
  refine HO.val (v := .pointer (some ⟨bswaps, 0, none⟩)) (want_none) rfl (q_move rfl) ?_
  refine HO.val (v := .func (.func g_cmp) fs_cmp cs_cmp) (want_none) rfl (q_move rfl) ?_
  refine HO.call (want_none) rfl (ec en_109 rfl rfl) (slices_order2CmpFunc_string_walk (fr := (fr)) data r1_1 c swaps_0_3 cf_cmp vdata bswaps g_cmp fs_cmp cs_cmp hS hL_data hF_cf_cmp hM) ?_
  rintro _ h_2 ⟨F_2, r0_2, r1_2, swaps_0_4, rfl, hk, hS, _, _, hM⟩
  replace hK := hK.trans hk
  replace hL_data := hL_data.kp hk
  replace hF_cf_cmp := hF_cf_cmp.kp hk
  refine HO.val (v := .tuple #[.int .i64 r0_2, .int .i64 r1_2]) (want_none) rfl (q_move rfl) ?_
  refine HO.val (v := .int .i64 r0_2) (want_none) rfl (q_extract rfl rfl) ?_
  refine HO.val (v := .int .i64 r1_2) (want_none) rfl (q_extract rfl rfl) ?_
  refine HO.val (v := .int .i64 r0_2) (want_none) rfl (q_assign rfl) ?_
  refine HO.val (v := .int .i64 r1_2) (want_none) rfl (q_assign rfl) ?_
  refine HO.nil (thenQ_normal (?_))
  refine HW.seq ?_
  refine HW.region ?_
  refine HO.val (v := vdata) (want_none) rfl (q_move rfl) ?_
  refine HO.val (v := .int .i64 r0_1) (want_none) rfl (q_move rfl) ?_
  refine HO.val (v := .int .i64 r0_2) (want_none) rfl (q_move rfl) ?_
  refine HO.val (v := .pointer (some ⟨bswaps, 0, none⟩)) (want_none) rfl (q_move rfl) ?_
  refine HO.val (v := .func (.func g_cmp) fs_cmp cs_cmp) (want_none) rfl (q_move rfl) ?_
  refine HO.call (want_none) rfl (ec en_109 rfl rfl) (slices_order2CmpFunc_string_walk (fr := (fr)) data r0_1 r0_2 swaps_0_4 cf_cmp vdata bswaps g_cmp fs_cmp cs_cmp hS hL_data hF_cf_cmp hM) ?_
  rintro _ h_3 ⟨F_3, r0_3, r1_3, swaps_0_5, rfl, hk, hS, _, _, hM⟩
  replace hK := hK.trans hk
  replace hL_data := hL_data.kp hk
  replace hF_cf_cmp := hF_cf_cmp.kp hk
  refine HO.val (v := .tuple #[.int .i64 r0_3, .int .i64 r1_3]) (want_none) rfl (q_move rfl) ?_
  refine HO.val (v := .int .i64 r0_3) (want_none) rfl (q_extract rfl rfl) ?_
  refine HO.val (v := .int .i64 r1_3) (want_none) rfl (q_extract rfl rfl) ?_
  refine HO.val (v := .int .i64 r0_3) (want_none) rfl (q_assign rfl) ?_
  refine HO.val (v := .int .i64 r1_3) (want_none) rfl (q_assign rfl) ?_
  refine HO.nil (thenQ_normal (?_))
  refine HW.seq ?_
  refine HW.region ?_
  refine HO.val (v := .int .i64 r1_3) (want_none) rfl (q_move rfl) ?_
  refine HO.val (v := .int .i64 r1_3) (want_none) rfl (q_assign rfl) ?_
  refine HO.nil (thenQ_normal (?_))
  refine HW.ret (?_)
  refine ⟨.inr rfl, .int .i64 r1_3, res1 rfl (rt rfl), ?_⟩
  exact ⟨F_3, r1_3, swaps_0_5, rfl, hK, hS, hL_data, hF_cf_cmp, hM⟩

def slices_medianAdjacentCmpFunc_string_W (data : List Str) (a : Int) (swaps_v : Int) (cf_cmp : Str → Str → Int) (Q : Int → Int → Prop) : Prop :=
  (I64 (a - 1)) ∧ ((I64 (a + 1)) ∧ (slices_medianCmpFunc_string_W data (a - 1) a (a + 1) swaps_v cf_cmp (fun r_2 swaps_0_3 => Q r_2 swaps_0_3)))
set_option maxHeartbeats 40000000 in
set_option maxRecDepth 100000 in
theorem slices_medianAdjacentCmpFunc_string_walk {F : Fz} {fr : List Ow} {h0 : Heap} (data : List Str) (a : Int) (swaps_v : Int) (cf_cmp : Str → Str → Int) (vdata : Value) (bswaps : Nat) (g_cmp : Nat) (fs_cmp : Array Value) (cs_cmp : Array Value) (hS : St F (Ow.box bswaps 3 #[.int .i64 swaps_v] :: fr) h0) (hL_data : SliceF F h0 1 encT vdata data) (hF_cf_cmp : FnP Try.prog F h0 g_cmp fs_cmp cs_cmp (fun x : Str × Str => [.string (bs x.1), .string (bs x.2)]) (fun x => .int .i64 (cf_cmp x.1 x.2))) {Q : Int → Int → Prop} (hM : slices_medianAdjacentCmpFunc_string_W data a swaps_v cf_cmp Q) :
    HC Try.prog 103 #[vdata, .int .i64 a, .pointer (some ⟨bswaps, 0, none⟩), .func (.func g_cmp) fs_cmp cs_cmp] h0 fun u h' => ∃ (F' : Fz) (r_1 : Int) (swaps_0_2 : Int), u = .int .i64 r_1 ∧ Kp F h0 F' h' ∧ St F' (Ow.box bswaps 3 #[.int .i64 swaps_0_2] :: fr) h' ∧ (SliceF F' h' 1 encT vdata data) ∧ (FnP Try.prog F' h' g_cmp fs_cmp cs_cmp (fun x : Str × Str => [.string (bs x.1), .string (bs x.2)]) (fun x => .int .i64 (cf_cmp x.1 x.2))) ∧ Q r_1 swaps_0_2 := by
  unfold slices_medianAdjacentCmpFunc_string_W at hM
  have hK := Kp.refl F h0
  refine HC.of_HW (n := 18) Try.func103 rfl rfl (Nat.le_of_ble_eq_true rfl) ?_
  refine HW.seq ?_
  refine HW.region ?_
  refine HO.val (v := .int .i64 0) (want_none) rfl (q_assign rfl) ?_
  refine HO.nil (thenQ_normal (?_))
  refine HW.seq ?_
  refine HW.region ?_
  refine HO.val (v := vdata) (want_none) rfl (q_move rfl) ?_
  refine HO.val (v := .int .i64 a) (want_none) rfl (q_move rfl) ?_
  obtain ⟨ho_1, hM⟩ := hM
  refine HO.val (v := .int .i64 (a - 1)) (want_none) rfl (q_subN _ rfl rfl rfl ho_1.1 ho_1.2) ?_
  refine HO.val (v := .int .i64 a) (want_none) rfl (q_move rfl) ?_
  refine HO.val (v := .int .i64 a) (want_none) rfl (q_move rfl) ?_
  obtain ⟨ho_2, hM⟩ := hM
  refine HO.val (v := .int .i64 (a + 1)) (want_none) rfl (q_addN _ rfl rfl rfl ho_2.1 ho_2.2) ?_
  refine HO.val (v := .pointer (some ⟨bswaps, 0, none⟩)) (want_none) rfl (q_move rfl) ?_
  refine HO.val (v := .func (.func g_cmp) fs_cmp cs_cmp) (want_none) rfl (q_move rfl) ?_
  refine HO.call (want_none) rfl (ec en_104 rfl rfl) (slices_medianCmpFunc_string_walk (fr := (fr)) data (a - 1) a (a + 1) swaps_v cf_cmp vdata bswaps g_cmp fs_cmp cs_cmp hS hL_data hF_cf_cmp hM) ?_
  rintro _ h_1 ⟨F_1, r_2, swaps_0_3, rfl, hk, hS, _, _, hM⟩
  replace hK := hK.trans hk
  replace hL_data := hL_data.kp hk
  replace hF_cf_cmp := hF_cf_cmp.kp hk
  refine HO.val (v := .int .i64 r_2) (want_none) rfl (q_assign rfl) ?_
  refine HO.nil (thenQ_normal (?_))
  refine HW.ret (?_)
  refine ⟨.inr rfl, .int .i64 r_2, res1 rfl (rt rfl), ?_⟩
  exact ⟨F_1, r_2, swaps_0_3, rfl, hK, hS, hL_data, hF_cf_cmp, hM⟩

def slices_choosePivotCmpFunc_string_j2 (Q : Int → Int → Prop) (swaps_0_1 : Int) (j_1 : Int) : Prop :=
  (swaps_0_1 = 0 → Q j_1 1) ∧ (¬ (swaps_0_1 = 0) → (swaps_0_1 = 12 → Q j_1 2) ∧ (¬ (swaps_0_1 = 12) → Q j_1 0))
def slices_choosePivotCmpFunc_string_j4 (data : List Str) (cf_cmp : Str → Str → Int) (Q : Int → Int → Prop) (swaps_0_2 : Int) (i_1 : Int) (j_3 : Int) (k_1 : Int) : Prop :=
  slices_medianCmpFunc_string_W data i_1 j_3 k_1 swaps_0_2 cf_cmp (fun r_4 swaps_0_6 => slices_choosePivotCmpFunc_string_j2 Q swaps_0_6 r_4)
def slices_choosePivotCmpFunc_string_W (data : List Str) (a : Int) (b : Int) (cf_cmp : Str → Str → Int) (Q : Int → Int → Prop) : Prop :=
  (I64 (b - a)) ∧ ((I64 ((b - a).tdiv 4)) ∧ ((I64 (((b - a).tdiv 4) * 1)) ∧ ((I64 (a + (((b - a).tdiv 4) * 1))) ∧ ((I64 (((b - a).tdiv 4) * 2)) ∧ ((I64 (a + (((b - a).tdiv 4) * 2))) ∧ ((I64 (((b - a).tdiv 4) * 3)) ∧ ((I64 (a + (((b - a).tdiv 4) * 3))) ∧ ((8 ≤ (b - a) → (50 ≤ (b - a) → slices_medianAdjacentCmpFunc_string_W data (a + (((b - a).tdiv 4) * 1)) 0 cf_cmp (fun r_1 swaps_0_3 => slices_medianAdjacentCmpFunc_string_W data (a + (((b - a).tdiv 4) * 2)) swaps_0_3 cf_cmp (fun r_2 swaps_0_4 => slices_medianAdjacentCmpFunc_string_W data (a + (((b - a).tdiv 4) * 3)) swaps_0_4 cf_cmp (fun r_3 swaps_0_5 => slices_choosePivotCmpFunc_string_j4 data cf_cmp Q swaps_0_5 r_1 r_2 r_3)))) ∧ (¬ (50 ≤ (b - a)) → slices_choosePivotCmpFunc_string_j4 data cf_cmp Q 0 (a + (((b - a).tdiv 4) * 1)) (a + (((b - a).tdiv 4) * 2)) (a + (((b - a).tdiv 4) * 3)))) ∧ (¬ (8 ≤ (b - a)) → slices_choosePivotCmpFunc_string_j2 Q 0 (a + (((b - a).tdiv 4) * 2)))))))))))
set_option maxHeartbeats 40000000 in
set_option maxRecDepth 100000 in
theorem slices_choosePivotCmpFunc_string_walk {F : Fz} {fr : List Ow} {h0 : Heap} (data : List Str) (a : Int) (b : Int) (cf_cmp : Str → Str → Int) (vdata : Value) (g_cmp : Nat) (fs_cmp : Array Value) (cs_cmp : Array Value) (hS : St F (fr) h0) (hL_data : SliceF F h0 1 encT vdata data) (hF_cf_cmp : FnP Try.prog F h0 g_cmp fs_cmp cs_cmp (fun x : Str × Str => [.string (bs x.1), .string (bs x.2)]) (fun x => .int .i64 (cf_cmp x.1 x.2))) {Q : Int → Int → Prop} (hM : slices_choosePivotCmpFunc_string_W data a b cf_cmp Q) :
    HC Try.prog 83 #[vdata, .int .i64 a, .int .i64 b, .func (.func g_cmp) fs_cmp cs_cmp] h0 fun u h' => ∃ (F' : Fz) (r0_1 : Int) (r1_1 : Int), u = .tuple #[.int .i64 r0_1, .int .i64 r1_1] ∧ Kp F h0 F' h' ∧ St F' (fr) h' ∧ (SliceF F' h' 1 encT vdata data) ∧ (FnP Try.prog F' h' g_cmp fs_cmp cs_cmp (fun x : Str × Str => [.string (bs x.1), .string (bs x.2)]) (fun x => .int .i64 (cf_cmp x.1 x.2))) ∧ Q r0_1 r1_1 := by
  unfold slices_choosePivotCmpFunc_string_W at hM
  have hK := Kp.refl F h0
  refine HC.of_HW (n := 63) Try.func83 rfl rfl (Nat.le_of_ble_eq_true rfl) ?_
  refine HW.seq ?_
  refine HW.region ?_
  refine HO.val (v := .int .i64 0) (want_none) rfl (q_assign rfl) ?_
  refine HO.val (v := .int .i64 0) (want_none) rfl (q_assign rfl) ?_
  refine HO.nil (thenQ_normal (?_))
  refine HW.seq ?_
  refine HW.region ?_
  refine HO.val (v := .int .i64 b) (want_none) rfl (q_move rfl) ?_
  refine HO.val (v := .int .i64 a) (want_none) rfl (q_move rfl) ?_
  obtain ⟨ho_1, hM⟩ := hM
  refine HO.val (v := .int .i64 (b - a)) (want_none) rfl (q_subN _ rfl rfl rfl ho_1.1 ho_1.2) ?_
  refine HO.val (v := .int .i64 (b - a)) (want_none) rfl (q_assign rfl) ?_
  refine HO.nil (thenQ_normal (?_))
  refine HW.seq ?_
  refine HW.region ?_
  refine HO.eff (want_none) rfl (st_alloc (c := #[.int .i64 0]) hS tz_3 rfl) ?_
  rintro _ h_1 ⟨b_1, rfl, hS, hk⟩
  replace hK := hK.trans hk
  replace hL_data := hL_data.kp hk
  replace hF_cf_cmp := hF_cf_cmp.kp hk
  refine HO.nil (thenQ_normal (?_))
  refine HW.seq ?_
  refine HW.region ?_
  refine HO.val (v := .int .i64 a) (want_none) rfl (q_move rfl) ?_
  refine HO.val (v := .int .i64 (b - a)) (want_none) rfl (q_move rfl) ?_
  obtain ⟨ho_2, hM⟩ := hM
  refine HO.val (v := .int .i64 ((b - a).tdiv 4)) (want_none) rfl (q_quoN _ rfl rfl (by decide) rfl ho_2.1 ho_2.2) ?_
  obtain ⟨ho_3, hM⟩ := hM
  refine HO.val (v := .int .i64 (((b - a).tdiv 4) * 1)) (want_none) rfl (q_mulN _ rfl rfl rfl ho_3.1 ho_3.2) ?_
  obtain ⟨ho_4, hM⟩ := hM
  refine HO.val (v := .int .i64 (a + (((b - a).tdiv 4) * 1))) (want_none) rfl (q_addN _ rfl rfl rfl ho_4.1 ho_4.2) ?_
  refine HO.val (v := .int .i64 (a + (((b - a).tdiv 4) * 1))) (want_none) rfl (q_assign rfl) ?_
  refine HO.nil (thenQ_normal (?_))
  refine HW.seq ?_
  refine HW.region ?_
  refine HO.val (v := .int .i64 a) (want_none) rfl (q_move rfl) ?_
  refine HO.val (v := .int .i64 (b - a)) (want_none) rfl (q_move rfl) ?_
  refine HO.val (v := .int .i64 ((b - a).tdiv 4)) (want_none) rfl (q_quoN _ rfl rfl (by decide) rfl ho_2.1 ho_2.2) ?_
  obtain ⟨ho_5, hM⟩ := hM
  refine HO.val (v := .int .i64 (((b - a).tdiv 4) * 2)) (want_none) rfl (q_mulN _ rfl rfl rfl ho_5.1 ho_5.2) ?_
  obtain ⟨ho_6, hM⟩ := hM
  refine HO.val (v := .int .i64 (a + (((b - a).tdiv 4) * 2))) (want_none) rfl (q_addN _ rfl rfl rfl ho_6.1 ho_6.2) ?_
  refine HO.val (v := .int .i64 (a + (((b - a).tdiv 4) * 2))) (want_none) rfl (q_assign rfl) ?_
  refine HO.nil (thenQ_normal (?_))
  refine HW.seq ?_
  refine HW.region ?_
  refine HO.val (v := .int .i64 a) (want_none) rfl (q_move rfl) ?_
  refine HO.val (v := .int .i64 (b - a)) (want_none) rfl (q_move rfl) ?_
  refine HO.val (v := .int .i64 ((b - a).tdiv 4)) (want_none) rfl (q_quoN _ rfl rfl (by decide) rfl ho_2.1 ho_2.2) ?_
  obtain ⟨ho_7, hM⟩ := hM
  refine HO.val (v := .int .i64 (((b - a).tdiv 4) * 3)) (want_none) rfl (q_mulN _ rfl rfl rfl ho_7.1 ho_7.2) ?_
  obtain ⟨ho_8, hM⟩ := hM
  refine HO.val (v := .int .i64 (a + (((b - a).tdiv 4) * 3))) (want_none) rfl (q_addN _ rfl rfl rfl ho_8.1 ho_8.2) ?_
  refine HO.val (v := .int .i64 (a + (((b - a).tdiv 4) * 3))) (want_none) rfl (q_assign rfl) ?_
  refine HO.nil (thenQ_normal (?_))
  refine HW.seq_mid (fun f h => ∃ (F' : Fz) (swaps_0_1 : Int) (j_1 : Int), f 8 = .int .i64 0 ∧ f 9 = .int .i64 0 ∧ f 11 = .pointer (some ⟨b_1, 0, none⟩) ∧ f 13 = .int .i64 j_1 ∧ Kp F h0 F' h ∧ St F' (Ow.box b_1 3 #[.int .i64 swaps_0_1] :: fr) h ∧ (SliceF F' h 1 encT vdata data) ∧ (FnP Try.prog F' h g_cmp fs_cmp cs_cmp (fun x : Str × Str => [.string (bs x.1), .string (bs x.2)]) (fun x => .int .i64 (cf_cmp x.1 x.2))) ∧ slices_choosePivotCmpFunc_string_j2 Q swaps_0_1 j_1) ?_ ?_
  · refine HW.seq ?_
    refine HW.region ?_
    refine HO.val (v := .int .i64 (b - a)) (want_none) rfl (q_move rfl) ?_
    refine HO.val (v := .bool (decide (8 ≤ (b - a)))) (want_none) rfl (q_geq rfl rfl) ?_
    refine HO.nil (thenQ_normal (?_))
    refine HW.cond (decide (8 ≤ (b - a))) rfl (fun c_1 => ?_) (fun c_1 => ?_)
    · replace hM := hM.1 (of_decide_eq_true c_1)
      refine HW.seq_mid (fun f h => ∃ (F' : Fz) (swaps_0_2 : Int) (i_1 : Int) (j_3 : Int) (k_1 : Int), f 0 = vdata ∧ f 3 = .func (.func g_cmp) fs_cmp cs_cmp ∧ f 8 = .int .i64 0 ∧ f 9 = .int .i64 0 ∧ f 11 = .pointer (some ⟨b_1, 0, none⟩) ∧ f 12 = .int .i64 i_1 ∧ f 13 = .int .i64 j_3 ∧ f 14 = .int .i64 k_1 ∧ Kp F h0 F' h ∧ St F' (Ow.box b_1 3 #[.int .i64 swaps_0_2] :: fr) h ∧ (SliceF F' h 1 encT vdata data) ∧ (FnP Try.prog F' h g_cmp fs_cmp cs_cmp (fun x : Str × Str => [.string (bs x.1), .string (bs x.2)]) (fun x => .int .i64 (cf_cmp x.1 x.2))) ∧ slices_choosePivotCmpFunc_string_j4 data cf_cmp Q swaps_0_2 i_1 j_3 k_1) ?_ ?_
      · refine HW.seq ?_
        refine HW.region ?_
        refine HO.val (v := .int .i64 (b - a)) (want_none) rfl (q_move rfl) ?_
        refine HO.val (v := .bool (decide (50 ≤ (b - a)))) (want_none) rfl (q_geq rfl rfl) ?_
        refine HO.nil (thenQ_normal (?_))
        refine HW.cond (decide (50 ≤ (b - a))) rfl (fun c_2 => ?_) (fun c_2 => ?_)
        · replace hM := hM.1 (of_decide_eq_true c_2)
          refine HW.seq ?_
          refine HW.region ?_
          refine HO.val (v := vdata) (want_none) rfl (q_move rfl) ?_
          refine HO.val (v := .int .i64 (a + (((b - a).tdiv 4) * 1))) (want_none) rfl (q_move rfl) ?_
          refine HO.val (v := .func (.func g_cmp) fs_cmp cs_cmp) (want_none) rfl (q_move rfl) ?_
          refine HO.call (want_none) rfl (ec en_103 rfl rfl) (slices_medianAdjacentCmpFunc_string_walk (fr := (fr)) data (a + (((b - a).tdiv 4) * 1)) 0 cf_cmp vdata b_1 g_cmp fs_cmp cs_cmp hS hL_data hF_cf_cmp hM) ?_
          rintro _ h_2 ⟨F_1, r_1, swaps_0_3, rfl, hk, hS, _, _, hM⟩
          replace hK := hK.trans hk
          replace hL_data := hL_data.kp hk
          replace hF_cf_cmp := hF_cf_cmp.kp hk
          refine HO.val (v := .int .i64 r_1) (want_none) rfl (q_assign rfl) ?_
          refine HO.nil (thenQ_normal (?_))
          refine HW.seq ?_
          refine HW.region ?_
          refine HO.val (v := vdata) (want_none) rfl (q_move rfl) ?_
          refine HO.val (v := .int .i64 (a + (((b - a).tdiv 4) * 2))) (want_none) rfl (q_move rfl) ?_
          refine HO.val (v := .func (.func g_cmp) fs_cmp cs_cmp) (want_none) rfl (q_move rfl) ?_
          refine HO.call (want_none) rfl (ec en_103 rfl rfl) (slices_medianAdjacentCmpFunc_string_walk (fr := (fr)) data (a + (((b - a).tdiv 4) * 2)) swaps_0_3 cf_cmp vdata b_1 g_cmp fs_cmp cs_cmp hS hL_data hF_cf_cmp hM) ?_
          rintro _ h_3 ⟨F_2, r_2, swaps_0_4, rfl, hk, hS, _, _, hM⟩
          replace hK := hK.trans hk
          replace hL_data := hL_data.kp hk
          replace hF_cf_cmp := hF_cf_cmp.kp hk
          refine HO.val (v := .int .i64 r_2) (want_none) rfl (q_assign rfl) ?_
          refine HO.nil (thenQ_normal (?_))
          refine HW.region ?_
          refine HO.val (v := vdata) (want_none) rfl (q_move rfl) ?_
          refine HO.val (v := .int .i64 (a + (((b - a).tdiv 4) * 3))) (want_none) rfl (q_move rfl) ?_
          refine HO.val (v := .func (.func g_cmp) fs_cmp cs_cmp) (want_none) rfl (q_move rfl) ?_
          refine HO.call (want_none) rfl (ec en_103 rfl rfl) (slices_medianAdjacentCmpFunc_string_walk (fr := (fr)) data (a + (((b - a).tdiv 4) * 3)) swaps_0_4 cf_cmp vdata b_1 g_cmp fs_cmp cs_cmp hS hL_data hF_cf_cmp hM) ?_
          rintro _ h_4 ⟨F_3, r_3, swaps_0_5, rfl, hk, hS, _, _, hM⟩
          replace hK := hK.trans hk
          replace hL_data := hL_data.kp hk
          replace hF_cf_cmp := hF_cf_cmp.kp hk
          refine HO.val (v := .int .i64 r_3) (want_none) rfl (q_assign rfl) ?_
          refine HO.nil (thenQ_normal (?_))
          exact ⟨F_3, swaps_0_5, r_1, r_2, r_3, rfl, rfl, rfl, rfl, rfl, rfl, rfl, rfl, hK, hS, hL_data, hF_cf_cmp, hM⟩
        · replace hM := hM.2 (of_decide_eq_false c_2)
          refine HW.skip (thenQ_normal (?_))
          exact ⟨F, 0, a + (((b - a).tdiv 4) * 1), a + (((b - a).tdiv 4) * 2), a + (((b - a).tdiv 4) * 3), rfl, rfl, rfl, rfl, rfl, rfl, rfl, rfl, hK, hS, hL_data, hF_cf_cmp, hM⟩
      · rintro f_1 h_5 ⟨F_4, swaps_0_2, i_1, j_3, k_1, e0, e3, e8, e9, e11, e12, e13, e14, hK, hS, hL_data, hF_cf_cmp, hM⟩
        unfold slices_choosePivotCmpFunc_string_j4 at hM
        refine HW.fr [(0, vdata), (3, .func (.func g_cmp) fs_cmp cs_cmp), (8, .int .i64 0), (9, .int .i64 0), (11, .pointer (some ⟨b_1, 0, none⟩)), (12, .int .i64 i_1), (13, .int .i64 j_3), (14, .int .i64 k_1)] ⟨e0, e3, e8, e9, e11, e12, e13, e14, trivial⟩ ?_
        refine HW.region ?_
        refine HO.val (v := vdata) (want_none) rfl (q_move rfl) ?_
        refine HO.val (v := .int .i64 i_1) (want_none) rfl (q_move rfl) ?_
        refine HO.val (v := .int .i64 j_3) (want_none) rfl (q_move rfl) ?_
        refine HO.val (v := .int .i64 k_1) (want_none) rfl (q_move rfl) ?_
        refine HO.val (v := .func (.func g_cmp) fs_cmp cs_cmp) (want_none) rfl (q_move rfl) ?_
        refine HO.call (want_none) rfl (ec en_104 rfl rfl) (slices_medianCmpFunc_string_walk (fr := (fr)) data i_1 j_3 k_1 swaps_0_2 cf_cmp vdata b_1 g_cmp fs_cmp cs_cmp hS hL_data hF_cf_cmp hM) ?_
        rintro _ h_6 ⟨F_5, r_4, swaps_0_6, rfl, hk, hS, _, _, hM⟩
        replace hK := hK.trans hk
        replace hL_data := hL_data.kp hk
        replace hF_cf_cmp := hF_cf_cmp.kp hk
        refine HO.val (v := .int .i64 r_4) (want_none) rfl (q_assign rfl) ?_
        refine HO.nil (thenQ_normal (?_))
        exact ⟨F_5, swaps_0_6, r_4, rfl, rfl, rfl, rfl, hK, hS, hL_data, hF_cf_cmp, hM⟩
    · replace hM := hM.2 (of_decide_eq_false c_1)
      refine HW.skip (thenQ_normal (?_))
      exact ⟨F, 0, a + (((b - a).tdiv 4) * 2), rfl, rfl, rfl, rfl, hK, hS, hL_data, hF_cf_cmp, hM⟩
  · rintro f_2 h_7 ⟨F_6, swaps_0_1, j_1, e8, e9, e11, e13, hK, hS, hL_data, hF_cf_cmp, hM⟩
    unfold slices_choosePivotCmpFunc_string_j2 at hM
    refine HW.fr [(8, .int .i64 0), (9, .int .i64 0), (11, .pointer (some ⟨b_1, 0, none⟩)), (13, .int .i64 j_1)] ⟨e8, e9, e11, e13, trivial⟩ ?_
    refine HW.seq ?_
    refine HW.region ?_
    refine HO.val (v := .int .i64 swaps_0_1) (want_none) rfl (q_load to_3 rfl (Blk.cell (hS.box 0 rfl) rfl)) ?_
    refine HO.nil (thenQ_normal (?_))
    refine HW.block ?_
    refine HW.seq ?_
    refine HW.region ?_
    refine HO.val (v := .bool (decide (swaps_0_1 = 0))) (want_none) rfl (q_eql rfl rfl) ?_
    refine HO.val (v := .bool (decide (swaps_0_1 = 0))) (want_none) rfl (q_assign rfl) ?_
    refine HO.nil (thenQ_normal (?_))
    refine HW.cond (decide (swaps_0_1 = 0)) rfl (fun c_3 => ?_) (fun c_3 => ?_)
    · replace hM := hM.1 (of_decide_eq_true c_3)
      refine HW.seq ?_
      refine HW.region ?_
      refine HO.val (v := .int .i64 j_1) (want_none) rfl (q_move rfl) ?_
      refine HO.val (v := .int .i64 j_1) (want_none) rfl (q_assign rfl) ?_
      refine HO.val (v := .int .i64 1) (want_none) rfl (q_assign rfl) ?_
      refine HO.nil (thenQ_normal (?_))
      refine HW.ret (blockQ_ret (?_))
      refine ⟨.inr rfl, .tuple #[.int .i64 j_1, .int .i64 1], res2 rfl (rt rfl) (rt rfl), ?_⟩
      replace hS : St F_6 (fr) h_7 := hS.perm2 [] 1 rfl rfl
      exact ⟨F_6, j_1, 1, rfl, hK, hS, hL_data, hF_cf_cmp, hM⟩
    · replace hM := hM.2 (of_decide_eq_false c_3)
      refine HW.seq ?_
      refine HW.region ?_
      refine HO.val (v := .bool (decide (swaps_0_1 = 12))) (want_none) rfl (q_eql rfl rfl) ?_
      refine HO.val (v := .bool (decide (swaps_0_1 = 12))) (want_none) rfl (q_assign rfl) ?_
      refine HO.nil (thenQ_normal (?_))
      refine HW.cond (decide (swaps_0_1 = 12)) rfl (fun c_4 => ?_) (fun c_4 => ?_)
      · replace hM := hM.1 (of_decide_eq_true c_4)
        refine HW.seq ?_
        refine HW.region ?_
        refine HO.val (v := .int .i64 j_1) (want_none) rfl (q_move rfl) ?_
        refine HO.val (v := .int .i64 j_1) (want_none) rfl (q_assign rfl) ?_
        refine HO.val (v := .int .i64 2) (want_none) rfl (q_assign rfl) ?_
        refine HO.nil (thenQ_normal (?_))
        refine HW.ret (blockQ_ret (?_))
        refine ⟨.inr rfl, .tuple #[.int .i64 j_1, .int .i64 2], res2 rfl (rt rfl) (rt rfl), ?_⟩
        replace hS : St F_6 (fr) h_7 := hS.perm2 [] 1 rfl rfl
        exact ⟨F_6, j_1, 2, rfl, hK, hS, hL_data, hF_cf_cmp, hM⟩
      · replace hM := hM.2 (of_decide_eq_false c_4)
        refine HW.seq ?_
        refine HW.region ?_
        refine HO.val (v := .int .i64 j_1) (want_none) rfl (q_move rfl) ?_
        refine HO.val (v := .int .i64 j_1) (want_none) rfl (q_assign rfl) ?_
        refine HO.val (v := .int .i64 0) (want_none) rfl (q_assign rfl) ?_
        refine HO.nil (thenQ_normal (?_))
        refine HW.ret (blockQ_ret (?_))
        refine ⟨.inr rfl, .tuple #[.int .i64 j_1, .int .i64 0], res2 rfl (rt rfl) (rt rfl), ?_⟩
        replace hS : St F_6 (fr) h_7 := hS.perm2 [] 1 rfl rfl
        exact ⟨F_6, j_1, 0, rfl, hK, hS, hL_data, hF_cf_cmp, hM⟩

def slices_reverseRangeCmpFunc_string_l1 (Q : (List Str) → Prop) (K_1 : (List Str) → Int → Int → Prop) (data_2 : List Str) (i_1 : Int) (j_1 : Int) : Prop :=
  (i_1 < j_1 → ((0 : Int) ≤ j_1 ∧ j_1 < (data_2.length : Int)) ∧ (((0 : Int) ≤ i_1 ∧ i_1 < (data_2.length : Int)) ∧ (((0 : Int) ≤ j_1 ∧ j_1 < ((data_2.set (i_1).toNat (gi data_2 j_1)).length : Int)) ∧ ((I64 (i_1 + 1)) ∧ ((I64 (j_1 - 1)) ∧ (K_1 ((data_2.set (i_1).toNat (gi data_2 j_1)).set (j_1).toNat (gi data_2 i_1)) (i_1 + 1) (j_1 - 1))))))) ∧ (¬ (i_1 < j_1) → Q data_2)
def slices_reverseRangeCmpFunc_string_W (data : List Str) (a : Int) (b : Int) (cf_cmp : Str → Str → Int) (Q : (List Str) → Prop) : Prop :=
  (I64 (b - 1)) ∧ (loopW (fun (K_1 : (List Str × Int × Int) → Prop) (s : List Str × Int × Int) => slices_reverseRangeCmpFunc_string_l1 Q (fun data_2 i_1 j_1 => K_1 (data_2, i_1, j_1)) s.1 s.2.1 s.2.2) (data, a, b - 1))
set_option maxHeartbeats 40000000 in
set_option maxRecDepth 100000 in
theorem slices_reverseRangeCmpFunc_string_walk {F : Fz} {fr : List Ow} {h0 : Heap} (data : List Str) (a : Int) (b : Int) (cf_cmp : Str → Str → Int) (vdata : Value) (g_cmp : Nat) (fs_cmp : Array Value) (cs_cmp : Array Value) (hS : St F (Ow.own 9 1 encT vdata data :: fr) h0) (hF_cf_cmp : FnP Try.prog F h0 g_cmp fs_cmp cs_cmp (fun x : Str × Str => [.string (bs x.1), .string (bs x.2)]) (fun x => .int .i64 (cf_cmp x.1 x.2))) {Q : (List Str) → Prop} (hM : slices_reverseRangeCmpFunc_string_W data a b cf_cmp Q) :
    HC Try.prog 84 #[vdata, .int .i64 a, .int .i64 b, .func (.func g_cmp) fs_cmp cs_cmp] h0 fun u h' => ∃ (F' : Fz) (data_1 : List Str), u = .tuple #[] ∧ Kp F h0 F' h' ∧ St F' (Ow.own 9 1 encT vdata data_1 :: fr) h' ∧ (FnP Try.prog F' h' g_cmp fs_cmp cs_cmp (fun x : Str × Str => [.string (bs x.1), .string (bs x.2)]) (fun x => .int .i64 (cf_cmp x.1 x.2))) ∧ Q data_1 := by
  unfold slices_reverseRangeCmpFunc_string_W at hM
  have hK := Kp.refl F h0
  refine HC.of_HW (n := 34) Try.func84 rfl rfl (Nat.le_of_ble_eq_true rfl) ?_
  refine HW.seq ?_
  refine HW.region ?_
  refine HO.val (v := .int .i64 a) (want_none) rfl (q_move rfl) ?_
  refine HO.val (v := .int .i64 a) (want_none) rfl (q_assign rfl) ?_
  refine HO.nil (thenQ_normal (?_))
  refine HW.seq ?_
  refine HW.region ?_
  refine HO.val (v := .int .i64 b) (want_none) rfl (q_move rfl) ?_
  obtain ⟨ho_1, hM⟩ := hM
  refine HO.val (v := .int .i64 (b - 1)) (want_none) rfl (q_subN _ rfl rfl rfl ho_1.1 ho_1.2) ?_
  refine HO.val (v := .int .i64 (b - 1)) (want_none) rfl (q_assign rfl) ?_
  refine HO.nil (thenQ_normal (?_))
  refine HW.block ?_
  obtain ⟨I_1, m_1, hI_1, hR_1⟩ := hM
  refine HW.loop (S := List Str × Int × Int) (fun s f h => match s with | (data_2, i_1, j_1) => ∃ (F' : Fz), f 0 = vdata ∧ f 8 = .int .i64 i_1 ∧ f 9 = .int .i64 j_1 ∧ Kp F h0 F' h ∧ St F' (Ow.own 9 1 encT vdata data_2 :: fr) h ∧ (FnP Try.prog F' h g_cmp fs_cmp cs_cmp (fun x : Str × Str => [.string (bs x.1), .string (bs x.2)]) (fun x => .int .i64 (cf_cmp x.1 x.2))) ∧ I_1 (data_2, i_1, j_1)) m_1 (data, a, b - 1) ⟨F, rfl, rfl, rfl, hK, hS, hF_cf_cmp, hI_1⟩ ?_
  rintro ⟨data_2, i_1, j_1⟩ f_1 h_1 ⟨F_1, e0, e8, e9, hK, hS, hF_cf_cmp, hI0⟩
  obtain ⟨K_1, hKe_1⟩ : ∃ K : (List Str) → Int → Int → Prop, K = fun data_2' i_1' j_1' => I_1 (data_2', i_1', j_1') ∧ m_1 (data_2', i_1', j_1') < m_1 (data_2, i_1, j_1) := ⟨_, rfl⟩
  have hM : slices_reverseRangeCmpFunc_string_l1 Q K_1 data_2 i_1 j_1 := by rw [hKe_1]; exact hR_1 (data_2, i_1, j_1) hI0
  unfold slices_reverseRangeCmpFunc_string_l1 at hM
  refine HW.fr [(0, vdata), (8, .int .i64 i_1), (9, .int .i64 j_1)] ⟨e0, e8, e9, trivial⟩ ?_
  refine HW.seq ?_
  refine HW.seq ?_
  refine HW.region ?_
  refine HO.val (v := .int .i64 i_1) (want_none) rfl (q_move rfl) ?_
  refine HO.val (v := .int .i64 j_1) (want_none) rfl (q_move rfl) ?_
  refine HO.val (v := .bool (decide (i_1 < j_1))) (want_none) rfl (q_lss rfl rfl) ?_
  refine HO.nil (thenQ_normal (?_))
  refine HW.cond (decide (i_1 < j_1)) rfl (fun c_1 => ?_) (fun c_1 => ?_)
  · replace hM := hM.1 (of_decide_eq_true c_1)
    refine HW.skip (thenQ_normal (?_))
    refine HW.block ?_
    refine HW.seq ?_
    refine HW.regionA 16 mixed (fun h => True) [(13, fun h => (OwnIs h 0 9 1 encT vdata data_2))] (by kernel_rfl) ?_
    refine HA.val (k := 0) (v := vdata) rfl rfl (by kernel_rfl) (by kernel_rfl) (want_none) rfl (fun _ _ => q_move rfl) ?_
    refine HA.val (k := 1) (v := .int .i64 i_1) rfl rfl (by kernel_rfl) (by kernel_rfl) (want_none) rfl (fun _ _ => q_move rfl) ?_
    refine HA.val (k := 2) (v := vdata) rfl rfl (by kernel_rfl) (by kernel_rfl) (want_none) rfl (fun _ _ => q_move rfl) ?_
    refine HA.val (k := 3) (v := .int .i64 j_1) rfl rfl (by kernel_rfl) (by kernel_rfl) (want_none) rfl (fun _ _ => q_move rfl) ?_
    refine HA.val (k := 4) (v := vdata) rfl rfl (by kernel_rfl) (by kernel_rfl) (want_none) rfl (fun _ _ => q_move rfl) ?_
    refine HA.val (k := 5) (v := .int .i64 j_1) rfl rfl (by kernel_rfl) (by kernel_rfl) (want_none) rfl (fun _ _ => q_move rfl) ?_
    obtain ⟨ho_2, hM⟩ := hM
    refine Go.Wk.HA.valN (k := 6) (v := elemPtr 1 vdata (j_1).toNat) 0 13 (fun h => (OwnIs h 0 9 1 encT vdata data_2)) rfl rfl (by kernel_rfl) (by kernel_rfl) (want_none) rfl rfl (by kernel_rfl) (fun _ _ c353 => q_idx ts_36 c353.slice rfl rfl ho_2) ?_
    refine Go.Wk.HA.valN (k := 7) (v := .string (bs (gi data_2 j_1))) 0 13 (fun h => (OwnIs h 0 9 1 encT vdata data_2)) rfl rfl (by kernel_rfl) (by kernel_rfl) (want_none) rfl rfl (by kernel_rfl) (fun _ _ c353 => q_ldElem to_9 c353.slice rfl ho_2 rfl) ?_
    refine HA.val (k := 8) (v := vdata) rfl rfl (by kernel_rfl) (by kernel_rfl) (want_none) rfl (fun _ _ => q_move rfl) ?_
    refine HA.val (k := 9) (v := .int .i64 i_1) rfl rfl (by kernel_rfl) (by kernel_rfl) (want_none) rfl (fun _ _ => q_move rfl) ?_
    obtain ⟨ho_3, hM⟩ := hM
    refine Go.Wk.HA.valN (k := 10) (v := elemPtr 1 vdata (i_1).toNat) 0 13 (fun h => (OwnIs h 0 9 1 encT vdata data_2)) rfl rfl (by kernel_rfl) (by kernel_rfl) (want_none) rfl rfl (by kernel_rfl) (fun _ _ c353 => q_idx ts_36 c353.slice rfl rfl ho_3) ?_
    refine Go.Wk.HA.valN (k := 11) (v := .string (bs (gi data_2 i_1))) 0 13 (fun h => (OwnIs h 0 9 1 encT vdata data_2)) rfl rfl (by kernel_rfl) (by kernel_rfl) (want_none) rfl rfl (by kernel_rfl) (fun _ _ c353 => q_ldElem to_9 c353.slice rfl ho_3 rfl) ?_
    refine Go.Wk.HA.valN (k := 12) (v := elemPtr 1 vdata (i_1).toNat) 0 13 (fun h => (OwnIs h 0 9 1 encT vdata data_2)) rfl rfl (by kernel_rfl) (by kernel_rfl) (want_none) rfl rfl (by kernel_rfl) (fun _ _ c353 => q_idx ts_36 c353.slice rfl rfl ho_3) ?_
    refine HA.one (k := 13) ⟨trivial, (at_now (hS.own 0 rfl) (Go.Wk.at_nil _ _))⟩ (by kernel_rfl) ?_
    refine HS.sto rfl (want_none) rfl (st_storeField (a := (gi data_2 j_1)) (n := (i_1).toNat) (j := 0) hS (i := 0) rfl to_9 (elem_field _ _ _) (by omega) (by decide) rfl (by rw [← gi_lt ho_3.1 ho_3.2]; rfl) rfl rfl) ?_
    rintro h_2 ⟨hS, hk⟩
    replace hS : St F_1 (Ow.own 9 1 encT vdata (data_2.set (i_1).toNat (gi data_2 j_1)) :: fr) h_2 := hS
    replace hK := hK.trans hk
    replace hF_cf_cmp := hF_cf_cmp.kp hk
    refine Go.Wk.HA.re (fun h => True) [(15, fun h => (OwnIs h 0 9 1 encT vdata (data_2.set (i_1).toNat (gi data_2 j_1))))] (fun L_ h_ hL_ _ hs_ => ⟨trivial, (at_gone hL_ (by kernel_rfl) (Go.Wk.at_nil _ _))⟩) ?_
    obtain ⟨ho_4, hM⟩ := hM
    refine Go.Wk.HA.valN (k := 14) (v := elemPtr 1 vdata (j_1).toNat) 0 15 (fun h => (OwnIs h 0 9 1 encT vdata (data_2.set (i_1).toNat (gi data_2 j_1)))) rfl rfl (by kernel_rfl) (by kernel_rfl) (want_none) rfl rfl (by kernel_rfl) (fun _ _ c353 => q_idx ts_36 c353.slice rfl rfl ho_4) ?_
    refine HA.one (k := 15) ⟨trivial, (at_now (hS.own 0 rfl) (Go.Wk.at_nil _ _))⟩ (by kernel_rfl) ?_
    refine HS.sto rfl (want_none) rfl (st_storeField (a := (gi data_2 i_1)) (n := (j_1).toNat) (j := 0) hS (i := 0) rfl to_9 (elem_field _ _ _) (by omega) (by decide) rfl (by rw [← gi_lt ho_4.1 ho_4.2]; rfl) rfl rfl) ?_
    rintro h_3 ⟨hS, hk⟩
    replace hS : St F_1 (Ow.own 9 1 encT vdata ((data_2.set (i_1).toNat (gi data_2 j_1)).set (j_1).toNat (gi data_2 i_1)) :: fr) h_3 := hS
    replace hK := hK.trans hk
    replace hF_cf_cmp := hF_cf_cmp.kp hk
    refine HA.nil ⟨trivial, (at_done (by kernel_rfl) (Go.Wk.at_nil _ _))⟩ (by kernel_rfl) (thenQ_normal (?_))
    refine HW.seq ?_
    refine HW.region ?_
    refine HO.val (v := .int .i64 i_1) (want_none) rfl (q_move rfl) ?_
    obtain ⟨ho_5, hM⟩ := hM
    refine HO.val (v := .int .i64 (i_1 + 1)) (want_none) rfl (q_addN _ rfl rfl rfl ho_5.1 ho_5.2) ?_
    refine HO.val (v := .int .i64 (i_1 + 1)) (want_none) rfl (q_assign rfl) ?_
    refine HO.nil (thenQ_normal (?_))
    refine HW.region ?_
    refine HO.val (v := .int .i64 j_1) (want_none) rfl (q_move rfl) ?_
    obtain ⟨ho_6, hM⟩ := hM
    refine HO.val (v := .int .i64 (j_1 - 1)) (want_none) rfl (q_subN _ rfl rfl rfl ho_6.1 ho_6.2) ?_
    refine HO.val (v := .int .i64 (j_1 - 1)) (want_none) rfl (q_assign rfl) ?_
    refine HO.nil (blockQ_normal (thenQ_normal (?_)))
    rw [hKe_1] at hM
    exact ⟨((data_2.set (i_1).toNat (gi data_2 j_1)).set (j_1).toNat (gi data_2 i_1), i_1 + 1, j_1 - 1), ⟨F_1, rfl, rfl, rfl, hK, hS, hF_cf_cmp, hM.1⟩, hM.2⟩
  · replace hM := hM.2 (of_decide_eq_false c_1)
    refine HW.exit (thenQ_exit (thenQ_exit (blockQ_exit (?_))))
    refine ⟨.inl rfl, .tuple #[], res0 rfl , ?_⟩
    exact ⟨F_1, data_2, rfl, hK, hS, hF_cf_cmp, hM⟩

def slices_partialInsertionSortCmpFunc_string_l4 (b : Int) (cf_cmp : Str → Str → Int) (j_1 : Int) (K_1 : (List Str) → Int → Int → Prop) (i_2 : Int) (K_4 : (List Str) → Int → Prop) (data_5 : List Str) (j_5 : Int) : Prop :=
  (j_5 < b → ((0 : Int) ≤ j_5 ∧ j_5 < (data_5.length : Int)) ∧ ((I64 (j_5 - 1)) ∧ (((0 : Int) ≤ j_5 - 1 ∧ j_5 - 1 < (data_5.length : Int)) ∧ ((¬ ((cf_cmp (gi data_5 j_5) (gi data_5 (j_5 - 1))) < 0) → (I64 (j_1 + 1)) ∧ (K_1 data_5 i_2 (j_1 + 1))) ∧ ((cf_cmp (gi data_5 j_5) (gi data_5 (j_5 - 1))) < 0 → ((0 : Int) ≤ j_5 - 1 ∧ j_5 - 1 < ((data_5.set (j_5).toNat (gi data_5 (j_5 - 1))).length : Int)) ∧ ((I64 (j_5 + 1)) ∧ (K_4 ((data_5.set (j_5).toNat (gi data_5 (j_5 - 1))).set (j_5 - 1).toNat (gi data_5 j_5)) (j_5 + 1)))))))) ∧ (¬ (j_5 < b) → (I64 (j_1 + 1)) ∧ (K_1 data_5 i_2 (j_1 + 1)))
def slices_partialInsertionSortCmpFunc_string_j3 (b : Int) (cf_cmp : Str → Str → Int) (j_1 : Int) (K_1 : (List Str) → Int → Int → Prop) (i_2 : Int) (data_3 : List Str) : Prop :=
  (I64 (b - i_2)) ∧ ((2 ≤ (b - i_2) → (I64 (i_2 + 1)) ∧ (loopW (fun (K_4 : (List Str × Int) → Prop) (s : List Str × Int) => slices_partialInsertionSortCmpFunc_string_l4 b cf_cmp j_1 K_1 i_2 (fun data_5 j_5 => K_4 (data_5, j_5)) s.1 s.2) (data_3, i_2 + 1))) ∧ (¬ (2 ≤ (b - i_2)) → (I64 (j_1 + 1)) ∧ (K_1 data_3 i_2 (j_1 + 1))))
def slices_partialInsertionSortCmpFunc_string_l3 (b : Int) (cf_cmp : Str → Str → Int) (j_1 : Int) (K_1 : (List Str) → Int → Int → Prop) (i_2 : Int) (K_3 : (List Str) → Int → Prop) (data_4 : List Str) (j_4 : Int) : Prop :=
  (1 ≤ j_4 → ((0 : Int) ≤ j_4 ∧ j_4 < (data_4.length : Int)) ∧ ((I64 (j_4 - 1)) ∧ (((0 : Int) ≤ j_4 - 1 ∧ j_4 - 1 < (data_4.length : Int)) ∧ ((¬ ((cf_cmp (gi data_4 j_4) (gi data_4 (j_4 - 1))) < 0) → slices_partialInsertionSortCmpFunc_string_j3 b cf_cmp j_1 K_1 i_2 data_4) ∧ ((cf_cmp (gi data_4 j_4) (gi data_4 (j_4 - 1))) < 0 → ((0 : Int) ≤ j_4 - 1 ∧ j_4 - 1 < ((data_4.set (j_4).toNat (gi data_4 (j_4 - 1))).length : Int)) ∧ (K_3 ((data_4.set (j_4).toNat (gi data_4 (j_4 - 1))).set (j_4 - 1).toNat (gi data_4 j_4)) (j_4 - 1))))))) ∧ (¬ (1 ≤ j_4) → slices_partialInsertionSortCmpFunc_string_j3 b cf_cmp j_1 K_1 i_2 data_4)
def slices_partialInsertionSortCmpFunc_string_j2 (a : Int) (b : Int) (cf_cmp : Str → Str → Int) (Q : Bool → (List Str) → Prop) (data_2 : List Str) (j_1 : Int) (K_1 : (List Str) → Int → Int → Prop) (i_2 : Int) : Prop :=
  (i_2 = b → Q true data_2) ∧ (¬ (i_2 = b) → (I64 (b - a)) ∧ (((b - a) < 50 → Q false data_2) ∧ (¬ ((b - a) < 50) → (I64 (i_2 - 1)) ∧ (((0 : Int) ≤ i_2 - 1 ∧ i_2 - 1 < (data_2.length : Int)) ∧ (((0 : Int) ≤ i_2 ∧ i_2 < (data_2.length : Int)) ∧ (((0 : Int) ≤ i_2 - 1 ∧ i_2 - 1 < ((data_2.set (i_2).toNat (gi data_2 (i_2 - 1))).length : Int)) ∧ ((I64 (i_2 - a)) ∧ ((2 ≤ (i_2 - a) → loopW (fun (K_3 : (List Str × Int) → Prop) (s : List Str × Int) => slices_partialInsertionSortCmpFunc_string_l3 b cf_cmp j_1 K_1 i_2 (fun data_4 j_4 => K_3 (data_4, j_4)) s.1 s.2) ((data_2.set (i_2).toNat (gi data_2 (i_2 - 1))).set (i_2 - 1).toNat (gi data_2 i_2), i_2 - 1)) ∧ (¬ (2 ≤ (i_2 - a)) → slices_partialInsertionSortCmpFunc_string_j3 b cf_cmp j_1 K_1 i_2 ((data_2.set (i_2).toNat (gi data_2 (i_2 - 1))).set (i_2 - 1).toNat (gi data_2 i_2)))))))))))
def slices_partialInsertionSortCmpFunc_string_l2 (a : Int) (b : Int) (cf_cmp : Str → Str → Int) (Q : Bool → (List Str) → Prop) (data_2 : List Str) (j_1 : Int) (K_1 : (List Str) → Int → Int → Prop) (K_2 : Int → Prop) (i_3 : Int) : Prop :=
  (i_3 < b → ((0 : Int) ≤ i_3 ∧ i_3 < (data_2.length : Int)) ∧ ((I64 (i_3 - 1)) ∧ (((0 : Int) ≤ i_3 - 1 ∧ i_3 - 1 < (data_2.length : Int)) ∧ ((¬ ((cf_cmp (gi data_2 i_3) (gi data_2 (i_3 - 1))) < 0) → (I64 (i_3 + 1)) ∧ (K_2 (i_3 + 1))) ∧ ((cf_cmp (gi data_2 i_3) (gi data_2 (i_3 - 1))) < 0 → slices_partialInsertionSortCmpFunc_string_j2 a b cf_cmp Q data_2 j_1 K_1 i_3))))) ∧ (¬ (i_3 < b) → slices_partialInsertionSortCmpFunc_string_j2 a b cf_cmp Q data_2 j_1 K_1 i_3)
def slices_partialInsertionSortCmpFunc_string_l1 (a : Int) (b : Int) (cf_cmp : Str → Str → Int) (Q : Bool → (List Str) → Prop) (K_1 : (List Str) → Int → Int → Prop) (data_2 : List Str) (i_1 : Int) (j_1 : Int) : Prop :=
  (j_1 < 5 → loopW (fun (K_2 : Int → Prop) (s : Int) => slices_partialInsertionSortCmpFunc_string_l2 a b cf_cmp Q data_2 j_1 K_1 K_2 s) i_1) ∧ (¬ (j_1 < 5) → Q false data_2)
def slices_partialInsertionSortCmpFunc_string_W (data : List Str) (a : Int) (b : Int) (cf_cmp : Str → Str → Int) (Q : Bool → (List Str) → Prop) : Prop :=
  (I64 (a + 1)) ∧ (loopW (fun (K_1 : (List Str × Int × Int) → Prop) (s : List Str × Int × Int) => slices_partialInsertionSortCmpFunc_string_l1 a b cf_cmp Q (fun data_2 i_1 j_1 => K_1 (data_2, i_1, j_1)) s.1 s.2.1 s.2.2) (data, a + 1, 0))
set_option maxHeartbeats 40000000 in
set_option maxRecDepth 100000 in
theorem slices_partialInsertionSortCmpFunc_string_walk {F : Fz} {fr : List Ow} {h0 : Heap} (data : List Str) (a : Int) (b : Int) (cf_cmp : Str → Str → Int) (vdata : Value) (g_cmp : Nat) (fs_cmp : Array Value) (cs_cmp : Array Value) (hS : St F (Ow.own 9 1 encT vdata data :: fr) h0) (hF_cf_cmp : FnP Try.prog F h0 g_cmp fs_cmp cs_cmp (fun x : Str × Str => [.string (bs x.1), .string (bs x.2)]) (fun x => .int .i64 (cf_cmp x.1 x.2))) {Q : Bool → (List Str) → Prop} (hM : slices_partialInsertionSortCmpFunc_string_W data a b cf_cmp Q) :
    HC Try.prog 85 #[vdata, .int .i64 a, .int .i64 b, .func (.func g_cmp) fs_cmp cs_cmp] h0 fun u h' => ∃ (F' : Fz) (r_1 : Bool) (data_1 : List Str), u = .bool r_1 ∧ Kp F h0 F' h' ∧ St F' (Ow.own 9 1 encT vdata data_1 :: fr) h' ∧ (FnP Try.prog F' h' g_cmp fs_cmp cs_cmp (fun x : Str × Str => [.string (bs x.1), .string (bs x.2)]) (fun x => .int .i64 (cf_cmp x.1 x.2))) ∧ Q r_1 data_1 := by
  unfold slices_partialInsertionSortCmpFunc_string_W at hM
  have hK := Kp.refl F h0
  refine HC.of_HW (n := 141) Try.func85 rfl rfl (Nat.le_of_ble_eq_true rfl) ?_
  refine HW.seq ?_
  refine HW.region ?_
  refine HO.val (v := .bool false) (want_none) rfl (q_assign rfl) ?_
  refine HO.nil (thenQ_normal (?_))
  refine HW.seq ?_
  refine HW.region ?_
  refine HO.val (v := .int .i64 a) (want_none) rfl (q_move rfl) ?_
  obtain ⟨ho_1, hM⟩ := hM
  refine HO.val (v := .int .i64 (a + 1)) (want_none) rfl (q_addN _ rfl rfl rfl ho_1.1 ho_1.2) ?_
  refine HO.val (v := .int .i64 (a + 1)) (want_none) rfl (q_assign rfl) ?_
  refine HO.nil (thenQ_normal (?_))
  refine HW.seq ?_
  refine HW.seq ?_
  refine HW.region ?_
  refine HO.val (v := .int .i64 0) (want_none) rfl (q_assign rfl) ?_
  refine HO.nil (thenQ_normal (?_))
  refine HW.block ?_
  obtain ⟨I_1, m_1, hI_1, hR_1⟩ := hM
  refine HW.loop (S := List Str × Int × Int) (fun s f h => match s with | (data_2, i_1, j_1) => ∃ (F' : Fz), f 0 = vdata ∧ f 1 = .int .i64 a ∧ f 2 = .int .i64 b ∧ f 3 = .func (.func g_cmp) fs_cmp cs_cmp ∧ f 8 = .bool false ∧ f 9 = .int .i64 i_1 ∧ f 10 = .int .i64 j_1 ∧ Kp F h0 F' h ∧ St F' (Ow.own 9 1 encT vdata data_2 :: fr) h ∧ (FnP Try.prog F' h g_cmp fs_cmp cs_cmp (fun x : Str × Str => [.string (bs x.1), .string (bs x.2)]) (fun x => .int .i64 (cf_cmp x.1 x.2))) ∧ I_1 (data_2, i_1, j_1)) m_1 (data, a + 1, 0) ⟨F, rfl, rfl, rfl, rfl, rfl, rfl, rfl, hK, hS, hF_cf_cmp, hI_1⟩ ?_
  rintro ⟨data_2, i_1, j_1⟩ f_1 h_1 ⟨F_1, e0, e1, e2, e3, e8, e9, e10, hK, hS, hF_cf_cmp, hI0⟩
  obtain ⟨K_1, hKe_1⟩ : ∃ K : (List Str) → Int → Int → Prop, K = fun data_2' i_1' j_1' => I_1 (data_2', i_1', j_1') ∧ m_1 (data_2', i_1', j_1') < m_1 (data_2, i_1, j_1) := ⟨_, rfl⟩
  have hM : slices_partialInsertionSortCmpFunc_string_l1 a b cf_cmp Q K_1 data_2 i_1 j_1 := by rw [hKe_1]; exact hR_1 (data_2, i_1, j_1) hI0
  unfold slices_partialInsertionSortCmpFunc_string_l1 at hM
  refine HW.fr [(0, vdata), (1, .int .i64 a), (2, .int .i64 b), (3, .func (.func g_cmp) fs_cmp cs_cmp), (8, .bool false), (9, .int .i64 i_1), (10, .int .i64 j_1)] ⟨e0, e1, e2, e3, e8, e9, e10, trivial⟩ ?_
  refine HW.seq ?_
  refine HW.seq ?_
  refine HW.region ?_
  refine HO.val (v := .int .i64 j_1) (want_none) rfl (q_move rfl) ?_
  refine HO.val (v := .bool (decide (j_1 < 5))) (want_none) rfl (q_lss rfl rfl) ?_
  refine HO.nil (thenQ_normal (?_))
  refine HW.cond (decide (j_1 < 5)) rfl (fun c_1 => ?_) (fun c_1 => ?_)
  · replace hM := hM.1 (of_decide_eq_true c_1)
    refine HW.skip (thenQ_normal (?_))
    refine HW.seq ?_
    refine HW.block ?_
    refine HW.seq_mid (fun f h => ∃ (F' : Fz) (i_2 : Int), f 0 = vdata ∧ f 1 = .int .i64 a ∧ f 2 = .int .i64 b ∧ f 3 = .func (.func g_cmp) fs_cmp cs_cmp ∧ f 8 = .bool false ∧ f 9 = .int .i64 i_2 ∧ f 10 = .int .i64 j_1 ∧ Kp F h0 F' h ∧ St F' (Ow.own 9 1 encT vdata data_2 :: fr) h ∧ (FnP Try.prog F' h g_cmp fs_cmp cs_cmp (fun x : Str × Str => [.string (bs x.1), .string (bs x.2)]) (fun x => .int .i64 (cf_cmp x.1 x.2))) ∧ slices_partialInsertionSortCmpFunc_string_j2 a b cf_cmp Q data_2 j_1 K_1 i_2) ?_ ?_
    · refine HW.block ?_
      obtain ⟨I_2, m_2, hI_2, hR_2⟩ := hM
      refine HW.loop (S := Int) (fun i_3 f h => ∃ (F' : Fz), f 0 = vdata ∧ f 1 = .int .i64 a ∧ f 2 = .int .i64 b ∧ f 3 = .func (.func g_cmp) fs_cmp cs_cmp ∧ f 8 = .bool false ∧ f 9 = .int .i64 i_3 ∧ f 10 = .int .i64 j_1 ∧ Kp F h0 F' h ∧ St F' (Ow.own 9 1 encT vdata data_2 :: fr) h ∧ (FnP Try.prog F' h g_cmp fs_cmp cs_cmp (fun x : Str × Str => [.string (bs x.1), .string (bs x.2)]) (fun x => .int .i64 (cf_cmp x.1 x.2))) ∧ I_2 i_3) m_2 i_1 ⟨F_1, rfl, rfl, rfl, rfl, rfl, rfl, rfl, hK, hS, hF_cf_cmp, hI_2⟩ ?_
      rintro i_3 f_2 h_2 ⟨F_2, e0, e1, e2, e3, e8, e9, e10, hK, hS, hF_cf_cmp, hI0⟩
      obtain ⟨K_2, hKe_2⟩ : ∃ K : Int → Prop, K = fun i_3' => I_2 i_3' ∧ m_2 i_3' < m_2 i_3 := ⟨_, rfl⟩
      have hM : slices_partialInsertionSortCmpFunc_string_l2 a b cf_cmp Q data_2 j_1 K_1 K_2 i_3 := by rw [hKe_2]; exact hR_2 i_3 hI0
      unfold slices_partialInsertionSortCmpFunc_string_l2 at hM
      refine HW.fr [(0, vdata), (1, .int .i64 a), (2, .int .i64 b), (3, .func (.func g_cmp) fs_cmp cs_cmp), (8, .bool false), (9, .int .i64 i_3), (10, .int .i64 j_1)] ⟨e0, e1, e2, e3, e8, e9, e10, trivial⟩ ?_
      refine HW.seq ?_
      refine HW.seq ?_
      refine HW.regionA 18 mixed (fun h => (OwnIs h 0 9 1 encT vdata data_2)) [] (by kernel_rfl) ?_
      refine HA.val (k := 0) (v := .int .i64 i_3) rfl rfl (by kernel_rfl) (by kernel_rfl) (want_none) rfl (fun _ c455 => q_move rfl) ?_
      refine HA.val (k := 1) (v := .int .i64 b) rfl rfl (by kernel_rfl) (by kernel_rfl) (want_none) rfl (fun _ c455 => q_move rfl) ?_
      refine HA.val (k := 2) (v := .bool (decide (i_3 < b))) rfl rfl (by kernel_rfl) (by kernel_rfl) (want_none) rfl (fun _ c455 => q_lss rfl rfl) ?_
      refine HA.val (k := 3) (v := .bool (decide (i_3 < b))) rfl rfl (by kernel_rfl) (by kernel_rfl) (want_none) rfl (fun _ c455 => q_move rfl) ?_
      rcases Bool.eq_false_or_eq_true (decide (i_3 < b)) with c_2 | c_2
      · replace hM := hM.1 (of_decide_eq_true c_2)
        refine HA.val (k := 4) (v := .func (.func g_cmp) fs_cmp cs_cmp) rfl rfl (by kernel_rfl) (by kernel_rfl) (want_by rfl rfl c_2) rfl (fun _ c455 => q_move rfl) ?_
        refine HA.val (k := 5) (v := vdata) rfl rfl (by kernel_rfl) (by kernel_rfl) (want_by rfl rfl c_2) rfl (fun _ c455 => q_move rfl) ?_
        refine HA.val (k := 6) (v := .int .i64 i_3) rfl rfl (by kernel_rfl) (by kernel_rfl) (want_by rfl rfl c_2) rfl (fun _ c455 => q_move rfl) ?_
        obtain ⟨ho_2, hM⟩ := hM
        refine HA.val (k := 7) (v := elemPtr 1 vdata (i_3).toNat) rfl rfl (by kernel_rfl) (by kernel_rfl) (want_by rfl rfl c_2) rfl (fun _ c455 => q_idx ts_36 c455.slice rfl rfl ho_2) ?_
        refine HA.val (k := 8) (v := .string (bs (gi data_2 i_3))) rfl rfl (by kernel_rfl) (by kernel_rfl) (want_by rfl rfl c_2) rfl (fun _ c455 => q_ldElem to_9 c455.slice rfl ho_2 rfl) ?_
        refine HA.val (k := 9) (v := vdata) rfl rfl (by kernel_rfl) (by kernel_rfl) (want_by rfl rfl c_2) rfl (fun _ c455 => q_move rfl) ?_
        refine HA.val (k := 10) (v := .int .i64 i_3) rfl rfl (by kernel_rfl) (by kernel_rfl) (want_by rfl rfl c_2) rfl (fun _ c455 => q_move rfl) ?_
        obtain ⟨ho_3, hM⟩ := hM
        refine HA.val (k := 11) (v := .int .i64 (i_3 - 1)) rfl rfl (by kernel_rfl) (by kernel_rfl) (want_by rfl rfl c_2) rfl (fun _ c455 => q_subN _ rfl rfl rfl ho_3.1 ho_3.2) ?_
        obtain ⟨ho_4, hM⟩ := hM
        refine HA.val (k := 12) (v := elemPtr 1 vdata (i_3 - 1).toNat) rfl rfl (by kernel_rfl) (by kernel_rfl) (want_by rfl rfl c_2) rfl (fun _ c455 => q_idx ts_36 c455.slice rfl rfl ho_4) ?_
        refine HA.val (k := 13) (v := .string (bs (gi data_2 (i_3 - 1)))) rfl rfl (by kernel_rfl) (by kernel_rfl) (want_by rfl rfl c_2) rfl (fun _ c455 => q_ldElem to_9 c455.slice rfl ho_4 rfl) ?_
        refine HA.one (k := 14) ⟨(hS.own 0 rfl), (Go.Wk.at_nil _ _)⟩ (by kernel_rfl) ?_
        refine HS.call rfl (want_by rfl rfl c_2) rfl (hF_cf_cmp.ec ((gi data_2 i_3), (gi data_2 (i_3 - 1))) rfl rfl) (hF_cf_cmp.hc ((gi data_2 i_3), (gi data_2 (i_3 - 1))) hS) ?_
        rintro _ h_3 ⟨rfl, hS, hk⟩
        replace hK := hK.trans hk
        replace hF_cf_cmp := hF_cf_cmp.kp hk
        refine HA.val (k := 15) (v := .bool (decide ((cf_cmp (gi data_2 i_3) (gi data_2 (i_3 - 1))) < 0))) rfl rfl (by kernel_rfl) (by kernel_rfl) (want_by rfl rfl c_2) rfl (fun _ c455 => q_lss rfl rfl) ?_
        refine HA.val (k := 16) (v := .bool (!decide ((cf_cmp (gi data_2 i_3) (gi data_2 (i_3 - 1))) < 0))) rfl rfl (by kernel_rfl) (by kernel_rfl) (want_by rfl rfl c_2) rfl (fun _ c455 => q_not rfl) ?_
        refine HA.val (k := 17) (v := .bool (!decide ((cf_cmp (gi data_2 i_3) (gi data_2 (i_3 - 1))) < 0))) rfl rfl (by kernel_rfl) (by kernel_rfl) (want_none) rfl (fun _ c455 => q_pickK true rfl c_2 rfl) ?_
        refine HA.nil ⟨(hS.own 0 rfl), (Go.Wk.at_nil _ _)⟩ (by kernel_rfl) (thenQ_normal (?_))
        refine HW.cond (!decide ((cf_cmp (gi data_2 i_3) (gi data_2 (i_3 - 1))) < 0)) rfl (fun c_3 => ?_) (fun c_3 => ?_)
        · replace hM := hM.1 (nd_true c_3)
          refine HW.skip (thenQ_normal (?_))
          refine HW.block ?_
          refine HW.region ?_
          refine HO.val (v := .int .i64 i_3) (want_none) rfl (q_move rfl) ?_
          obtain ⟨ho_5, hM⟩ := hM
          refine HO.val (v := .int .i64 (i_3 + 1)) (want_none) rfl (q_addN _ rfl rfl rfl ho_5.1 ho_5.2) ?_
          refine HO.val (v := .int .i64 (i_3 + 1)) (want_none) rfl (q_assign rfl) ?_
          refine HO.nil (blockQ_normal (thenQ_normal (?_)))
          rw [hKe_2] at hM
          exact ⟨i_3 + 1, ⟨F_2, rfl, rfl, rfl, rfl, rfl, rfl, rfl, hK, hS, hF_cf_cmp, hM.1⟩, hM.2⟩
        · replace hM := hM.2 (nd_false c_3)
          refine HW.exit (thenQ_exit (thenQ_exit (blockQ_exit (thenQ_normal (?_)))))
          exact ⟨F_2, i_3, rfl, rfl, rfl, rfl, rfl, rfl, rfl, hK, hS, hF_cf_cmp, hM⟩
      · replace hM := hM.2 (of_decide_eq_false c_2)
        refine HA.past (k := 4) rfl rfl (by kernel_rfl) (by kernel_rfl) (past_by rfl rfl c_2) rfl ?_
        refine HA.past (k := 5) rfl rfl (by kernel_rfl) (by kernel_rfl) (past_by rfl rfl c_2) rfl ?_
        refine HA.past (k := 6) rfl rfl (by kernel_rfl) (by kernel_rfl) (past_by rfl rfl c_2) rfl ?_
        refine HA.past (k := 7) rfl rfl (by kernel_rfl) (by kernel_rfl) (past_by rfl rfl c_2) rfl ?_
        refine HA.past (k := 8) rfl rfl (by kernel_rfl) (by kernel_rfl) (past_by rfl rfl c_2) rfl ?_
        refine HA.past (k := 9) rfl rfl (by kernel_rfl) (by kernel_rfl) (past_by rfl rfl c_2) rfl ?_
        refine HA.past (k := 10) rfl rfl (by kernel_rfl) (by kernel_rfl) (past_by rfl rfl c_2) rfl ?_
        refine HA.past (k := 11) rfl rfl (by kernel_rfl) (by kernel_rfl) (past_by rfl rfl c_2) rfl ?_
        refine HA.past (k := 12) rfl rfl (by kernel_rfl) (by kernel_rfl) (past_by rfl rfl c_2) rfl ?_
        refine HA.past (k := 13) rfl rfl (by kernel_rfl) (by kernel_rfl) (past_by rfl rfl c_2) rfl ?_
        refine HA.one (k := 14) ⟨(hS.own 0 rfl), (Go.Wk.at_nil _ _)⟩ (by kernel_rfl) ?_
        refine HS.past rfl (past_by rfl rfl c_2) rfl ?_
        refine HA.past (k := 15) rfl rfl (by kernel_rfl) (by kernel_rfl) (past_by rfl rfl c_2) rfl ?_
        refine HA.past (k := 16) rfl rfl (by kernel_rfl) (by kernel_rfl) (past_by rfl rfl c_2) rfl ?_
        refine HA.val (k := 17) (v := .bool false) rfl rfl (by kernel_rfl) (by kernel_rfl) (want_none) rfl (fun _ c455 => q_pickK false rfl c_2 rfl) ?_
        refine HA.nil ⟨(hS.own 0 rfl), (Go.Wk.at_nil _ _)⟩ (by kernel_rfl) (thenQ_normal (?_))
        refine HW.condF rfl ?_
        refine HW.exit (thenQ_exit (thenQ_exit (blockQ_exit (thenQ_normal (?_)))))
        exact ⟨F_2, i_3, rfl, rfl, rfl, rfl, rfl, rfl, rfl, hK, hS, hF_cf_cmp, hM⟩
    · rintro f_3 h_4 ⟨F_3, i_2, e0, e1, e2, e3, e8, e9, e10, hK, hS, hF_cf_cmp, hM⟩
      unfold slices_partialInsertionSortCmpFunc_string_j2 at hM
      refine HW.fr [(0, vdata), (1, .int .i64 a), (2, .int .i64 b), (3, .func (.func g_cmp) fs_cmp cs_cmp), (8, .bool false), (9, .int .i64 i_2), (10, .int .i64 j_1)] ⟨e0, e1, e2, e3, e8, e9, e10, trivial⟩ ?_
      refine HW.seq ?_
      refine HW.seq ?_
      refine HW.region ?_
      refine HO.val (v := .int .i64 i_2) (want_none) rfl (q_move rfl) ?_
      refine HO.val (v := .int .i64 b) (want_none) rfl (q_move rfl) ?_
      refine HO.val (v := .bool (decide (i_2 = b))) (want_none) rfl (q_eql rfl rfl) ?_
      refine HO.nil (thenQ_normal (?_))
      refine HW.cond (decide (i_2 = b)) rfl (fun c_4 => ?_) (fun c_4 => ?_)
      · replace hM := hM.1 (of_decide_eq_true c_4)
        refine HW.seq ?_
        refine HW.region ?_
        refine HO.val (v := .bool true) (want_none) rfl (q_assign rfl) ?_
        refine HO.nil (thenQ_normal (?_))
        refine HW.ret (thenQ_ret (blockQ_ret (thenQ_ret (thenQ_ret (blockQ_ret (thenQ_ret (?_)))))))
        refine ⟨.inr rfl, .bool true, res1 rfl (rt rfl), ?_⟩
        exact ⟨F_3, true, data_2, rfl, hK, hS, hF_cf_cmp, hM⟩
      · replace hM := hM.2 (of_decide_eq_false c_4)
        refine HW.skip (thenQ_normal (?_))
        refine HW.seq ?_
        refine HW.seq ?_
        refine HW.region ?_
        refine HO.val (v := .int .i64 b) (want_none) rfl (q_move rfl) ?_
        refine HO.val (v := .int .i64 a) (want_none) rfl (q_move rfl) ?_
        obtain ⟨ho_6, hM⟩ := hM
        refine HO.val (v := .int .i64 (b - a)) (want_none) rfl (q_subN _ rfl rfl rfl ho_6.1 ho_6.2) ?_
        refine HO.val (v := .bool (decide ((b - a) < 50))) (want_none) rfl (q_lss rfl rfl) ?_
        refine HO.nil (thenQ_normal (?_))
        refine HW.cond (decide ((b - a) < 50)) rfl (fun c_5 => ?_) (fun c_5 => ?_)
        · replace hM := hM.1 (of_decide_eq_true c_5)
          refine HW.seq ?_
          refine HW.region ?_
          refine HO.val (v := .bool false) (want_none) rfl (q_assign rfl) ?_
          refine HO.nil (thenQ_normal (?_))
          refine HW.ret (thenQ_ret (blockQ_ret (thenQ_ret (thenQ_ret (blockQ_ret (thenQ_ret (?_)))))))
          refine ⟨.inr rfl, .bool false, res1 rfl (rt rfl), ?_⟩
          exact ⟨F_3, false, data_2, rfl, hK, hS, hF_cf_cmp, hM⟩
        · replace hM := hM.2 (of_decide_eq_false c_5)
          refine HW.skip (thenQ_normal (?_))
          refine HW.seq ?_
          refine HW.regionA 18 mixed (fun h => True) [(15, fun h => (OwnIs h 0 9 1 encT vdata data_2))] (by kernel_rfl) ?_
          refine HA.val (k := 0) (v := vdata) rfl rfl (by kernel_rfl) (by kernel_rfl) (want_none) rfl (fun _ _ => q_move rfl) ?_
          refine HA.val (k := 1) (v := .int .i64 i_2) rfl rfl (by kernel_rfl) (by kernel_rfl) (want_none) rfl (fun _ _ => q_move rfl) ?_
          refine HA.val (k := 2) (v := vdata) rfl rfl (by kernel_rfl) (by kernel_rfl) (want_none) rfl (fun _ _ => q_move rfl) ?_
          refine HA.val (k := 3) (v := .int .i64 i_2) rfl rfl (by kernel_rfl) (by kernel_rfl) (want_none) rfl (fun _ _ => q_move rfl) ?_
          obtain ⟨ho_7, hM⟩ := hM
          refine HA.val (k := 4) (v := .int .i64 (i_2 - 1)) rfl rfl (by kernel_rfl) (by kernel_rfl) (want_none) rfl (fun _ _ => q_subN _ rfl rfl rfl ho_7.1 ho_7.2) ?_
          refine HA.val (k := 5) (v := vdata) rfl rfl (by kernel_rfl) (by kernel_rfl) (want_none) rfl (fun _ _ => q_move rfl) ?_
          refine HA.val (k := 6) (v := .int .i64 i_2) rfl rfl (by kernel_rfl) (by kernel_rfl) (want_none) rfl (fun _ _ => q_move rfl) ?_
          refine HA.val (k := 7) (v := .int .i64 (i_2 - 1)) rfl rfl (by kernel_rfl) (by kernel_rfl) (want_none) rfl (fun _ _ => q_subN _ rfl rfl rfl ho_7.1 ho_7.2) ?_
          obtain ⟨ho_8, hM⟩ := hM
          refine Go.Wk.HA.valN (k := 8) (v := elemPtr 1 vdata (i_2 - 1).toNat) 0 15 (fun h => (OwnIs h 0 9 1 encT vdata data_2)) rfl rfl (by kernel_rfl) (by kernel_rfl) (want_none) rfl rfl (by kernel_rfl) (fun _ _ c354 => q_idx ts_36 c354.slice rfl rfl ho_8) ?_
          refine Go.Wk.HA.valN (k := 9) (v := .string (bs (gi data_2 (i_2 - 1)))) 0 15 (fun h => (OwnIs h 0 9 1 encT vdata data_2)) rfl rfl (by kernel_rfl) (by kernel_rfl) (want_none) rfl rfl (by kernel_rfl) (fun _ _ c354 => q_ldElem to_9 c354.slice rfl ho_8 rfl) ?_
          refine HA.val (k := 10) (v := vdata) rfl rfl (by kernel_rfl) (by kernel_rfl) (want_none) rfl (fun _ _ => q_move rfl) ?_
          refine HA.val (k := 11) (v := .int .i64 i_2) rfl rfl (by kernel_rfl) (by kernel_rfl) (want_none) rfl (fun _ _ => q_move rfl) ?_
          obtain ⟨ho_9, hM⟩ := hM
          refine Go.Wk.HA.valN (k := 12) (v := elemPtr 1 vdata (i_2).toNat) 0 15 (fun h => (OwnIs h 0 9 1 encT vdata data_2)) rfl rfl (by kernel_rfl) (by kernel_rfl) (want_none) rfl rfl (by kernel_rfl) (fun _ _ c354 => q_idx ts_36 c354.slice rfl rfl ho_9) ?_
          refine Go.Wk.HA.valN (k := 13) (v := .string (bs (gi data_2 i_2))) 0 15 (fun h => (OwnIs h 0 9 1 encT vdata data_2)) rfl rfl (by kernel_rfl) (by kernel_rfl) (want_none) rfl rfl (by kernel_rfl) (fun _ _ c354 => q_ldElem to_9 c354.slice rfl ho_9 rfl) ?_
          refine Go.Wk.HA.valN (k := 14) (v := elemPtr 1 vdata (i_2).toNat) 0 15 (fun h => (OwnIs h 0 9 1 encT vdata data_2)) rfl rfl (by kernel_rfl) (by kernel_rfl) (want_none) rfl rfl (by kernel_rfl) (fun _ _ c354 => q_idx ts_36 c354.slice rfl rfl ho_9) ?_
          refine HA.one (k := 15) ⟨trivial, (at_now (hS.own 0 rfl) (Go.Wk.at_nil _ _))⟩ (by kernel_rfl) ?_
          refine HS.sto rfl (want_none) rfl (st_storeField (a := (gi data_2 (i_2 - 1))) (n := (i_2).toNat) (j := 0) hS (i := 0) rfl to_9 (elem_field _ _ _) (by omega) (by decide) rfl (by rw [← gi_lt ho_9.1 ho_9.2]; rfl) rfl rfl) ?_
          rintro h_5 ⟨hS, hk⟩
          replace hS : St F_3 (Ow.own 9 1 encT vdata (data_2.set (i_2).toNat (gi data_2 (i_2 - 1))) :: fr) h_5 := hS
          replace hK := hK.trans hk
          replace hF_cf_cmp := hF_cf_cmp.kp hk
          refine Go.Wk.HA.re (fun h => True) [(17, fun h => (OwnIs h 0 9 1 encT vdata (data_2.set (i_2).toNat (gi data_2 (i_2 - 1)))))] (fun L_ h_ hL_ _ hs_ => ⟨trivial, (at_gone hL_ (by kernel_rfl) (Go.Wk.at_nil _ _))⟩) ?_
          obtain ⟨ho_10, hM⟩ := hM
          refine Go.Wk.HA.valN (k := 16) (v := elemPtr 1 vdata (i_2 - 1).toNat) 0 17 (fun h => (OwnIs h 0 9 1 encT vdata (data_2.set (i_2).toNat (gi data_2 (i_2 - 1))))) rfl rfl (by kernel_rfl) (by kernel_rfl) (want_none) rfl rfl (by kernel_rfl) (fun _ _ c354 => q_idx ts_36 c354.slice rfl rfl ho_10) ?_
          refine HA.one (k := 17) ⟨trivial, (at_now (hS.own 0 rfl) (Go.Wk.at_nil _ _))⟩ (by kernel_rfl) ?_
          refine HS.sto rfl (want_none) rfl (st_storeField (a := (gi data_2 i_2)) (n := (i_2 - 1).toNat) (j := 0) hS (i := 0) rfl to_9 (elem_field _ _ _) (by omega) (by decide) rfl (by rw [← gi_lt ho_10.1 ho_10.2]; rfl) rfl rfl) ?_
          rintro h_6 ⟨hS, hk⟩
          replace hS : St F_3 (Ow.own 9 1 encT vdata ((data_2.set (i_2).toNat (gi data_2 (i_2 - 1))).set (i_2 - 1).toNat (gi data_2 i_2)) :: fr) h_6 := hS
          replace hK := hK.trans hk
          replace hF_cf_cmp := hF_cf_cmp.kp hk
          refine HA.nil ⟨trivial, (at_done (by kernel_rfl) (Go.Wk.at_nil _ _))⟩ (by kernel_rfl) (thenQ_normal (?_))
          refine HW.seq_mid (fun f h => ∃ (F' : Fz) (data_3 : List Str), f 0 = vdata ∧ f 1 = .int .i64 a ∧ f 2 = .int .i64 b ∧ f 3 = .func (.func g_cmp) fs_cmp cs_cmp ∧ f 8 = .bool false ∧ f 9 = .int .i64 i_2 ∧ f 10 = .int .i64 j_1 ∧ Kp F h0 F' h ∧ St F' (Ow.own 9 1 encT vdata data_3 :: fr) h ∧ (FnP Try.prog F' h g_cmp fs_cmp cs_cmp (fun x : Str × Str => [.string (bs x.1), .string (bs x.2)]) (fun x => .int .i64 (cf_cmp x.1 x.2))) ∧ slices_partialInsertionSortCmpFunc_string_j3 b cf_cmp j_1 K_1 i_2 data_3) ?_ ?_
          · refine HW.seq ?_
            refine HW.region ?_
            refine HO.val (v := .int .i64 i_2) (want_none) rfl (q_move rfl) ?_
            refine HO.val (v := .int .i64 a) (want_none) rfl (q_move rfl) ?_
            obtain ⟨ho_11, hM⟩ := hM
            refine HO.val (v := .int .i64 (i_2 - a)) (want_none) rfl (q_subN _ rfl rfl rfl ho_11.1 ho_11.2) ?_
            refine HO.val (v := .bool (decide (2 ≤ (i_2 - a)))) (want_none) rfl (q_geq rfl rfl) ?_
            refine HO.nil (thenQ_normal (?_))
            refine HW.cond (decide (2 ≤ (i_2 - a))) rfl (fun c_6 => ?_) (fun c_6 => ?_)
            · replace hM := hM.1 (of_decide_eq_true c_6)
              refine HW.seq ?_
              refine HW.region ?_
              refine HO.val (v := .int .i64 i_2) (want_none) rfl (q_move rfl) ?_
              refine HO.val (v := .int .i64 (i_2 - 1)) (want_none) rfl (q_subN _ rfl rfl rfl ho_7.1 ho_7.2) ?_
              refine HO.val (v := .int .i64 (i_2 - 1)) (want_none) rfl (q_assign rfl) ?_
              refine HO.nil (thenQ_normal (?_))
              refine HW.block ?_
              obtain ⟨I_3, m_3, hI_3, hR_3⟩ := hM
              refine HW.loop (S := List Str × Int) (fun s f h => match s with | (data_4, j_4) => ∃ (F' : Fz), f 0 = vdata ∧ f 1 = .int .i64 a ∧ f 2 = .int .i64 b ∧ f 3 = .func (.func g_cmp) fs_cmp cs_cmp ∧ f 8 = .bool false ∧ f 9 = .int .i64 i_2 ∧ f 10 = .int .i64 j_1 ∧ f 11 = .int .i64 j_4 ∧ Kp F h0 F' h ∧ St F' (Ow.own 9 1 encT vdata data_4 :: fr) h ∧ (FnP Try.prog F' h g_cmp fs_cmp cs_cmp (fun x : Str × Str => [.string (bs x.1), .string (bs x.2)]) (fun x => .int .i64 (cf_cmp x.1 x.2))) ∧ I_3 (data_4, j_4)) m_3 ((data_2.set (i_2).toNat (gi data_2 (i_2 - 1))).set (i_2 - 1).toNat (gi data_2 i_2), i_2 - 1) ⟨F_3, rfl, rfl, rfl, rfl, rfl, rfl, rfl, rfl, hK, hS, hF_cf_cmp, hI_3⟩ ?_
              rintro ⟨data_4, j_4⟩ f_4 h_7 ⟨F_4, e0, e1, e2, e3, e8, e9, e10, e11, hK, hS, hF_cf_cmp, hI0⟩
              obtain ⟨K_3, hKe_3⟩ : ∃ K : (List Str) → Int → Prop, K = fun data_4' j_4' => I_3 (data_4', j_4') ∧ m_3 (data_4', j_4') < m_3 (data_4, j_4) := ⟨_, rfl⟩
              have hM : slices_partialInsertionSortCmpFunc_string_l3 b cf_cmp j_1 K_1 i_2 K_3 data_4 j_4 := by rw [hKe_3]; exact hR_3 (data_4, j_4) hI0
              unfold slices_partialInsertionSortCmpFunc_string_l3 at hM
              refine HW.fr [(0, vdata), (1, .int .i64 a), (2, .int .i64 b), (3, .func (.func g_cmp) fs_cmp cs_cmp), (8, .bool false), (9, .int .i64 i_2), (10, .int .i64 j_1), (11, .int .i64 j_4)] ⟨e0, e1, e2, e3, e8, e9, e10, e11, trivial⟩ ?_
              refine HW.seq ?_
              refine HW.seq ?_
              refine HW.region ?_
              refine HO.val (v := .int .i64 j_4) (want_none) rfl (q_move rfl) ?_
              refine HO.val (v := .bool (decide (1 ≤ j_4))) (want_none) rfl (q_geq rfl rfl) ?_
              refine HO.nil (thenQ_normal (?_))
              refine HW.cond (decide (1 ≤ j_4)) rfl (fun c_7 => ?_) (fun c_7 => ?_)
              · replace hM := hM.1 (of_decide_eq_true c_7)
                refine HW.skip (thenQ_normal (?_))
                refine HW.seq ?_
                refine HW.block ?_
                refine HW.seq ?_
                refine HW.seq ?_
                refine HW.regionA 13 mixed (fun h => (OwnIs h 0 9 1 encT vdata data_4)) [] (by kernel_rfl) ?_
                refine HA.val (k := 0) (v := .func (.func g_cmp) fs_cmp cs_cmp) rfl rfl (by kernel_rfl) (by kernel_rfl) (want_none) rfl (fun _ c620 => q_move rfl) ?_
                refine HA.val (k := 1) (v := vdata) rfl rfl (by kernel_rfl) (by kernel_rfl) (want_none) rfl (fun _ c620 => q_move rfl) ?_
                refine HA.val (k := 2) (v := .int .i64 j_4) rfl rfl (by kernel_rfl) (by kernel_rfl) (want_none) rfl (fun _ c620 => q_move rfl) ?_
                obtain ⟨ho_12, hM⟩ := hM
                refine HA.val (k := 3) (v := elemPtr 1 vdata (j_4).toNat) rfl rfl (by kernel_rfl) (by kernel_rfl) (want_none) rfl (fun _ c620 => q_idx ts_36 c620.slice rfl rfl ho_12) ?_
                refine HA.val (k := 4) (v := .string (bs (gi data_4 j_4))) rfl rfl (by kernel_rfl) (by kernel_rfl) (want_none) rfl (fun _ c620 => q_ldElem to_9 c620.slice rfl ho_12 rfl) ?_
                refine HA.val (k := 5) (v := vdata) rfl rfl (by kernel_rfl) (by kernel_rfl) (want_none) rfl (fun _ c620 => q_move rfl) ?_
                refine HA.val (k := 6) (v := .int .i64 j_4) rfl rfl (by kernel_rfl) (by kernel_rfl) (want_none) rfl (fun _ c620 => q_move rfl) ?_
                obtain ⟨ho_13, hM⟩ := hM
                refine HA.val (k := 7) (v := .int .i64 (j_4 - 1)) rfl rfl (by kernel_rfl) (by kernel_rfl) (want_none) rfl (fun _ c620 => q_subN _ rfl rfl rfl ho_13.1 ho_13.2) ?_
                obtain ⟨ho_14, hM⟩ := hM
                refine HA.val (k := 8) (v := elemPtr 1 vdata (j_4 - 1).toNat) rfl rfl (by kernel_rfl) (by kernel_rfl) (want_none) rfl (fun _ c620 => q_idx ts_36 c620.slice rfl rfl ho_14) ?_
                refine HA.val (k := 9) (v := .string (bs (gi data_4 (j_4 - 1)))) rfl rfl (by kernel_rfl) (by kernel_rfl) (want_none) rfl (fun _ c620 => q_ldElem to_9 c620.slice rfl ho_14 rfl) ?_
                refine HA.one (k := 10) ⟨(hS.own 0 rfl), (Go.Wk.at_nil _ _)⟩ (by kernel_rfl) ?_
                refine HS.call rfl (want_none) rfl (hF_cf_cmp.ec ((gi data_4 j_4), (gi data_4 (j_4 - 1))) rfl rfl) (hF_cf_cmp.hc ((gi data_4 j_4), (gi data_4 (j_4 - 1))) hS) ?_
                rintro _ h_8 ⟨rfl, hS, hk⟩
                replace hK := hK.trans hk
                replace hF_cf_cmp := hF_cf_cmp.kp hk
                refine HA.val (k := 11) (v := .bool (decide ((cf_cmp (gi data_4 j_4) (gi data_4 (j_4 - 1))) < 0))) rfl rfl (by kernel_rfl) (by kernel_rfl) (want_none) rfl (fun _ c620 => q_lss rfl rfl) ?_
                refine HA.val (k := 12) (v := .bool (!decide ((cf_cmp (gi data_4 j_4) (gi data_4 (j_4 - 1))) < 0))) rfl rfl (by kernel_rfl) (by kernel_rfl) (want_none) rfl (fun _ c620 => q_not rfl) ?_
                refine HA.nil ⟨(hS.own 0 rfl), (Go.Wk.at_nil _ _)⟩ (by kernel_rfl) (thenQ_normal (?_))
                refine HW.cond (!decide ((cf_cmp (gi data_4 j_4) (gi data_4 (j_4 - 1))) < 0)) rfl (fun c_8 => ?_) (fun c_8 => ?_)
                · replace hM := hM.1 (nd_true c_8)
                  refine HW.exit (thenQ_exit (blockQ_pass rfl (thenQ_exit (thenQ_exit (blockQ_exit (thenQ_normal (?_)))))))
                  exact ⟨F_4, data_4, rfl, rfl, rfl, rfl, rfl, rfl, rfl, hK, hS, hF_cf_cmp, hM⟩
                · replace hM := hM.2 (nd_false c_8)
                  refine HW.skip (thenQ_normal (?_))
                  refine HW.regionA 18 mixed (fun h => True) [(15, fun h => (OwnIs h 0 9 1 encT vdata data_4))] (by kernel_rfl) ?_
                  refine HA.val (k := 0) (v := vdata) rfl rfl (by kernel_rfl) (by kernel_rfl) (want_none) rfl (fun _ _ => q_move rfl) ?_
                  refine HA.val (k := 1) (v := .int .i64 j_4) rfl rfl (by kernel_rfl) (by kernel_rfl) (want_none) rfl (fun _ _ => q_move rfl) ?_
                  refine HA.val (k := 2) (v := vdata) rfl rfl (by kernel_rfl) (by kernel_rfl) (want_none) rfl (fun _ _ => q_move rfl) ?_
                  refine HA.val (k := 3) (v := .int .i64 j_4) rfl rfl (by kernel_rfl) (by kernel_rfl) (want_none) rfl (fun _ _ => q_move rfl) ?_
                  refine HA.val (k := 4) (v := .int .i64 (j_4 - 1)) rfl rfl (by kernel_rfl) (by kernel_rfl) (want_none) rfl (fun _ _ => q_subN _ rfl rfl rfl ho_13.1 ho_13.2) ?_
                  refine HA.val (k := 5) (v := vdata) rfl rfl (by kernel_rfl) (by kernel_rfl) (want_none) rfl (fun _ _ => q_move rfl) ?_
                  refine HA.val (k := 6) (v := .int .i64 j_4) rfl rfl (by kernel_rfl) (by kernel_rfl) (want_none) rfl (fun _ _ => q_move rfl) ?_
                  refine HA.val (k := 7) (v := .int .i64 (j_4 - 1)) rfl rfl (by kernel_rfl) (by kernel_rfl) (want_none) rfl (fun _ _ => q_subN _ rfl rfl rfl ho_13.1 ho_13.2) ?_
                  refine Go.Wk.HA.valN (k := 8) (v := elemPtr 1 vdata (j_4 - 1).toNat) 0 15 (fun h => (OwnIs h 0 9 1 encT vdata data_4)) rfl rfl (by kernel_rfl) (by kernel_rfl) (want_none) rfl rfl (by kernel_rfl) (fun _ _ c620 => q_idx ts_36 c620.slice rfl rfl ho_14) ?_
                  refine Go.Wk.HA.valN (k := 9) (v := .string (bs (gi data_4 (j_4 - 1)))) 0 15 (fun h => (OwnIs h 0 9 1 encT vdata data_4)) rfl rfl (by kernel_rfl) (by kernel_rfl) (want_none) rfl rfl (by kernel_rfl) (fun _ _ c620 => q_ldElem to_9 c620.slice rfl ho_14 rfl) ?_
                  refine HA.val (k := 10) (v := vdata) rfl rfl (by kernel_rfl) (by kernel_rfl) (want_none) rfl (fun _ _ => q_move rfl) ?_
                  refine HA.val (k := 11) (v := .int .i64 j_4) rfl rfl (by kernel_rfl) (by kernel_rfl) (want_none) rfl (fun _ _ => q_move rfl) ?_
                  refine Go.Wk.HA.valN (k := 12) (v := elemPtr 1 vdata (j_4).toNat) 0 15 (fun h => (OwnIs h 0 9 1 encT vdata data_4)) rfl rfl (by kernel_rfl) (by kernel_rfl) (want_none) rfl rfl (by kernel_rfl) (fun _ _ c620 => q_idx ts_36 c620.slice rfl rfl ho_12) ?_
                  refine Go.Wk.HA.valN (k := 13) (v := .string (bs (gi data_4 j_4))) 0 15 (fun h => (OwnIs h 0 9 1 encT vdata data_4)) rfl rfl (by kernel_rfl) (by kernel_rfl) (want_none) rfl rfl (by kernel_rfl) (fun _ _ c620 => q_ldElem to_9 c620.slice rfl ho_12 rfl) ?_
                  refine Go.Wk.HA.valN (k := 14) (v := elemPtr 1 vdata (j_4).toNat) 0 15 (fun h => (OwnIs h 0 9 1 encT vdata data_4)) rfl rfl (by kernel_rfl) (by kernel_rfl) (want_none) rfl rfl (by kernel_rfl) (fun _ _ c620 => q_idx ts_36 c620.slice rfl rfl ho_12) ?_
                  refine HA.one (k := 15) ⟨trivial, (at_now (hS.own 0 rfl) (Go.Wk.at_nil _ _))⟩ (by kernel_rfl) ?_
                  refine HS.sto rfl (want_none) rfl (st_storeField (a := (gi data_4 (j_4 - 1))) (n := (j_4).toNat) (j := 0) hS (i := 0) rfl to_9 (elem_field _ _ _) (by omega) (by decide) rfl (by rw [← gi_lt ho_12.1 ho_12.2]; rfl) rfl rfl) ?_
                  rintro h_9 ⟨hS, hk⟩
                  replace hS : St F_4 (Ow.own 9 1 encT vdata (data_4.set (j_4).toNat (gi data_4 (j_4 - 1))) :: fr) h_9 := hS
                  replace hK := hK.trans hk
                  replace hF_cf_cmp := hF_cf_cmp.kp hk
                  refine Go.Wk.HA.re (fun h => True) [(17, fun h => (OwnIs h 0 9 1 encT vdata (data_4.set (j_4).toNat (gi data_4 (j_4 - 1)))))] (fun L_ h_ hL_ _ hs_ => ⟨trivial, (at_gone hL_ (by kernel_rfl) (Go.Wk.at_nil _ _))⟩) ?_
                  obtain ⟨ho_15, hM⟩ := hM
                  refine Go.Wk.HA.valN (k := 16) (v := elemPtr 1 vdata (j_4 - 1).toNat) 0 17 (fun h => (OwnIs h 0 9 1 encT vdata (data_4.set (j_4).toNat (gi data_4 (j_4 - 1))))) rfl rfl (by kernel_rfl) (by kernel_rfl) (want_none) rfl rfl (by kernel_rfl) (fun _ _ c620 => q_idx ts_36 c620.slice rfl rfl ho_15) ?_
                  refine HA.one (k := 17) ⟨trivial, (at_now (hS.own 0 rfl) (Go.Wk.at_nil _ _))⟩ (by kernel_rfl) ?_
                  refine HS.sto rfl (want_none) rfl (st_storeField (a := (gi data_4 j_4)) (n := (j_4 - 1).toNat) (j := 0) hS (i := 0) rfl to_9 (elem_field _ _ _) (by omega) (by decide) rfl (by rw [← gi_lt ho_15.1 ho_15.2]; rfl) rfl rfl) ?_
                  rintro h_10 ⟨hS, hk⟩
                  replace hS : St F_4 (Ow.own 9 1 encT vdata ((data_4.set (j_4).toNat (gi data_4 (j_4 - 1))).set (j_4 - 1).toNat (gi data_4 j_4)) :: fr) h_10 := hS
                  replace hK := hK.trans hk
                  replace hF_cf_cmp := hF_cf_cmp.kp hk
                  refine HA.nil ⟨trivial, (at_done (by kernel_rfl) (Go.Wk.at_nil _ _))⟩ (by kernel_rfl) (blockQ_normal (thenQ_normal (?_)))
                  refine HW.region ?_
                  refine HO.val (v := .int .i64 j_4) (want_none) rfl (q_move rfl) ?_
                  refine HO.val (v := .int .i64 (j_4 - 1)) (want_none) rfl (q_subN _ rfl rfl rfl ho_13.1 ho_13.2) ?_
                  refine HO.val (v := .int .i64 (j_4 - 1)) (want_none) rfl (q_assign rfl) ?_
                  refine HO.nil (thenQ_normal (?_))
                  rw [hKe_3] at hM
                  exact ⟨((data_4.set (j_4).toNat (gi data_4 (j_4 - 1))).set (j_4 - 1).toNat (gi data_4 j_4), j_4 - 1), ⟨F_4, rfl, rfl, rfl, rfl, rfl, rfl, rfl, rfl, hK, hS, hF_cf_cmp, hM.1⟩, hM.2⟩
              · replace hM := hM.2 (of_decide_eq_false c_7)
                refine HW.exit (thenQ_exit (thenQ_exit (blockQ_exit (thenQ_normal (?_)))))
                exact ⟨F_4, data_4, rfl, rfl, rfl, rfl, rfl, rfl, rfl, hK, hS, hF_cf_cmp, hM⟩
            · replace hM := hM.2 (of_decide_eq_false c_6)
              refine HW.skip (thenQ_normal (?_))
              exact ⟨F_3, (data_2.set (i_2).toNat (gi data_2 (i_2 - 1))).set (i_2 - 1).toNat (gi data_2 i_2), rfl, rfl, rfl, rfl, rfl, rfl, rfl, hK, hS, hF_cf_cmp, hM⟩
          · rintro f_5 h_11 ⟨F_5, data_3, e0, e1, e2, e3, e8, e9, e10, hK, hS, hF_cf_cmp, hM⟩
            unfold slices_partialInsertionSortCmpFunc_string_j3 at hM
            refine HW.fr [(0, vdata), (1, .int .i64 a), (2, .int .i64 b), (3, .func (.func g_cmp) fs_cmp cs_cmp), (8, .bool false), (9, .int .i64 i_2), (10, .int .i64 j_1)] ⟨e0, e1, e2, e3, e8, e9, e10, trivial⟩ ?_
            refine HW.seq ?_
            refine HW.region ?_
            refine HO.val (v := .int .i64 b) (want_none) rfl (q_move rfl) ?_
            refine HO.val (v := .int .i64 i_2) (want_none) rfl (q_move rfl) ?_
            obtain ⟨ho_16, hM⟩ := hM
            refine HO.val (v := .int .i64 (b - i_2)) (want_none) rfl (q_subN _ rfl rfl rfl ho_16.1 ho_16.2) ?_
            refine HO.val (v := .bool (decide (2 ≤ (b - i_2)))) (want_none) rfl (q_geq rfl rfl) ?_
            refine HO.nil (thenQ_normal (?_))
            refine HW.cond (decide (2 ≤ (b - i_2))) rfl (fun c_9 => ?_) (fun c_9 => ?_)
            · replace hM := hM.1 (of_decide_eq_true c_9)
              refine HW.seq ?_
              refine HW.region ?_
              refine HO.val (v := .int .i64 i_2) (want_none) rfl (q_move rfl) ?_
              obtain ⟨ho_17, hM⟩ := hM
              refine HO.val (v := .int .i64 (i_2 + 1)) (want_none) rfl (q_addN _ rfl rfl rfl ho_17.1 ho_17.2) ?_
              refine HO.val (v := .int .i64 (i_2 + 1)) (want_none) rfl (q_assign rfl) ?_
              refine HO.nil (thenQ_normal (?_))
              refine HW.block ?_
              obtain ⟨I_4, m_4, hI_4, hR_4⟩ := hM
              refine HW.loop (S := List Str × Int) (fun s f h => match s with | (data_5, j_5) => ∃ (F' : Fz), f 0 = vdata ∧ f 1 = .int .i64 a ∧ f 2 = .int .i64 b ∧ f 3 = .func (.func g_cmp) fs_cmp cs_cmp ∧ f 8 = .bool false ∧ f 9 = .int .i64 i_2 ∧ f 10 = .int .i64 j_1 ∧ f 12 = .int .i64 j_5 ∧ Kp F h0 F' h ∧ St F' (Ow.own 9 1 encT vdata data_5 :: fr) h ∧ (FnP Try.prog F' h g_cmp fs_cmp cs_cmp (fun x : Str × Str => [.string (bs x.1), .string (bs x.2)]) (fun x => .int .i64 (cf_cmp x.1 x.2))) ∧ I_4 (data_5, j_5)) m_4 (data_3, i_2 + 1) ⟨F_5, rfl, rfl, rfl, rfl, rfl, rfl, rfl, rfl, hK, hS, hF_cf_cmp, hI_4⟩ ?_
              rintro ⟨data_5, j_5⟩ f_6 h_12 ⟨F_6, e0, e1, e2, e3, e8, e9, e10, e12, hK, hS, hF_cf_cmp, hI0⟩
              obtain ⟨K_4, hKe_4⟩ : ∃ K : (List Str) → Int → Prop, K = fun data_5' j_5' => I_4 (data_5', j_5') ∧ m_4 (data_5', j_5') < m_4 (data_5, j_5) := ⟨_, rfl⟩
              have hM : slices_partialInsertionSortCmpFunc_string_l4 b cf_cmp j_1 K_1 i_2 K_4 data_5 j_5 := by rw [hKe_4]; exact hR_4 (data_5, j_5) hI0
              unfold slices_partialInsertionSortCmpFunc_string_l4 at hM
              refine HW.fr [(0, vdata), (1, .int .i64 a), (2, .int .i64 b), (3, .func (.func g_cmp) fs_cmp cs_cmp), (8, .bool false), (9, .int .i64 i_2), (10, .int .i64 j_1), (12, .int .i64 j_5)] ⟨e0, e1, e2, e3, e8, e9, e10, e12, trivial⟩ ?_
              refine HW.seq ?_
              refine HW.seq ?_
              refine HW.region ?_
              refine HO.val (v := .int .i64 j_5) (want_none) rfl (q_move rfl) ?_
              refine HO.val (v := .int .i64 b) (want_none) rfl (q_move rfl) ?_
              refine HO.val (v := .bool (decide (j_5 < b))) (want_none) rfl (q_lss rfl rfl) ?_
              refine HO.nil (thenQ_normal (?_))
              refine HW.cond (decide (j_5 < b)) rfl (fun c_10 => ?_) (fun c_10 => ?_)
              · replace hM := hM.1 (of_decide_eq_true c_10)
                refine HW.skip (thenQ_normal (?_))
                refine HW.seq ?_
                refine HW.block ?_
                refine HW.seq ?_
                refine HW.seq ?_
                refine HW.regionA 13 mixed (fun h => (OwnIs h 0 9 1 encT vdata data_5)) [] (by kernel_rfl) ?_
                refine HA.val (k := 0) (v := .func (.func g_cmp) fs_cmp cs_cmp) rfl rfl (by kernel_rfl) (by kernel_rfl) (want_none) rfl (fun _ c620 => q_move rfl) ?_
                refine HA.val (k := 1) (v := vdata) rfl rfl (by kernel_rfl) (by kernel_rfl) (want_none) rfl (fun _ c620 => q_move rfl) ?_
                refine HA.val (k := 2) (v := .int .i64 j_5) rfl rfl (by kernel_rfl) (by kernel_rfl) (want_none) rfl (fun _ c620 => q_move rfl) ?_
                obtain ⟨ho_18, hM⟩ := hM
                refine HA.val (k := 3) (v := elemPtr 1 vdata (j_5).toNat) rfl rfl (by kernel_rfl) (by kernel_rfl) (want_none) rfl (fun _ c620 => q_idx ts_36 c620.slice rfl rfl ho_18) ?_
                refine HA.val (k := 4) (v := .string (bs (gi data_5 j_5))) rfl rfl (by kernel_rfl) (by kernel_rfl) (want_none) rfl (fun _ c620 => q_ldElem to_9 c620.slice rfl ho_18 rfl) ?_
                refine HA.val (k := 5) (v := vdata) rfl rfl (by kernel_rfl) (by kernel_rfl) (want_none) rfl (fun _ c620 => q_move rfl) ?_
                refine HA.val (k := 6) (v := .int .i64 j_5) rfl rfl (by kernel_rfl) (by kernel_rfl) (want_none) rfl (fun _ c620 => q_move rfl) ?_
                obtain ⟨ho_19, hM⟩ := hM
                refine HA.val (k := 7) (v := .int .i64 (j_5 - 1)) rfl rfl (by kernel_rfl) (by kernel_rfl) (want_none) rfl (fun _ c620 => q_subN _ rfl rfl rfl ho_19.1 ho_19.2) ?_
                obtain ⟨ho_20, hM⟩ := hM
                refine HA.val (k := 8) (v := elemPtr 1 vdata (j_5 - 1).toNat) rfl rfl (by kernel_rfl) (by kernel_rfl) (want_none) rfl (fun _ c620 => q_idx ts_36 c620.slice rfl rfl ho_20) ?_
                refine HA.val (k := 9) (v := .string (bs (gi data_5 (j_5 - 1)))) rfl rfl (by kernel_rfl) (by kernel_rfl) (want_none) rfl (fun _ c620 => q_ldElem to_9 c620.slice rfl ho_20 rfl) ?_
                refine HA.one (k := 10) ⟨(hS.own 0 rfl), (Go.Wk.at_nil _ _)⟩ (by kernel_rfl) ?_
                refine HS.call rfl (want_none) rfl (hF_cf_cmp.ec ((gi data_5 j_5), (gi data_5 (j_5 - 1))) rfl rfl) (hF_cf_cmp.hc ((gi data_5 j_5), (gi data_5 (j_5 - 1))) hS) ?_
                rintro _ h_13 ⟨rfl, hS, hk⟩
                replace hK := hK.trans hk
                replace hF_cf_cmp := hF_cf_cmp.kp hk
                refine HA.val (k := 11) (v := .bool (decide ((cf_cmp (gi data_5 j_5) (gi data_5 (j_5 - 1))) < 0))) rfl rfl (by kernel_rfl) (by kernel_rfl) (want_none) rfl (fun _ c620 => q_lss rfl rfl) ?_
                refine HA.val (k := 12) (v := .bool (!decide ((cf_cmp (gi data_5 j_5) (gi data_5 (j_5 - 1))) < 0))) rfl rfl (by kernel_rfl) (by kernel_rfl) (want_none) rfl (fun _ c620 => q_not rfl) ?_
                refine HA.nil ⟨(hS.own 0 rfl), (Go.Wk.at_nil _ _)⟩ (by kernel_rfl) (thenQ_normal (?_))
                refine HW.cond (!decide ((cf_cmp (gi data_5 j_5) (gi data_5 (j_5 - 1))) < 0)) rfl (fun c_11 => ?_) (fun c_11 => ?_)
                · replace hM := hM.1 (nd_true c_11)
                  refine HW.exit (thenQ_exit (blockQ_pass rfl (thenQ_exit (thenQ_exit (blockQ_exit (blockQ_normal (thenQ_normal (?_))))))))
                  refine HW.region ?_
                  refine HO.val (v := .int .i64 j_1) (want_none) rfl (q_move rfl) ?_
                  obtain ⟨ho_21, hM⟩ := hM
                  refine HO.val (v := .int .i64 (j_1 + 1)) (want_none) rfl (q_addN _ rfl rfl rfl ho_21.1 ho_21.2) ?_
                  refine HO.val (v := .int .i64 (j_1 + 1)) (want_none) rfl (q_assign rfl) ?_
                  refine HO.nil (thenQ_normal (?_))
                  rw [hKe_1] at hM
                  exact ⟨(data_5, i_2, j_1 + 1), ⟨F_6, rfl, rfl, rfl, rfl, rfl, rfl, rfl, hK, hS, hF_cf_cmp, hM.1⟩, hM.2⟩
                · replace hM := hM.2 (nd_false c_11)
                  refine HW.skip (thenQ_normal (?_))
                  refine HW.regionA 18 mixed (fun h => True) [(15, fun h => (OwnIs h 0 9 1 encT vdata data_5))] (by kernel_rfl) ?_
                  refine HA.val (k := 0) (v := vdata) rfl rfl (by kernel_rfl) (by kernel_rfl) (want_none) rfl (fun _ _ => q_move rfl) ?_
                  refine HA.val (k := 1) (v := .int .i64 j_5) rfl rfl (by kernel_rfl) (by kernel_rfl) (want_none) rfl (fun _ _ => q_move rfl) ?_
                  refine HA.val (k := 2) (v := vdata) rfl rfl (by kernel_rfl) (by kernel_rfl) (want_none) rfl (fun _ _ => q_move rfl) ?_
                  refine HA.val (k := 3) (v := .int .i64 j_5) rfl rfl (by kernel_rfl) (by kernel_rfl) (want_none) rfl (fun _ _ => q_move rfl) ?_
                  refine HA.val (k := 4) (v := .int .i64 (j_5 - 1)) rfl rfl (by kernel_rfl) (by kernel_rfl) (want_none) rfl (fun _ _ => q_subN _ rfl rfl rfl ho_19.1 ho_19.2) ?_
                  refine HA.val (k := 5) (v := vdata) rfl rfl (by kernel_rfl) (by kernel_rfl) (want_none) rfl (fun _ _ => q_move rfl) ?_
                  refine HA.val (k := 6) (v := .int .i64 j_5) rfl rfl (by kernel_rfl) (by kernel_rfl) (want_none) rfl (fun _ _ => q_move rfl) ?_
                  refine HA.val (k := 7) (v := .int .i64 (j_5 - 1)) rfl rfl (by kernel_rfl) (by kernel_rfl) (want_none) rfl (fun _ _ => q_subN _ rfl rfl rfl ho_19.1 ho_19.2) ?_
                  refine Go.Wk.HA.valN (k := 8) (v := elemPtr 1 vdata (j_5 - 1).toNat) 0 15 (fun h => (OwnIs h 0 9 1 encT vdata data_5)) rfl rfl (by kernel_rfl) (by kernel_rfl) (want_none) rfl rfl (by kernel_rfl) (fun _ _ c620 => q_idx ts_36 c620.slice rfl rfl ho_20) ?_
                  refine Go.Wk.HA.valN (k := 9) (v := .string (bs (gi data_5 (j_5 - 1)))) 0 15 (fun h => (OwnIs h 0 9 1 encT vdata data_5)) rfl rfl (by kernel_rfl) (by kernel_rfl) (want_none) rfl rfl (by kernel_rfl) (fun _ _ c620 => q_ldElem to_9 c620.slice rfl ho_20 rfl) ?_
                  refine HA.val (k := 10) (v := vdata) rfl rfl (by kernel_rfl) (by kernel_rfl) (want_none) rfl (fun _ _ => q_move rfl) ?_
                  refine HA.val (k := 11) (v := .int .i64 j_5) rfl rfl (by kernel_rfl) (by kernel_rfl) (want_none) rfl (fun _ _ => q_move rfl) ?_
                  refine Go.Wk.HA.valN (k := 12) (v := elemPtr 1 vdata (j_5).toNat) 0 15 (fun h => (OwnIs h 0 9 1 encT vdata data_5)) rfl rfl (by kernel_rfl) (by kernel_rfl) (want_none) rfl rfl (by kernel_rfl) (fun _ _ c620 => q_idx ts_36 c620.slice rfl rfl ho_18) ?_
                  refine Go.Wk.HA.valN (k := 13) (v := .string (bs (gi data_5 j_5))) 0 15 (fun h => (OwnIs h 0 9 1 encT vdata data_5)) rfl rfl (by kernel_rfl) (by kernel_rfl) (want_none) rfl rfl (by kernel_rfl) (fun _ _ c620 => q_ldElem to_9 c620.slice rfl ho_18 rfl) ?_
                  refine Go.Wk.HA.valN (k := 14) (v := elemPtr 1 vdata (j_5).toNat) 0 15 (fun h => (OwnIs h 0 9 1 encT vdata data_5)) rfl rfl (by kernel_rfl) (by kernel_rfl) (want_none) rfl rfl (by kernel_rfl) (fun _ _ c620 => q_idx ts_36 c620.slice rfl rfl ho_18) ?_
                  refine HA.one (k := 15) ⟨trivial, (at_now (hS.own 0 rfl) (Go.Wk.at_nil _ _))⟩ (by kernel_rfl) ?_
                  refine HS.sto rfl (want_none) rfl (st_storeField (a := (gi data_5 (j_5 - 1))) (n := (j_5).toNat) (j := 0) hS (i := 0) rfl to_9 (elem_field _ _ _) (by omega) (by decide) rfl (by rw [← gi_lt ho_18.1 ho_18.2]; rfl) rfl rfl) ?_
                  rintro h_14 ⟨hS, hk⟩
                  replace hS : St F_6 (Ow.own 9 1 encT vdata (data_5.set (j_5).toNat (gi data_5 (j_5 - 1))) :: fr) h_14 := hS
                  replace hK := hK.trans hk
                  replace hF_cf_cmp := hF_cf_cmp.kp hk
                  refine Go.Wk.HA.re (fun h => True) [(17, fun h => (OwnIs h 0 9 1 encT vdata (data_5.set (j_5).toNat (gi data_5 (j_5 - 1)))))] (fun L_ h_ hL_ _ hs_ => ⟨trivial, (at_gone hL_ (by kernel_rfl) (Go.Wk.at_nil _ _))⟩) ?_
                  obtain ⟨ho_22, hM⟩ := hM
                  refine Go.Wk.HA.valN (k := 16) (v := elemPtr 1 vdata (j_5 - 1).toNat) 0 17 (fun h => (OwnIs h 0 9 1 encT vdata (data_5.set (j_5).toNat (gi data_5 (j_5 - 1))))) rfl rfl (by kernel_rfl) (by kernel_rfl) (want_none) rfl rfl (by kernel_rfl) (fun _ _ c620 => q_idx ts_36 c620.slice rfl rfl ho_22) ?_
                  refine HA.one (k := 17) ⟨trivial, (at_now (hS.own 0 rfl) (Go.Wk.at_nil _ _))⟩ (by kernel_rfl) ?_
                  refine HS.sto rfl (want_none) rfl (st_storeField (a := (gi data_5 j_5)) (n := (j_5 - 1).toNat) (j := 0) hS (i := 0) rfl to_9 (elem_field _ _ _) (by omega) (by decide) rfl (by rw [← gi_lt ho_22.1 ho_22.2]; rfl) rfl rfl) ?_
                  rintro h_15 ⟨hS, hk⟩
                  replace hS : St F_6 (Ow.own 9 1 encT vdata ((data_5.set (j_5).toNat (gi data_5 (j_5 - 1))).set (j_5 - 1).toNat (gi data_5 j_5)) :: fr) h_15 := hS
                  replace hK := hK.trans hk
                  replace hF_cf_cmp := hF_cf_cmp.kp hk
                  refine HA.nil ⟨trivial, (at_done (by kernel_rfl) (Go.Wk.at_nil _ _))⟩ (by kernel_rfl) (blockQ_normal (thenQ_normal (?_)))
                  refine HW.region ?_
                  refine HO.val (v := .int .i64 j_5) (want_none) rfl (q_move rfl) ?_
                  obtain ⟨ho_23, hM⟩ := hM
                  refine HO.val (v := .int .i64 (j_5 + 1)) (want_none) rfl (q_addN _ rfl rfl rfl ho_23.1 ho_23.2) ?_
                  refine HO.val (v := .int .i64 (j_5 + 1)) (want_none) rfl (q_assign rfl) ?_
                  refine HO.nil (thenQ_normal (?_))
                  rw [hKe_4] at hM
                  exact ⟨((data_5.set (j_5).toNat (gi data_5 (j_5 - 1))).set (j_5 - 1).toNat (gi data_5 j_5), j_5 + 1), ⟨F_6, rfl, rfl, rfl, rfl, rfl, rfl, rfl, rfl, hK, hS, hF_cf_cmp, hM.1⟩, hM.2⟩
              · replace hM := hM.2 (of_decide_eq_false c_10)
                refine HW.exit (thenQ_exit (thenQ_exit (blockQ_exit (blockQ_normal (thenQ_normal (?_))))))
                refine HW.region ?_
                refine HO.val (v := .int .i64 j_1) (want_none) rfl (q_move rfl) ?_
                obtain ⟨ho_24, hM⟩ := hM
                refine HO.val (v := .int .i64 (j_1 + 1)) (want_none) rfl (q_addN _ rfl rfl rfl ho_24.1 ho_24.2) ?_
                refine HO.val (v := .int .i64 (j_1 + 1)) (want_none) rfl (q_assign rfl) ?_
                refine HO.nil (thenQ_normal (?_))
                rw [hKe_1] at hM
                exact ⟨(data_5, i_2, j_1 + 1), ⟨F_6, rfl, rfl, rfl, rfl, rfl, rfl, rfl, hK, hS, hF_cf_cmp, hM.1⟩, hM.2⟩
            · replace hM := hM.2 (of_decide_eq_false c_9)
              refine HW.skip (blockQ_normal (thenQ_normal (?_)))
              refine HW.region ?_
              refine HO.val (v := .int .i64 j_1) (want_none) rfl (q_move rfl) ?_
              obtain ⟨ho_25, hM⟩ := hM
              refine HO.val (v := .int .i64 (j_1 + 1)) (want_none) rfl (q_addN _ rfl rfl rfl ho_25.1 ho_25.2) ?_
              refine HO.val (v := .int .i64 (j_1 + 1)) (want_none) rfl (q_assign rfl) ?_
              refine HO.nil (thenQ_normal (?_))
              rw [hKe_1] at hM
              exact ⟨(data_3, i_2, j_1 + 1), ⟨F_5, rfl, rfl, rfl, rfl, rfl, rfl, rfl, hK, hS, hF_cf_cmp, hM.1⟩, hM.2⟩
  · replace hM := hM.2 (of_decide_eq_false c_1)
    refine HW.exit (thenQ_exit (thenQ_exit (blockQ_exit (thenQ_normal (?_)))))
    refine HW.seq ?_
    refine HW.region ?_
    refine HO.val (v := .bool false) (want_none) rfl (q_assign rfl) ?_
    refine HO.nil (thenQ_normal (?_))
    refine HW.ret (?_)
    refine ⟨.inr rfl, .bool false, res1 rfl (rt rfl), ?_⟩
    exact ⟨F_1, false, data_2, rfl, hK, hS, hF_cf_cmp, hM⟩

def slices_partitionEqualCmpFunc_string_j4 (Q : Int → (List Str) → Prop) (data_2 : List Str) (K_1 : (List Str) → Int → Int → Prop) (i_2 : Int) (j_3 : Int) : Prop :=
  (j_3 < i_2 → Q i_2 data_2) ∧ (¬ (j_3 < i_2) → ((0 : Int) ≤ j_3 ∧ j_3 < (data_2.length : Int)) ∧ (((0 : Int) ≤ i_2 ∧ i_2 < (data_2.length : Int)) ∧ (((0 : Int) ≤ j_3 ∧ j_3 < ((data_2.set (i_2).toNat (gi data_2 j_3)).length : Int)) ∧ ((I64 (i_2 + 1)) ∧ ((I64 (j_3 - 1)) ∧ (K_1 ((data_2.set (i_2).toNat (gi data_2 j_3)).set (j_3).toNat (gi data_2 i_2)) (i_2 + 1) (j_3 - 1)))))))
def slices_partitionEqualCmpFunc_string_l3 (a : Int) (cf_cmp : Str → Str → Int) (Q : Int → (List Str) → Prop) (data_2 : List Str) (K_1 : (List Str) → Int → Int → Prop) (i_2 : Int) (K_3 : Int → Prop) (j_5 : Int) : Prop :=
  (i_2 ≤ j_5 → ((0 : Int) ≤ a ∧ a < (data_2.length : Int)) ∧ (((0 : Int) ≤ j_5 ∧ j_5 < (data_2.length : Int)) ∧ (((cf_cmp (gi data_2 a) (gi data_2 j_5)) < 0 → (I64 (j_5 - 1)) ∧ (K_3 (j_5 - 1))) ∧ (¬ ((cf_cmp (gi data_2 a) (gi data_2 j_5)) < 0) → slices_partitionEqualCmpFunc_string_j4 Q data_2 K_1 i_2 j_5)))) ∧ (¬ (i_2 ≤ j_5) → slices_partitionEqualCmpFunc_string_j4 Q data_2 K_1 i_2 j_5)
def slices_partitionEqualCmpFunc_string_j2 (a : Int) (cf_cmp : Str → Str → Int) (Q : Int → (List Str) → Prop) (data_2 : List Str) (j_1 : Int) (K_1 : (List Str) → Int → Int → Prop) (i_2 : Int) : Prop :=
  loopW (fun (K_3 : Int → Prop) (s : Int) => slices_partitionEqualCmpFunc_string_l3 a cf_cmp Q data_2 K_1 i_2 K_3 s) j_1
def slices_partitionEqualCmpFunc_string_l2 (a : Int) (cf_cmp : Str → Str → Int) (Q : Int → (List Str) → Prop) (data_2 : List Str) (j_1 : Int) (K_1 : (List Str) → Int → Int → Prop) (K_2 : Int → Prop) (i_3 : Int) : Prop :=
  (i_3 ≤ j_1 → ((0 : Int) ≤ a ∧ a < (data_2.length : Int)) ∧ (((0 : Int) ≤ i_3 ∧ i_3 < (data_2.length : Int)) ∧ ((¬ ((cf_cmp (gi data_2 a) (gi data_2 i_3)) < 0) → (I64 (i_3 + 1)) ∧ (K_2 (i_3 + 1))) ∧ ((cf_cmp (gi data_2 a) (gi data_2 i_3)) < 0 → slices_partitionEqualCmpFunc_string_j2 a cf_cmp Q data_2 j_1 K_1 i_3)))) ∧ (¬ (i_3 ≤ j_1) → slices_partitionEqualCmpFunc_string_j2 a cf_cmp Q data_2 j_1 K_1 i_3)
def slices_partitionEqualCmpFunc_string_l1 (a : Int) (cf_cmp : Str → Str → Int) (Q : Int → (List Str) → Prop) (K_1 : (List Str) → Int → Int → Prop) (data_2 : List Str) (i_1 : Int) (j_1 : Int) : Prop :=
  loopW (fun (K_2 : Int → Prop) (s : Int) => slices_partitionEqualCmpFunc_string_l2 a cf_cmp Q data_2 j_1 K_1 K_2 s) i_1
def slices_partitionEqualCmpFunc_string_W (data : List Str) (a : Int) (b : Int) (pivot : Int) (cf_cmp : Str → Str → Int) (Q : Int → (List Str) → Prop) : Prop :=
  ((0 : Int) ≤ pivot ∧ pivot < (data.length : Int)) ∧ (((0 : Int) ≤ a ∧ a < (data.length : Int)) ∧ (((0 : Int) ≤ pivot ∧ pivot < ((data.set (a).toNat (gi data pivot)).length : Int)) ∧ ((I64 (a + 1)) ∧ ((I64 (b - 1)) ∧ (loopW (fun (K_1 : (List Str × Int × Int) → Prop) (s : List Str × Int × Int) => slices_partitionEqualCmpFunc_string_l1 a cf_cmp Q (fun data_2 i_1 j_1 => K_1 (data_2, i_1, j_1)) s.1 s.2.1 s.2.2) ((data.set (a).toNat (gi data pivot)).set (pivot).toNat (gi data a), a + 1, b - 1))))))
set_option maxHeartbeats 40000000 in
set_option maxRecDepth 100000 in
theorem slices_partitionEqualCmpFunc_string_walk {F : Fz} {fr : List Ow} {h0 : Heap} (data : List Str) (a : Int) (b : Int) (pivot : Int) (cf_cmp : Str → Str → Int) (vdata : Value) (g_cmp : Nat) (fs_cmp : Array Value) (cs_cmp : Array Value) (hS : St F (Ow.own 9 1 encT vdata data :: fr) h0) (hF_cf_cmp : FnP Try.prog F h0 g_cmp fs_cmp cs_cmp (fun x : Str × Str => [.string (bs x.1), .string (bs x.2)]) (fun x => .int .i64 (cf_cmp x.1 x.2))) {Q : Int → (List Str) → Prop} (hM : slices_partitionEqualCmpFunc_string_W data a b pivot cf_cmp Q) :
    HC Try.prog 86 #[vdata, .int .i64 a, .int .i64 b, .int .i64 pivot, .func (.func g_cmp) fs_cmp cs_cmp] h0 fun u h' => ∃ (F' : Fz) (r_1 : Int) (data_1 : List Str), u = .int .i64 r_1 ∧ Kp F h0 F' h' ∧ St F' (Ow.own 9 1 encT vdata data_1 :: fr) h' ∧ (FnP Try.prog F' h' g_cmp fs_cmp cs_cmp (fun x : Str × Str => [.string (bs x.1), .string (bs x.2)]) (fun x => .int .i64 (cf_cmp x.1 x.2))) ∧ Q r_1 data_1 := by
  unfold slices_partitionEqualCmpFunc_string_W at hM
  have hK := Kp.refl F h0
  refine HC.of_HW (n := 90) Try.func86 rfl rfl (Nat.le_of_ble_eq_true rfl) ?_
  refine HW.seq ?_
  refine HW.region ?_
  refine HO.val (v := .int .i64 0) (want_none) rfl (q_assign rfl) ?_
  refine HO.nil (thenQ_normal (?_))
  refine HW.seq ?_
  refine HW.regionA 16 mixed (fun h => True) [(13, fun h => (OwnIs h 0 9 1 encT vdata data))] (by kernel_rfl) ?_
  refine HA.val (k := 0) (v := vdata) rfl rfl (by kernel_rfl) (by kernel_rfl) (want_none) rfl (fun _ _ => q_move rfl) ?_
  refine HA.val (k := 1) (v := .int .i64 a) rfl rfl (by kernel_rfl) (by kernel_rfl) (want_none) rfl (fun _ _ => q_move rfl) ?_
  refine HA.val (k := 2) (v := vdata) rfl rfl (by kernel_rfl) (by kernel_rfl) (want_none) rfl (fun _ _ => q_move rfl) ?_
  refine HA.val (k := 3) (v := .int .i64 pivot) rfl rfl (by kernel_rfl) (by kernel_rfl) (want_none) rfl (fun _ _ => q_move rfl) ?_
  refine HA.val (k := 4) (v := vdata) rfl rfl (by kernel_rfl) (by kernel_rfl) (want_none) rfl (fun _ _ => q_move rfl) ?_
  refine HA.val (k := 5) (v := .int .i64 pivot) rfl rfl (by kernel_rfl) (by kernel_rfl) (want_none) rfl (fun _ _ => q_move rfl) ?_
  obtain ⟨ho_1, hM⟩ := hM
  refine Go.Wk.HA.valN (k := 6) (v := elemPtr 1 vdata (pivot).toNat) 0 13 (fun h => (OwnIs h 0 9 1 encT vdata data)) rfl rfl (by kernel_rfl) (by kernel_rfl) (want_none) rfl rfl (by kernel_rfl) (fun _ _ c1 => q_idx ts_36 c1.slice rfl rfl ho_1) ?_
  refine Go.Wk.HA.valN (k := 7) (v := .string (bs (gi data pivot))) 0 13 (fun h => (OwnIs h 0 9 1 encT vdata data)) rfl rfl (by kernel_rfl) (by kernel_rfl) (want_none) rfl rfl (by kernel_rfl) (fun _ _ c1 => q_ldElem to_9 c1.slice rfl ho_1 rfl) ?_
  refine HA.val (k := 8) (v := vdata) rfl rfl (by kernel_rfl) (by kernel_rfl) (want_none) rfl (fun _ _ => q_move rfl) ?_
  refine HA.val (k := 9) (v := .int .i64 a) rfl rfl (by kernel_rfl) (by kernel_rfl) (want_none) rfl (fun _ _ => q_move rfl) ?_
  obtain ⟨ho_2, hM⟩ := hM
  refine Go.Wk.HA.valN (k := 10) (v := elemPtr 1 vdata (a).toNat) 0 13 (fun h => (OwnIs h 0 9 1 encT vdata data)) rfl rfl (by kernel_rfl) (by kernel_rfl) (want_none) rfl rfl (by kernel_rfl) (fun _ _ c1 => q_idx ts_36 c1.slice rfl rfl ho_2) ?_
  refine Go.Wk.HA.valN (k := 11) (v := .string (bs (gi data a))) 0 13 (fun h => (OwnIs h 0 9 1 encT vdata data)) rfl rfl (by kernel_rfl) (by kernel_rfl) (want_none) rfl rfl (by kernel_rfl) (fun _ _ c1 => q_ldElem to_9 c1.slice rfl ho_2 rfl) ?_
  refine Go.Wk.HA.valN (k := 12) (v := elemPtr 1 vdata (a).toNat) 0 13 (fun h => (OwnIs h 0 9 1 encT vdata data)) rfl rfl (by kernel_rfl) (by kernel_rfl) (want_none) rfl rfl (by kernel_rfl) (fun _ _ c1 => q_idx ts_36 c1.slice rfl rfl ho_2) ?_
  refine HA.one (k := 13) ⟨trivial, (at_now (hS.own 0 rfl) (Go.Wk.at_nil _ _))⟩ (by kernel_rfl) ?_
  refine HS.sto rfl (want_none) rfl (st_storeField (a := (gi data pivot)) (n := (a).toNat) (j := 0) hS (i := 0) rfl to_9 (elem_field _ _ _) (by omega) (by decide) rfl (by rw [← gi_lt ho_2.1 ho_2.2]; rfl) rfl rfl) ?_
  rintro h_1 ⟨hS, hk⟩
  replace hS : St F (Ow.own 9 1 encT vdata (data.set (a).toNat (gi data pivot)) :: fr) h_1 := hS
  replace hK := hK.trans hk
  replace hF_cf_cmp := hF_cf_cmp.kp hk
  refine Go.Wk.HA.re (fun h => True) [(15, fun h => (OwnIs h 0 9 1 encT vdata (data.set (a).toNat (gi data pivot))))] (fun L_ h_ hL_ _ hs_ => ⟨trivial, (at_gone hL_ (by kernel_rfl) (Go.Wk.at_nil _ _))⟩) ?_
  obtain ⟨ho_3, hM⟩ := hM
  refine Go.Wk.HA.valN (k := 14) (v := elemPtr 1 vdata (pivot).toNat) 0 15 (fun h => (OwnIs h 0 9 1 encT vdata (data.set (a).toNat (gi data pivot)))) rfl rfl (by kernel_rfl) (by kernel_rfl) (want_none) rfl rfl (by kernel_rfl) (fun _ _ c1 => q_idx ts_36 c1.slice rfl rfl ho_3) ?_
  refine HA.one (k := 15) ⟨trivial, (at_now (hS.own 0 rfl) (Go.Wk.at_nil _ _))⟩ (by kernel_rfl) ?_
  refine HS.sto rfl (want_none) rfl (st_storeField (a := (gi data a)) (n := (pivot).toNat) (j := 0) hS (i := 0) rfl to_9 (elem_field _ _ _) (by omega) (by decide) rfl (by rw [← gi_lt ho_3.1 ho_3.2]; rfl) rfl rfl) ?_
  rintro h_2 ⟨hS, hk⟩
  replace hS : St F (Ow.own 9 1 encT vdata ((data.set (a).toNat (gi data pivot)).set (pivot).toNat (gi data a)) :: fr) h_2 := hS
  replace hK := hK.trans hk
  replace hF_cf_cmp := hF_cf_cmp.kp hk
  refine HA.nil ⟨trivial, (at_done (by kernel_rfl) (Go.Wk.at_nil _ _))⟩ (by kernel_rfl) (thenQ_normal (?_))
  refine HW.seq ?_
  refine HW.region ?_
  refine HO.val (v := .int .i64 a) (want_none) rfl (q_move rfl) ?_
  obtain ⟨ho_4, hM⟩ := hM
  refine HO.val (v := .int .i64 (a + 1)) (want_none) rfl (q_addN _ rfl rfl rfl ho_4.1 ho_4.2) ?_
  refine HO.val (v := .int .i64 b) (want_none) rfl (q_move rfl) ?_
  obtain ⟨ho_5, hM⟩ := hM
  refine HO.val (v := .int .i64 (b - 1)) (want_none) rfl (q_subN _ rfl rfl rfl ho_5.1 ho_5.2) ?_
  refine HO.val (v := .int .i64 (a + 1)) (want_none) rfl (q_assign rfl) ?_
  refine HO.val (v := .int .i64 (b - 1)) (want_none) rfl (q_assign rfl) ?_
  refine HO.nil (thenQ_normal (?_))
  refine HW.seq ?_
  refine HW.block ?_
  obtain ⟨I_1, m_1, hI_1, hR_1⟩ := hM
  refine HW.loop (S := List Str × Int × Int) (fun s f h => match s with | (data_2, i_1, j_1) => ∃ (F' : Fz), f 0 = vdata ∧ f 1 = .int .i64 a ∧ f 4 = .func (.func g_cmp) fs_cmp cs_cmp ∧ f 10 = .int .i64 0 ∧ f 11 = .int .i64 i_1 ∧ f 12 = .int .i64 j_1 ∧ Kp F h0 F' h ∧ St F' (Ow.own 9 1 encT vdata data_2 :: fr) h ∧ (FnP Try.prog F' h g_cmp fs_cmp cs_cmp (fun x : Str × Str => [.string (bs x.1), .string (bs x.2)]) (fun x => .int .i64 (cf_cmp x.1 x.2))) ∧ I_1 (data_2, i_1, j_1)) m_1 ((data.set (a).toNat (gi data pivot)).set (pivot).toNat (gi data a), a + 1, b - 1) ⟨F, rfl, rfl, rfl, rfl, rfl, rfl, hK, hS, hF_cf_cmp, hI_1⟩ ?_
  rintro ⟨data_2, i_1, j_1⟩ f_1 h_3 ⟨F_1, e0, e1, e4, e10, e11, e12, hK, hS, hF_cf_cmp, hI0⟩
  obtain ⟨K_1, hKe_1⟩ : ∃ K : (List Str) → Int → Int → Prop, K = fun data_2' i_1' j_1' => I_1 (data_2', i_1', j_1') ∧ m_1 (data_2', i_1', j_1') < m_1 (data_2, i_1, j_1) := ⟨_, rfl⟩
  have hM : slices_partitionEqualCmpFunc_string_l1 a cf_cmp Q K_1 data_2 i_1 j_1 := by rw [hKe_1]; exact hR_1 (data_2, i_1, j_1) hI0
  unfold slices_partitionEqualCmpFunc_string_l1 at hM
  refine HW.fr [(0, vdata), (1, .int .i64 a), (4, .func (.func g_cmp) fs_cmp cs_cmp), (10, .int .i64 0), (11, .int .i64 i_1), (12, .int .i64 j_1)] ⟨e0, e1, e4, e10, e11, e12, trivial⟩ ?_
  refine HW.block ?_
  refine HW.seq_mid (fun f h => ∃ (F' : Fz) (i_2 : Int), f 0 = vdata ∧ f 1 = .int .i64 a ∧ f 4 = .func (.func g_cmp) fs_cmp cs_cmp ∧ f 10 = .int .i64 0 ∧ f 11 = .int .i64 i_2 ∧ f 12 = .int .i64 j_1 ∧ Kp F h0 F' h ∧ St F' (Ow.own 9 1 encT vdata data_2 :: fr) h ∧ (FnP Try.prog F' h g_cmp fs_cmp cs_cmp (fun x : Str × Str => [.string (bs x.1), .string (bs x.2)]) (fun x => .int .i64 (cf_cmp x.1 x.2))) ∧ slices_partitionEqualCmpFunc_string_j2 a cf_cmp Q data_2 j_1 K_1 i_2) ?_ ?_
  · refine HW.block ?_
    obtain ⟨I_2, m_2, hI_2, hR_2⟩ := hM
    refine HW.loop (S := Int) (fun i_3 f h => ∃ (F' : Fz), f 0 = vdata ∧ f 1 = .int .i64 a ∧ f 4 = .func (.func g_cmp) fs_cmp cs_cmp ∧ f 10 = .int .i64 0 ∧ f 11 = .int .i64 i_3 ∧ f 12 = .int .i64 j_1 ∧ Kp F h0 F' h ∧ St F' (Ow.own 9 1 encT vdata data_2 :: fr) h ∧ (FnP Try.prog F' h g_cmp fs_cmp cs_cmp (fun x : Str × Str => [.string (bs x.1), .string (bs x.2)]) (fun x => .int .i64 (cf_cmp x.1 x.2))) ∧ I_2 i_3) m_2 i_1 ⟨F_1, rfl, rfl, rfl, rfl, rfl, rfl, hK, hS, hF_cf_cmp, hI_2⟩ ?_
    rintro i_3 f_2 h_4 ⟨F_2, e0, e1, e4, e10, e11, e12, hK, hS, hF_cf_cmp, hI0⟩
    obtain ⟨K_2, hKe_2⟩ : ∃ K : Int → Prop, K = fun i_3' => I_2 i_3' ∧ m_2 i_3' < m_2 i_3 := ⟨_, rfl⟩
    have hM : slices_partitionEqualCmpFunc_string_l2 a cf_cmp Q data_2 j_1 K_1 K_2 i_3 := by rw [hKe_2]; exact hR_2 i_3 hI0
    unfold slices_partitionEqualCmpFunc_string_l2 at hM
    refine HW.fr [(0, vdata), (1, .int .i64 a), (4, .func (.func g_cmp) fs_cmp cs_cmp), (10, .int .i64 0), (11, .int .i64 i_3), (12, .int .i64 j_1)] ⟨e0, e1, e4, e10, e11, e12, trivial⟩ ?_
    refine HW.seq ?_
    refine HW.seq ?_
    refine HW.regionA 17 mixed (fun h => (OwnIs h 0 9 1 encT vdata data_2)) [] (by kernel_rfl) ?_
    refine HA.val (k := 0) (v := .int .i64 i_3) rfl rfl (by kernel_rfl) (by kernel_rfl) (want_none) rfl (fun _ c557 => q_move rfl) ?_
    refine HA.val (k := 1) (v := .int .i64 j_1) rfl rfl (by kernel_rfl) (by kernel_rfl) (want_none) rfl (fun _ c557 => q_move rfl) ?_
    refine HA.val (k := 2) (v := .bool (decide (i_3 ≤ j_1))) rfl rfl (by kernel_rfl) (by kernel_rfl) (want_none) rfl (fun _ c557 => q_leq rfl rfl) ?_
    refine HA.val (k := 3) (v := .bool (decide (i_3 ≤ j_1))) rfl rfl (by kernel_rfl) (by kernel_rfl) (want_none) rfl (fun _ c557 => q_move rfl) ?_
    rcases Bool.eq_false_or_eq_true (decide (i_3 ≤ j_1)) with c_1 | c_1
    · replace hM := hM.1 (of_decide_eq_true c_1)
      refine HA.val (k := 4) (v := .func (.func g_cmp) fs_cmp cs_cmp) rfl rfl (by kernel_rfl) (by kernel_rfl) (want_by rfl rfl c_1) rfl (fun _ c557 => q_move rfl) ?_
      refine HA.val (k := 5) (v := vdata) rfl rfl (by kernel_rfl) (by kernel_rfl) (want_by rfl rfl c_1) rfl (fun _ c557 => q_move rfl) ?_
      refine HA.val (k := 6) (v := .int .i64 a) rfl rfl (by kernel_rfl) (by kernel_rfl) (want_by rfl rfl c_1) rfl (fun _ c557 => q_move rfl) ?_
      obtain ⟨ho_6, hM⟩ := hM
      refine HA.val (k := 7) (v := elemPtr 1 vdata (a).toNat) rfl rfl (by kernel_rfl) (by kernel_rfl) (want_by rfl rfl c_1) rfl (fun _ c557 => q_idx ts_36 c557.slice rfl rfl ho_6) ?_
      refine HA.val (k := 8) (v := .string (bs (gi data_2 a))) rfl rfl (by kernel_rfl) (by kernel_rfl) (want_by rfl rfl c_1) rfl (fun _ c557 => q_ldElem to_9 c557.slice rfl ho_6 rfl) ?_
      refine HA.val (k := 9) (v := vdata) rfl rfl (by kernel_rfl) (by kernel_rfl) (want_by rfl rfl c_1) rfl (fun _ c557 => q_move rfl) ?_
      refine HA.val (k := 10) (v := .int .i64 i_3) rfl rfl (by kernel_rfl) (by kernel_rfl) (want_by rfl rfl c_1) rfl (fun _ c557 => q_move rfl) ?_
      obtain ⟨ho_7, hM⟩ := hM
      refine HA.val (k := 11) (v := elemPtr 1 vdata (i_3).toNat) rfl rfl (by kernel_rfl) (by kernel_rfl) (want_by rfl rfl c_1) rfl (fun _ c557 => q_idx ts_36 c557.slice rfl rfl ho_7) ?_
      refine HA.val (k := 12) (v := .string (bs (gi data_2 i_3))) rfl rfl (by kernel_rfl) (by kernel_rfl) (want_by rfl rfl c_1) rfl (fun _ c557 => q_ldElem to_9 c557.slice rfl ho_7 rfl) ?_
      refine HA.one (k := 13) ⟨(hS.own 0 rfl), (Go.Wk.at_nil _ _)⟩ (by kernel_rfl) ?_
      refine HS.call rfl (want_by rfl rfl c_1) rfl (hF_cf_cmp.ec ((gi data_2 a), (gi data_2 i_3)) rfl rfl) (hF_cf_cmp.hc ((gi data_2 a), (gi data_2 i_3)) hS) ?_
      rintro _ h_5 ⟨rfl, hS, hk⟩
      replace hK := hK.trans hk
      replace hF_cf_cmp := hF_cf_cmp.kp hk
      refine HA.val (k := 14) (v := .bool (decide ((cf_cmp (gi data_2 a) (gi data_2 i_3)) < 0))) rfl rfl (by kernel_rfl) (by kernel_rfl) (want_by rfl rfl c_1) rfl (fun _ c557 => q_lss rfl rfl) ?_
      refine HA.val (k := 15) (v := .bool (!decide ((cf_cmp (gi data_2 a) (gi data_2 i_3)) < 0))) rfl rfl (by kernel_rfl) (by kernel_rfl) (want_by rfl rfl c_1) rfl (fun _ c557 => q_not rfl) ?_
      refine HA.val (k := 16) (v := .bool (!decide ((cf_cmp (gi data_2 a) (gi data_2 i_3)) < 0))) rfl rfl (by kernel_rfl) (by kernel_rfl) (want_none) rfl (fun _ c557 => q_pickK true rfl c_1 rfl) ?_
      refine HA.nil ⟨(hS.own 0 rfl), (Go.Wk.at_nil _ _)⟩ (by kernel_rfl) (thenQ_normal (?_))
      refine HW.cond (!decide ((cf_cmp (gi data_2 a) (gi data_2 i_3)) < 0)) rfl (fun c_2 => ?_) (fun c_2 => ?_)
      · replace hM := hM.1 (nd_true c_2)
        refine HW.skip (thenQ_normal (?_))
        refine HW.block ?_
        refine HW.region ?_
        refine HO.val (v := .int .i64 i_3) (want_none) rfl (q_move rfl) ?_
        obtain ⟨ho_8, hM⟩ := hM
        refine HO.val (v := .int .i64 (i_3 + 1)) (want_none) rfl (q_addN _ rfl rfl rfl ho_8.1 ho_8.2) ?_
        refine HO.val (v := .int .i64 (i_3 + 1)) (want_none) rfl (q_assign rfl) ?_
        refine HO.nil (blockQ_normal (thenQ_normal (?_)))
        rw [hKe_2] at hM
        exact ⟨i_3 + 1, ⟨F_2, rfl, rfl, rfl, rfl, rfl, rfl, hK, hS, hF_cf_cmp, hM.1⟩, hM.2⟩
      · replace hM := hM.2 (nd_false c_2)
        refine HW.exit (thenQ_exit (thenQ_exit (blockQ_exit (thenQ_normal (?_)))))
        exact ⟨F_2, i_3, rfl, rfl, rfl, rfl, rfl, rfl, hK, hS, hF_cf_cmp, hM⟩
    · replace hM := hM.2 (of_decide_eq_false c_1)
      refine HA.past (k := 4) rfl rfl (by kernel_rfl) (by kernel_rfl) (past_by rfl rfl c_1) rfl ?_
      refine HA.past (k := 5) rfl rfl (by kernel_rfl) (by kernel_rfl) (past_by rfl rfl c_1) rfl ?_
      refine HA.past (k := 6) rfl rfl (by kernel_rfl) (by kernel_rfl) (past_by rfl rfl c_1) rfl ?_
      refine HA.past (k := 7) rfl rfl (by kernel_rfl) (by kernel_rfl) (past_by rfl rfl c_1) rfl ?_
      refine HA.past (k := 8) rfl rfl (by kernel_rfl) (by kernel_rfl) (past_by rfl rfl c_1) rfl ?_
      refine HA.past (k := 9) rfl rfl (by kernel_rfl) (by kernel_rfl) (past_by rfl rfl c_1) rfl ?_
      refine HA.past (k := 10) rfl rfl (by kernel_rfl) (by kernel_rfl) (past_by rfl rfl c_1) rfl ?_
      refine HA.past (k := 11) rfl rfl (by kernel_rfl) (by kernel_rfl) (past_by rfl rfl c_1) rfl ?_
      refine HA.past (k := 12) rfl rfl (by kernel_rfl) (by kernel_rfl) (past_by rfl rfl c_1) rfl ?_
      refine HA.one (k := 13) ⟨(hS.own 0 rfl), (Go.Wk.at_nil _ _)⟩ (by kernel_rfl) ?_
      refine HS.past rfl (past_by rfl rfl c_1) rfl ?_
      refine HA.past (k := 14) rfl rfl (by kernel_rfl) (by kernel_rfl) (past_by rfl rfl c_1) rfl ?_
      refine HA.past (k := 15) rfl rfl (by kernel_rfl) (by kernel_rfl) (past_by rfl rfl c_1) rfl ?_
      refine HA.val (k := 16) (v := .bool false) rfl rfl (by kernel_rfl) (by kernel_rfl) (want_none) rfl (fun _ c557 => q_pickK false rfl c_1 rfl) ?_
      refine HA.nil ⟨(hS.own 0 rfl), (Go.Wk.at_nil _ _)⟩ (by kernel_rfl) (thenQ_normal (?_))
      refine HW.condF rfl ?_
      refine HW.exit (thenQ_exit (thenQ_exit (blockQ_exit (thenQ_normal (?_)))))
      exact ⟨F_2, i_3, rfl, rfl, rfl, rfl, rfl, rfl, hK, hS, hF_cf_cmp, hM⟩
  · rintro f_3 h_6 ⟨F_3, i_2, e0, e1, e4, e10, e11, e12, hK, hS, hF_cf_cmp, hM⟩
    unfold slices_partitionEqualCmpFunc_string_j2 at hM
    refine HW.fr [(0, vdata), (1, .int .i64 a), (4, .func (.func g_cmp) fs_cmp cs_cmp), (10, .int .i64 0), (11, .int .i64 i_2), (12, .int .i64 j_1)] ⟨e0, e1, e4, e10, e11, e12, trivial⟩ ?_
    refine HW.seq_mid (fun f h => ∃ (F' : Fz) (j_3 : Int), f 0 = vdata ∧ f 1 = .int .i64 a ∧ f 4 = .func (.func g_cmp) fs_cmp cs_cmp ∧ f 10 = .int .i64 0 ∧ f 11 = .int .i64 i_2 ∧ f 12 = .int .i64 j_3 ∧ Kp F h0 F' h ∧ St F' (Ow.own 9 1 encT vdata data_2 :: fr) h ∧ (FnP Try.prog F' h g_cmp fs_cmp cs_cmp (fun x : Str × Str => [.string (bs x.1), .string (bs x.2)]) (fun x => .int .i64 (cf_cmp x.1 x.2))) ∧ slices_partitionEqualCmpFunc_string_j4 Q data_2 K_1 i_2 j_3) ?_ ?_
    · refine HW.block ?_
      obtain ⟨I_3, m_3, hI_3, hR_3⟩ := hM
      refine HW.loop (S := Int) (fun j_5 f h => ∃ (F' : Fz), f 0 = vdata ∧ f 1 = .int .i64 a ∧ f 4 = .func (.func g_cmp) fs_cmp cs_cmp ∧ f 10 = .int .i64 0 ∧ f 11 = .int .i64 i_2 ∧ f 12 = .int .i64 j_5 ∧ Kp F h0 F' h ∧ St F' (Ow.own 9 1 encT vdata data_2 :: fr) h ∧ (FnP Try.prog F' h g_cmp fs_cmp cs_cmp (fun x : Str × Str => [.string (bs x.1), .string (bs x.2)]) (fun x => .int .i64 (cf_cmp x.1 x.2))) ∧ I_3 j_5) m_3 j_1 ⟨F_3, rfl, rfl, rfl, rfl, rfl, rfl, hK, hS, hF_cf_cmp, hI_3⟩ ?_
      rintro j_5 f_4 h_7 ⟨F_4, e0, e1, e4, e10, e11, e12, hK, hS, hF_cf_cmp, hI0⟩
      obtain ⟨K_3, hKe_3⟩ : ∃ K : Int → Prop, K = fun j_5' => I_3 j_5' ∧ m_3 j_5' < m_3 j_5 := ⟨_, rfl⟩
      have hM : slices_partitionEqualCmpFunc_string_l3 a cf_cmp Q data_2 K_1 i_2 K_3 j_5 := by rw [hKe_3]; exact hR_3 j_5 hI0
      unfold slices_partitionEqualCmpFunc_string_l3 at hM
      refine HW.fr [(0, vdata), (1, .int .i64 a), (4, .func (.func g_cmp) fs_cmp cs_cmp), (10, .int .i64 0), (11, .int .i64 i_2), (12, .int .i64 j_5)] ⟨e0, e1, e4, e10, e11, e12, trivial⟩ ?_
      refine HW.seq ?_
      refine HW.seq ?_
      refine HW.regionA 16 mixed (fun h => (OwnIs h 0 9 1 encT vdata data_2)) [] (by kernel_rfl) ?_
      refine HA.val (k := 0) (v := .int .i64 i_2) rfl rfl (by kernel_rfl) (by kernel_rfl) (want_none) rfl (fun _ c558 => q_move rfl) ?_
      refine HA.val (k := 1) (v := .int .i64 j_5) rfl rfl (by kernel_rfl) (by kernel_rfl) (want_none) rfl (fun _ c558 => q_move rfl) ?_
      refine HA.val (k := 2) (v := .bool (decide (i_2 ≤ j_5))) rfl rfl (by kernel_rfl) (by kernel_rfl) (want_none) rfl (fun _ c558 => q_leq rfl rfl) ?_
      refine HA.val (k := 3) (v := .bool (decide (i_2 ≤ j_5))) rfl rfl (by kernel_rfl) (by kernel_rfl) (want_none) rfl (fun _ c558 => q_move rfl) ?_
      rcases Bool.eq_false_or_eq_true (decide (i_2 ≤ j_5)) with c_3 | c_3
      · replace hM := hM.1 (of_decide_eq_true c_3)
        refine HA.val (k := 4) (v := .func (.func g_cmp) fs_cmp cs_cmp) rfl rfl (by kernel_rfl) (by kernel_rfl) (want_by rfl rfl c_3) rfl (fun _ c558 => q_move rfl) ?_
        refine HA.val (k := 5) (v := vdata) rfl rfl (by kernel_rfl) (by kernel_rfl) (want_by rfl rfl c_3) rfl (fun _ c558 => q_move rfl) ?_
        refine HA.val (k := 6) (v := .int .i64 a) rfl rfl (by kernel_rfl) (by kernel_rfl) (want_by rfl rfl c_3) rfl (fun _ c558 => q_move rfl) ?_
        obtain ⟨ho_9, hM⟩ := hM
        refine HA.val (k := 7) (v := elemPtr 1 vdata (a).toNat) rfl rfl (by kernel_rfl) (by kernel_rfl) (want_by rfl rfl c_3) rfl (fun _ c558 => q_idx ts_36 c558.slice rfl rfl ho_9) ?_
        refine HA.val (k := 8) (v := .string (bs (gi data_2 a))) rfl rfl (by kernel_rfl) (by kernel_rfl) (want_by rfl rfl c_3) rfl (fun _ c558 => q_ldElem to_9 c558.slice rfl ho_9 rfl) ?_
        refine HA.val (k := 9) (v := vdata) rfl rfl (by kernel_rfl) (by kernel_rfl) (want_by rfl rfl c_3) rfl (fun _ c558 => q_move rfl) ?_
        refine HA.val (k := 10) (v := .int .i64 j_5) rfl rfl (by kernel_rfl) (by kernel_rfl) (want_by rfl rfl c_3) rfl (fun _ c558 => q_move rfl) ?_
        obtain ⟨ho_10, hM⟩ := hM
        refine HA.val (k := 11) (v := elemPtr 1 vdata (j_5).toNat) rfl rfl (by kernel_rfl) (by kernel_rfl) (want_by rfl rfl c_3) rfl (fun _ c558 => q_idx ts_36 c558.slice rfl rfl ho_10) ?_
        refine HA.val (k := 12) (v := .string (bs (gi data_2 j_5))) rfl rfl (by kernel_rfl) (by kernel_rfl) (want_by rfl rfl c_3) rfl (fun _ c558 => q_ldElem to_9 c558.slice rfl ho_10 rfl) ?_
        refine HA.one (k := 13) ⟨(hS.own 0 rfl), (Go.Wk.at_nil _ _)⟩ (by kernel_rfl) ?_
        refine HS.call rfl (want_by rfl rfl c_3) rfl (hF_cf_cmp.ec ((gi data_2 a), (gi data_2 j_5)) rfl rfl) (hF_cf_cmp.hc ((gi data_2 a), (gi data_2 j_5)) hS) ?_
        rintro _ h_8 ⟨rfl, hS, hk⟩
        replace hK := hK.trans hk
        replace hF_cf_cmp := hF_cf_cmp.kp hk
        refine HA.val (k := 14) (v := .bool (decide ((cf_cmp (gi data_2 a) (gi data_2 j_5)) < 0))) rfl rfl (by kernel_rfl) (by kernel_rfl) (want_by rfl rfl c_3) rfl (fun _ c558 => q_lss rfl rfl) ?_
        refine HA.val (k := 15) (v := .bool (decide ((cf_cmp (gi data_2 a) (gi data_2 j_5)) < 0))) rfl rfl (by kernel_rfl) (by kernel_rfl) (want_none) rfl (fun _ c558 => q_pickK true rfl c_3 rfl) ?_
        refine HA.nil ⟨(hS.own 0 rfl), (Go.Wk.at_nil _ _)⟩ (by kernel_rfl) (thenQ_normal (?_))
        refine HW.cond (decide ((cf_cmp (gi data_2 a) (gi data_2 j_5)) < 0)) rfl (fun c_4 => ?_) (fun c_4 => ?_)
        · replace hM := hM.1 (of_decide_eq_true c_4)
          refine HW.skip (thenQ_normal (?_))
          refine HW.block ?_
          refine HW.region ?_
          refine HO.val (v := .int .i64 j_5) (want_none) rfl (q_move rfl) ?_
          obtain ⟨ho_11, hM⟩ := hM
          refine HO.val (v := .int .i64 (j_5 - 1)) (want_none) rfl (q_subN _ rfl rfl rfl ho_11.1 ho_11.2) ?_
          refine HO.val (v := .int .i64 (j_5 - 1)) (want_none) rfl (q_assign rfl) ?_
          refine HO.nil (blockQ_normal (thenQ_normal (?_)))
          rw [hKe_3] at hM
          exact ⟨j_5 - 1, ⟨F_4, rfl, rfl, rfl, rfl, rfl, rfl, hK, hS, hF_cf_cmp, hM.1⟩, hM.2⟩
        · replace hM := hM.2 (of_decide_eq_false c_4)
          refine HW.exit (thenQ_exit (thenQ_exit (blockQ_exit (thenQ_normal (?_)))))
          exact ⟨F_4, j_5, rfl, rfl, rfl, rfl, rfl, rfl, hK, hS, hF_cf_cmp, hM⟩
      · replace hM := hM.2 (of_decide_eq_false c_3)
        refine HA.past (k := 4) rfl rfl (by kernel_rfl) (by kernel_rfl) (past_by rfl rfl c_3) rfl ?_
        refine HA.past (k := 5) rfl rfl (by kernel_rfl) (by kernel_rfl) (past_by rfl rfl c_3) rfl ?_
        refine HA.past (k := 6) rfl rfl (by kernel_rfl) (by kernel_rfl) (past_by rfl rfl c_3) rfl ?_
        refine HA.past (k := 7) rfl rfl (by kernel_rfl) (by kernel_rfl) (past_by rfl rfl c_3) rfl ?_
        refine HA.past (k := 8) rfl rfl (by kernel_rfl) (by kernel_rfl) (past_by rfl rfl c_3) rfl ?_
        refine HA.past (k := 9) rfl rfl (by kernel_rfl) (by kernel_rfl) (past_by rfl rfl c_3) rfl ?_
        refine HA.past (k := 10) rfl rfl (by kernel_rfl) (by kernel_rfl) (past_by rfl rfl c_3) rfl ?_
        refine HA.past (k := 11) rfl rfl (by kernel_rfl) (by kernel_rfl) (past_by rfl rfl c_3) rfl ?_
        refine HA.past (k := 12) rfl rfl (by kernel_rfl) (by kernel_rfl) (past_by rfl rfl c_3) rfl ?_
        refine HA.one (k := 13) ⟨(hS.own 0 rfl), (Go.Wk.at_nil _ _)⟩ (by kernel_rfl) ?_
        refine HS.past rfl (past_by rfl rfl c_3) rfl ?_
        refine HA.past (k := 14) rfl rfl (by kernel_rfl) (by kernel_rfl) (past_by rfl rfl c_3) rfl ?_
        refine HA.val (k := 15) (v := .bool false) rfl rfl (by kernel_rfl) (by kernel_rfl) (want_none) rfl (fun _ c558 => q_pickK false rfl c_3 rfl) ?_
        refine HA.nil ⟨(hS.own 0 rfl), (Go.Wk.at_nil _ _)⟩ (by kernel_rfl) (thenQ_normal (?_))
        refine HW.condF rfl ?_
        refine HW.exit (thenQ_exit (thenQ_exit (blockQ_exit (thenQ_normal (?_)))))
        exact ⟨F_4, j_5, rfl, rfl, rfl, rfl, rfl, rfl, hK, hS, hF_cf_cmp, hM⟩
    · rintro f_5 h_9 ⟨F_5, j_3, e0, e1, e4, e10, e11, e12, hK, hS, hF_cf_cmp, hM⟩
      unfold slices_partitionEqualCmpFunc_string_j4 at hM
      refine HW.fr [(0, vdata), (1, .int .i64 a), (4, .func (.func g_cmp) fs_cmp cs_cmp), (10, .int .i64 0), (11, .int .i64 i_2), (12, .int .i64 j_3)] ⟨e0, e1, e4, e10, e11, e12, trivial⟩ ?_
      refine HW.seq ?_
      refine HW.seq ?_
      refine HW.region ?_
      refine HO.val (v := .int .i64 i_2) (want_none) rfl (q_move rfl) ?_
      refine HO.val (v := .int .i64 j_3) (want_none) rfl (q_move rfl) ?_
      refine HO.val (v := .bool (decide (j_3 < i_2))) (want_none) rfl (q_gtr rfl rfl) ?_
      refine HO.nil (thenQ_normal (?_))
      refine HW.cond (decide (j_3 < i_2)) rfl (fun c_5 => ?_) (fun c_5 => ?_)
      · replace hM := hM.1 (of_decide_eq_true c_5)
        refine HW.exit (thenQ_exit (blockQ_pass rfl (thenQ_exit (blockQ_exit (thenQ_normal (?_))))))
        refine HW.seq ?_
        refine HW.region ?_
        refine HO.val (v := .int .i64 i_2) (want_none) rfl (q_move rfl) ?_
        refine HO.val (v := .int .i64 i_2) (want_none) rfl (q_assign rfl) ?_
        refine HO.nil (thenQ_normal (?_))
        refine HW.ret (?_)
        refine ⟨.inr rfl, .int .i64 i_2, res1 rfl (rt rfl), ?_⟩
        exact ⟨F_5, i_2, data_2, rfl, hK, hS, hF_cf_cmp, hM⟩
      · replace hM := hM.2 (of_decide_eq_false c_5)
        refine HW.skip (thenQ_normal (?_))
        refine HW.seq ?_
        refine HW.regionA 16 mixed (fun h => True) [(13, fun h => (OwnIs h 0 9 1 encT vdata data_2))] (by kernel_rfl) ?_
        refine HA.val (k := 0) (v := vdata) rfl rfl (by kernel_rfl) (by kernel_rfl) (want_none) rfl (fun _ _ => q_move rfl) ?_
        refine HA.val (k := 1) (v := .int .i64 i_2) rfl rfl (by kernel_rfl) (by kernel_rfl) (want_none) rfl (fun _ _ => q_move rfl) ?_
        refine HA.val (k := 2) (v := vdata) rfl rfl (by kernel_rfl) (by kernel_rfl) (want_none) rfl (fun _ _ => q_move rfl) ?_
        refine HA.val (k := 3) (v := .int .i64 j_3) rfl rfl (by kernel_rfl) (by kernel_rfl) (want_none) rfl (fun _ _ => q_move rfl) ?_
        refine HA.val (k := 4) (v := vdata) rfl rfl (by kernel_rfl) (by kernel_rfl) (want_none) rfl (fun _ _ => q_move rfl) ?_
        refine HA.val (k := 5) (v := .int .i64 j_3) rfl rfl (by kernel_rfl) (by kernel_rfl) (want_none) rfl (fun _ _ => q_move rfl) ?_
        obtain ⟨ho_12, hM⟩ := hM
        refine Go.Wk.HA.valN (k := 6) (v := elemPtr 1 vdata (j_3).toNat) 0 13 (fun h => (OwnIs h 0 9 1 encT vdata data_2)) rfl rfl (by kernel_rfl) (by kernel_rfl) (want_none) rfl rfl (by kernel_rfl) (fun _ _ c457 => q_idx ts_36 c457.slice rfl rfl ho_12) ?_
        refine Go.Wk.HA.valN (k := 7) (v := .string (bs (gi data_2 j_3))) 0 13 (fun h => (OwnIs h 0 9 1 encT vdata data_2)) rfl rfl (by kernel_rfl) (by kernel_rfl) (want_none) rfl rfl (by kernel_rfl) (fun _ _ c457 => q_ldElem to_9 c457.slice rfl ho_12 rfl) ?_
        refine HA.val (k := 8) (v := vdata) rfl rfl (by kernel_rfl) (by kernel_rfl) (want_none) rfl (fun _ _ => q_move rfl) ?_
        refine HA.val (k := 9) (v := .int .i64 i_2) rfl rfl (by kernel_rfl) (by kernel_rfl) (want_none) rfl (fun _ _ => q_move rfl) ?_
        obtain ⟨ho_13, hM⟩ := hM
        refine Go.Wk.HA.valN (k := 10) (v := elemPtr 1 vdata (i_2).toNat) 0 13 (fun h => (OwnIs h 0 9 1 encT vdata data_2)) rfl rfl (by kernel_rfl) (by kernel_rfl) (want_none) rfl rfl (by kernel_rfl) (fun _ _ c457 => q_idx ts_36 c457.slice rfl rfl ho_13) ?_
        refine Go.Wk.HA.valN (k := 11) (v := .string (bs (gi data_2 i_2))) 0 13 (fun h => (OwnIs h 0 9 1 encT vdata data_2)) rfl rfl (by kernel_rfl) (by kernel_rfl) (want_none) rfl rfl (by kernel_rfl) (fun _ _ c457 => q_ldElem to_9 c457.slice rfl ho_13 rfl) ?_
        refine Go.Wk.HA.valN (k := 12) (v := elemPtr 1 vdata (i_2).toNat) 0 13 (fun h => (OwnIs h 0 9 1 encT vdata data_2)) rfl rfl (by kernel_rfl) (by kernel_rfl) (want_none) rfl rfl (by kernel_rfl) (fun _ _ c457 => q_idx ts_36 c457.slice rfl rfl ho_13) ?_
        refine HA.one (k := 13) ⟨trivial, (at_now (hS.own 0 rfl) (Go.Wk.at_nil _ _))⟩ (by kernel_rfl) ?_
        refine HS.sto rfl (want_none) rfl (st_storeField (a := (gi data_2 j_3)) (n := (i_2).toNat) (j := 0) hS (i := 0) rfl to_9 (elem_field _ _ _) (by omega) (by decide) rfl (by rw [← gi_lt ho_13.1 ho_13.2]; rfl) rfl rfl) ?_
        rintro h_10 ⟨hS, hk⟩
        replace hS : St F_5 (Ow.own 9 1 encT vdata (data_2.set (i_2).toNat (gi data_2 j_3)) :: fr) h_10 := hS
        replace hK := hK.trans hk
        replace hF_cf_cmp := hF_cf_cmp.kp hk
        refine Go.Wk.HA.re (fun h => True) [(15, fun h => (OwnIs h 0 9 1 encT vdata (data_2.set (i_2).toNat (gi data_2 j_3))))] (fun L_ h_ hL_ _ hs_ => ⟨trivial, (at_gone hL_ (by kernel_rfl) (Go.Wk.at_nil _ _))⟩) ?_
        obtain ⟨ho_14, hM⟩ := hM
        refine Go.Wk.HA.valN (k := 14) (v := elemPtr 1 vdata (j_3).toNat) 0 15 (fun h => (OwnIs h 0 9 1 encT vdata (data_2.set (i_2).toNat (gi data_2 j_3)))) rfl rfl (by kernel_rfl) (by kernel_rfl) (want_none) rfl rfl (by kernel_rfl) (fun _ _ c457 => q_idx ts_36 c457.slice rfl rfl ho_14) ?_
        refine HA.one (k := 15) ⟨trivial, (at_now (hS.own 0 rfl) (Go.Wk.at_nil _ _))⟩ (by kernel_rfl) ?_
        refine HS.sto rfl (want_none) rfl (st_storeField (a := (gi data_2 i_2)) (n := (j_3).toNat) (j := 0) hS (i := 0) rfl to_9 (elem_field _ _ _) (by omega) (by decide) rfl (by rw [← gi_lt ho_14.1 ho_14.2]; rfl) rfl rfl) ?_
        rintro h_11 ⟨hS, hk⟩
        replace hS : St F_5 (Ow.own 9 1 encT vdata ((data_2.set (i_2).toNat (gi data_2 j_3)).set (j_3).toNat (gi data_2 i_2)) :: fr) h_11 := hS
        replace hK := hK.trans hk
        replace hF_cf_cmp := hF_cf_cmp.kp hk
        refine HA.nil ⟨trivial, (at_done (by kernel_rfl) (Go.Wk.at_nil _ _))⟩ (by kernel_rfl) (thenQ_normal (?_))
        refine HW.seq ?_
        refine HW.region ?_
        refine HO.val (v := .int .i64 i_2) (want_none) rfl (q_move rfl) ?_
        obtain ⟨ho_15, hM⟩ := hM
        refine HO.val (v := .int .i64 (i_2 + 1)) (want_none) rfl (q_addN _ rfl rfl rfl ho_15.1 ho_15.2) ?_
        refine HO.val (v := .int .i64 (i_2 + 1)) (want_none) rfl (q_assign rfl) ?_
        refine HO.nil (thenQ_normal (?_))
        refine HW.region ?_
        refine HO.val (v := .int .i64 j_3) (want_none) rfl (q_move rfl) ?_
        obtain ⟨ho_16, hM⟩ := hM
        refine HO.val (v := .int .i64 (j_3 - 1)) (want_none) rfl (q_subN _ rfl rfl rfl ho_16.1 ho_16.2) ?_
        refine HO.val (v := .int .i64 (j_3 - 1)) (want_none) rfl (q_assign rfl) ?_
        refine HO.nil (blockQ_normal (thenQ_normal (?_)))
        rw [hKe_1] at hM
        exact ⟨((data_2.set (i_2).toNat (gi data_2 j_3)).set (j_3).toNat (gi data_2 i_2), i_2 + 1, j_3 - 1), ⟨F_5, rfl, rfl, rfl, rfl, rfl, rfl, hK, hS, hF_cf_cmp, hM.1⟩, hM.2⟩
end Go.Wk
