/- Walks of plans: what three laws share. -/
import Derived.Test.YtjliljlmgepmpaaPlnA1
set_option linter.unusedSimpArgs false
set_option linter.unusedVariables false
set_option linter.unusedSectionVars false
namespace Go.Wk
open Go.HL
open Go.Proofs hiding encI
variable [DM]
theorem en_9 (args : Array Value) (w : World) : (callFunc 9 args).run Try.prog w = .ok (.enter 9 args) w := by kernel_rfl
theorem en_13 (args : Array Value) (w : World) : (callFunc 13 args).run Try.prog w = .ok (.enter 13 args) w := by kernel_rfl
theorem en_68 (args : Array Value) (w : World) : (callFunc 68 args).run Try.prog w = .ok (.enter 68 args) w := by kernel_rfl
theorem en_43 (args : Array Value) (w : World) : (callFunc 43 args).run Try.prog w = .ok (.enter 43 args) w := by kernel_rfl
theorem en_26 (args : Array Value) (w : World) : (callFunc 26 args).run Try.prog w = .ok (.enter 26 args) w := by kernel_rfl
theorem to_90 : TOne Try.prog 90 := ⟨Try.isAgg90, Try.sizeOf90⟩
theorem en_93 (args : Array Value) (w : World) : (callFunc 93 args).run Try.prog w = .ok (.enter 93 args) w := by kernel_rfl
theorem en_92 (args : Array Value) (w : World) : (callFunc 92 args).run Try.prog w = .ok (.enter 92 args) w := by kernel_rfl
theorem tz_90 : TZero Try.prog 90 (.map none) := Try.zeroValue90
theorem en_73 (args : Array Value) (w : World) : (callFunc 73 args).run Try.prog w = .ok (.enter 73 args) w := by kernel_rfl
theorem en_71 (args : Array Value) (w : World) : (callFunc 71 args).run Try.prog w = .ok (.enter 71 args) w := by kernel_rfl
theorem en_70 (args : Array Value) (w : World) : (callFunc 70 args).run Try.prog w = .ok (.enter 70 args) w := by kernel_rfl
theorem en_74 (args : Array Value) (w : World) : (callFunc 74 args).run Try.prog w = .ok (.enter 74 args) w := by kernel_rfl
theorem en_75 (args : Array Value) (w : World) : (callFunc 75 args).run Try.prog w = .ok (.enter 75 args) w := by kernel_rfl
set_option maxRecDepth 100000 in
theorem teq_67 (d : Nat) (a b : T_api_Branch) (w : World) : (Op.equalIn (d + 2) 67 (.agg #[.int .i64 a.1, .int .i64 a.2]) (.agg #[.int .i64 b.1, .int .i64 b.2])).run Try.prog w = .ok (decide (a = b)) w := by
  refine (eqs w (d + 1) 67 _ _ Try.underlying67 (by kernel_rfl) (eqf_cons w (a := .int .i64 a.1) (b := .int .i64 b.1) (by decide) (by kernel_rfl) (by kernel_rfl) (run_equalIn_int w _ _ _ _ _ _ Try.underlying3) (eqf_cons w (a := .int .i64 a.2) (b := .int .i64 b.2) (by decide) (by kernel_rfl) (by kernel_rfl) (run_equalIn_int w _ _ _ _ _ _ Try.underlying3) (eqf_nil w)))).trans ?_
  congr 1; rw [Bool.eq_iff_iff]; simp [Prod.ext_iff]
theorem en_76 (args : Array Value) (w : World) : (callFunc 76 args).run Try.prog w = .ok (.enter 76 args) w := by kernel_rfl
theorem en_44 (args : Array Value) (w : World) : (callFunc 44 args).run Try.prog w = .ok (.enter 44 args) w := by kernel_rfl
theorem en_45 (args : Array Value) (w : World) : (callFunc 45 args).run Try.prog w = .ok (.enter 45 args) w := by kernel_rfl
theorem en_47 (args : Array Value) (w : World) : (callFunc 47 args).run Try.prog w = .ok (.enter 47 args) w := by kernel_rfl
theorem en_46 (args : Array Value) (w : World) : (callFunc 46 args).run Try.prog w = .ok (.enter 46 args) w := by kernel_rfl
theorem en_48 (args : Array Value) (w : World) : (callFunc 48 args).run Try.prog w = .ok (.enter 48 args) w := by kernel_rfl
theorem en_49 (args : Array Value) (w : World) : (callFunc 49 args).run Try.prog w = .ok (.enter 49 args) w := by kernel_rfl
theorem en_50 (args : Array Value) (w : World) : (callFunc 50 args).run Try.prog w = .ok (.enter 50 args) w := by kernel_rfl
theorem en_77 (args : Array Value) (w : World) : (callFunc 77 args).run Try.prog w = .ok (.enter 77 args) w := by kernel_rfl
theorem en_56 (args : Array Value) (w : World) : (callFunc 56 args).run Try.prog w = .ok (.enter 56 args) w := by kernel_rfl
theorem en_57 (args : Array Value) (w : World) : (callFunc 57 args).run Try.prog w = .ok (.enter 57 args) w := by kernel_rfl
theorem en_52 (args : Array Value) (w : World) : (callFunc 52 args).run Try.prog w = .ok (.enter 52 args) w := by kernel_rfl
theorem en_53 (args : Array Value) (w : World) : (callFunc 53 args).run Try.prog w = .ok (.enter 53 args) w := by kernel_rfl
theorem en_55 (args : Array Value) (w : World) : (callFunc 55 args).run Try.prog w = .ok (.enter 55 args) w := by kernel_rfl
theorem en_54 (args : Array Value) (w : World) : (callFunc 54 args).run Try.prog w = .ok (.enter 54 args) w := by kernel_rfl
theorem en_28 (args : Array Value) (w : World) : (callFunc 28 args).run Try.prog w = .ok (.enter 28 args) w := by kernel_rfl
theorem en_27 (args : Array Value) (w : World) : (callFunc 27 args).run Try.prog w = .ok (.enter 27 args) w := by kernel_rfl
theorem en_20 (args : Array Value) (w : World) : (callFunc 20 args).run Try.prog w = .ok (.enter 20 args) w := by kernel_rfl
theorem fa_39_1 : FieldAt Try.prog 39 1 1 := fun a w => by kernel_rfl
theorem fa_39_0 : FieldAt Try.prog 39 0 0 := fun a w => by kernel_rfl
theorem fa_39_2 : FieldAt Try.prog 39 2 2 := fun a w => by kernel_rfl
theorem fa_39_3 : FieldAt Try.prog 39 3 3 := fun a w => by kernel_rfl
theorem to_5 : TOne Try.prog 5 := ⟨Try.isAgg5, Try.sizeOf5⟩
def ref32_less_W (a : T_api_Branch) (b : T_api_Branch) (Q : Bool → Prop) : Prop :=
 (a.1 < b.1 → Q true) ∧ (¬ (a.1 < b.1) → (a.1 = b.1 → Q (decide (a.2 < b.2))) ∧ (¬ (a.1 = b.1) → Q false))
set_option maxHeartbeats 40000000 in
set_option maxRecDepth 100000 in
theorem ref32_less_walk {F : Fz} {fr : List Ow} {h0 : Heap} (a : T_api_Branch) (b : T_api_Branch) (hS : St F (fr) h0)  {Q : Bool → Prop} (hM : ref32_less_W a b Q) :
  HC Try.prog 68 #[.agg #[.int .i64 a.1, .int .i64 a.2], .agg #[.int .i64 b.1, .int .i64 b.2]] h0 fun u h' => ∃ (F' : Fz) (r_1 : Bool), u = .bool r_1 ∧ Kp F h0 F' h' ∧ St F' (fr) h' ∧ Q r_1 := by
 unfold ref32_less_W at hM
 have hK := Kp.refl F h0
 refine HC.of_HW (n := 24) Try.func68 rfl rfl (Nat.le_of_ble_eq_true rfl) ?_
 refine HW.seq ?_
 refine HW.region ?_
 refine HO.eff (want_none) rfl (st_box (c := #[.int .i64 a.1, .int .i64 a.2]) (k' := 2) hS rfl rfl) ?_
 rintro _ h_1 ⟨b_1, rfl, hS, hk⟩
 replace hK := hK.trans hk
 refine HO.eff (want_none) rfl (st_box (c := #[.int .i64 b.1, .int .i64 b.2]) (k' := 2) hS rfl rfl) ?_
 rintro _ h_2 ⟨b_2, rfl, hS, hk⟩
 replace hK := hK.trans hk
 refine oA (.bool false) rfl rfl ?_
 refine HO.nil (thenQ_normal (?_))
 refine HW.seq ?_
 refine HW.region ?_
 refine oV (.pointer (some ⟨b_1, 0, none⟩)) (q_fieldAddr fa_67_0 rfl rfl) rfl ?_
 refine oV (.int .i64 a.1) (q_load to_3 rfl (Blk.cell (hS.box 1 rfl) rfl)) rfl ?_
 refine oV (.pointer (some ⟨b_2, 0, none⟩)) (q_fieldAddr fa_67_0 rfl rfl) rfl ?_
 refine oV (.int .i64 b.1) (q_load to_3 rfl (Blk.cell (hS.box 0 rfl) rfl)) rfl ?_
 refine oV (.bool (decide (a.1 < b.1))) (q_lss rfl rfl) rfl ?_
 refine oM (.bool (decide (a.1 < b.1))) rfl rfl ?_
 rcases Bool.eq_false_or_eq_true (decide (a.1 < b.1)) with c_1 | c_1
 ·
  replace hM := hM.1 (of_decide_eq_true c_1)
  refine HO.past (past_by rfl rfl c_1) rfl ?_
  refine HO.past (past_by rfl rfl c_1) rfl ?_
  refine HO.past (past_by rfl rfl c_1) rfl ?_
  refine HO.past (past_by rfl rfl c_1) rfl ?_
  refine HO.past (past_by rfl rfl c_1) rfl ?_
  refine HO.past (past_by rfl rfl c_1) rfl ?_
  refine HO.past (past_undef rfl rfl) rfl ?_
  refine HO.past (past_undef rfl rfl) rfl ?_
  refine HO.past (past_undef rfl rfl) rfl ?_
  refine HO.past (past_undef rfl rfl) rfl ?_
  refine HO.past (past_undef rfl rfl) rfl ?_
  refine HO.past (past_by rfl rfl c_1) rfl ?_
  refine oV (.bool true) (q_pickK true rfl c_1 rfl) rfl ?_
  refine oA (.bool true) rfl rfl ?_
  refine HO.nil (thenQ_normal (?_))
  refine HW.ret (?_)
  refine ⟨.inr rfl, .bool true, res1 rfl (rt rfl), ?_⟩
  replace hS : St F (fr) h_2 := hS.perm2 [] 2 rfl rfl
  exact ⟨F, true, rfl, hK, hS, hM⟩
 ·
  replace hM := hM.2 (of_decide_eq_false c_1)
  refine HO.val (v := .pointer (some ⟨b_1, 0, none⟩)) (want_by rfl rfl c_1) rfl (q_fieldAddr fa_67_0 rfl rfl) ?_
  refine HO.val (v := .int .i64 a.1) (want_by rfl rfl c_1) rfl (q_load to_3 rfl (Blk.cell (hS.box 1 rfl) rfl)) ?_
  refine HO.val (v := .pointer (some ⟨b_2, 0, none⟩)) (want_by rfl rfl c_1) rfl (q_fieldAddr fa_67_0 rfl rfl) ?_
  refine HO.val (v := .int .i64 b.1) (want_by rfl rfl c_1) rfl (q_load to_3 rfl (Blk.cell (hS.box 0 rfl) rfl)) ?_
  refine HO.val (v := .bool (decide (a.1 = b.1))) (want_by rfl rfl c_1) rfl (q_eql rfl rfl) ?_
  refine HO.val (v := .bool (decide (a.1 = b.1))) (want_by rfl rfl c_1) rfl (q_move rfl) ?_
  rcases Bool.eq_false_or_eq_true (decide (a.1 = b.1)) with c_2 | c_2
  ·
   replace hM := hM.1 (of_decide_eq_true c_2)
   refine HO.val (v := .pointer (some ⟨b_1, 1, none⟩)) (want_by rfl rfl c_2) rfl (q_fieldAddr fa_67_1 rfl rfl) ?_
   refine HO.val (v := .int .i64 a.2) (want_by rfl rfl c_2) rfl (q_load to_3 rfl (Blk.cell (hS.box 1 rfl) rfl)) ?_
   refine HO.val (v := .pointer (some ⟨b_2, 1, none⟩)) (want_by rfl rfl c_2) rfl (q_fieldAddr fa_67_1 rfl rfl) ?_
   refine HO.val (v := .int .i64 b.2) (want_by rfl rfl c_2) rfl (q_load to_3 rfl (Blk.cell (hS.box 0 rfl) rfl)) ?_
   refine HO.val (v := .bool (decide (a.2 < b.2))) (want_by rfl rfl c_2) rfl (q_lss rfl rfl) ?_
   refine HO.val (v := .bool (decide (a.2 < b.2))) (want_by rfl rfl c_1) rfl (q_pickK true rfl c_2 rfl) ?_
   refine oV (.bool (decide (a.2 < b.2))) (q_pickK false rfl c_1 rfl) rfl ?_
   refine oA (.bool (decide (a.2 < b.2))) rfl rfl ?_
   refine HO.nil (thenQ_normal (?_))
   refine HW.ret (?_)
   refine ⟨.inr rfl, .bool (decide (a.2 < b.2)), res1 rfl (rt rfl), ?_⟩
   replace hS : St F (fr) h_2 := hS.perm2 [] 2 rfl rfl
   exact ⟨F, decide (a.2 < b.2), rfl, hK, hS, hM⟩
  ·
   replace hM := hM.2 (of_decide_eq_false c_2)
   refine HO.past (past_by rfl rfl c_2) rfl ?_
   refine HO.past (past_by rfl rfl c_2) rfl ?_
   refine HO.past (past_by rfl rfl c_2) rfl ?_
   refine HO.past (past_by rfl rfl c_2) rfl ?_
   refine HO.past (past_by rfl rfl c_2) rfl ?_
   refine HO.val (v := .bool false) (want_by rfl rfl c_1) rfl (q_pickK false rfl c_2 rfl) ?_
   refine oV (.bool false) (q_pickK false rfl c_1 rfl) rfl ?_
   refine oA (.bool false) rfl rfl ?_
   refine HO.nil (thenQ_normal (?_))
   refine HW.ret (?_)
   refine ⟨.inr rfl, .bool false, res1 rfl (rt rfl), ?_⟩
   replace hS : St F (fr) h_2 := hS.perm2 [] 2 rfl rfl
   exact ⟨F, false, rfl, hK, hS, hM⟩

def ref32_Sorted_j1 (l : List T_api_Branch) (out_1 : List T_api_Branch) (i_1 : Int) (K_1 : (List T_api_Branch) → Int → Prop) (n_1 : Int) : Prop :=
 ((0 : Int) ≤ n_1 ∧ n_1 ≤ (out_1.length : Int)) ∧ (((0 : Int) ≤ i_1 ∧ i_1 < (l.length : Int)) ∧ (((0 : Int) ≤ 0 ∧ 0 ≤ n_1 ∧ n_1 ≤ (out_1.length : Int)) ∧ (((([] : List T_api_Branch).length + (cut out_1 0 n_1).length) * 16 ≤ 140737488355328) ∧ ((((([] : List T_api_Branch) ++ (cut out_1 0 n_1)).length + ([(gi l i_1)] : List T_api_Branch).length) * 16 ≤ 140737488355328) ∧ (((0 : Int) ≤ n_1 ∧ n_1 ≤ (out_1.length : Int) ∧ (out_1.length : Int) ≤ (out_1.length : Int)) ∧ (((((([] : List T_api_Branch) ++ (cut out_1 0 n_1)) ++ ([(gi l i_1)] : List T_api_Branch)).length + (cut out_1 n_1 (out_1.length : Int)).length) * 16 ≤ 140737488355328) ∧ ((I64 (i_1 + 1)) ∧ (K_1 (((([] : List T_api_Branch) ++ (cut out_1 0 n_1)) ++ ([(gi l i_1)] : List T_api_Branch)) ++ (cut out_1 n_1 (out_1.length : Int))) (i_1 + 1)))))))))
def ref32_Sorted_l2 (l : List T_api_Branch) (out_1 : List T_api_Branch) (i_1 : Int) (K_1 : (List T_api_Branch) → Int → Prop) (K_2 : Int → Prop) (n_2 : Int) : Prop :=
 (n_2 < (out_1.length : Int) → ((0 : Int) ≤ n_2 ∧ n_2 < (out_1.length : Int)) ∧ (((0 : Int) ≤ i_1 ∧ i_1 < (l.length : Int)) ∧ (ref32_less_W (gi out_1 n_2) (gi l i_1) (fun r_2 => (r_2 = true → (I64 (n_2 + 1)) ∧ (K_2 (n_2 + 1))) ∧ (r_2 = false → ref32_Sorted_j1 l out_1 i_1 K_1 n_2))))) ∧ (¬ (n_2 < (out_1.length : Int)) → ref32_Sorted_j1 l out_1 i_1 K_1 n_2)
def ref32_Sorted_l1 (l : List T_api_Branch) (Q : (List T_api_Branch) → Prop) (K_1 : (List T_api_Branch) → Int → Prop) (out_1 : List T_api_Branch) (i_1 : Int) : Prop :=
 (i_1 < (l.length : Int) → loopW (fun (K_2 : Int → Prop) (s : Int) => ref32_Sorted_l2 l out_1 i_1 K_1 K_2 s) 0) ∧ (¬ (i_1 < (l.length : Int)) → Q out_1)
def ref32_Sorted_W (l : List T_api_Branch) (Q : (List T_api_Branch) → Prop) : Prop :=
 loopW (fun (K_1 : (List T_api_Branch × Int) → Prop) (s : List T_api_Branch × Int) => ref32_Sorted_l1 l Q (fun out_1 i_1 => K_1 (out_1, i_1)) s.1 s.2) ([], 0)
set_option maxHeartbeats 40000000 in
set_option maxRecDepth 100000 in
theorem ref32_Sorted_walk {F : Fz} {fr : List Ow} {h0 : Heap} (l : List T_api_Branch) (vl : Value) (hS : St F (fr) h0) (hL_l : SliceF F h0 2 e_api_Branch vl l) {Q : (List T_api_Branch) → Prop} (hM : ref32_Sorted_W l Q) :
  HC Try.prog 43 #[vl] h0 fun u h' => ∃ (F' : Fz) (r_1 : List T_api_Branch) (vr_1 : Value), u = vr_1 ∧ Kp F h0 F' h' ∧ St F' (Ow.own 67 2 e_api_Branch vr_1 r_1 :: fr) h' ∧ (SliceF F' h' 2 e_api_Branch vl l) ∧ Q r_1 := by
 unfold ref32_Sorted_W at hM
 have hK := Kp.refl F h0
 refine HC.of_HW (n := 46) Try.func43 rfl rfl (Nat.le_of_ble_eq_true rfl) ?_
 refine HW.seq ?_
 refine HW.region ?_
 refine oA (.slice none 0 0) rfl rfl ?_
 refine HO.nil (thenQ_normal (?_))
 refine HW.seq ?_
 refine HW.region ?_
 refine HO.eff (want_none) rfl (st_litEmpty (α := T_api_Branch) e_api_Branch hS tl_44) ?_
 rintro _ h_1 ⟨b_1, rfl, hS, hk⟩
 replace hK := hK.trans hk
 replace hL_l := hL_l.kp hk
 refine oA (.slice (some ⟨b_1, 0, none⟩) 0 0) rfl rfl ?_
 refine HO.nil (thenQ_normal (?_))
 refine HW.seq ?_
 refine HW.seq ?_
 refine HW.region ?_
 refine oA (.int .i64 0) rfl rfl ?_
 refine HO.nil (thenQ_normal (?_))
 refine HW.block ?_
 obtain ⟨I_1, m_1, hI_1, hR_1⟩ := hM
 refine HW.loop (S := List T_api_Branch × Int) (fun s f h => match s with | (out_1, i_1) => ∃ (F' : Fz) (vout_1 : Value), f 0 = vl ∧ f 2 = .slice none 0 0 ∧ f 3 = vout_1 ∧ f 4 = .int .i64 i_1 ∧ Kp F h0 F' h ∧ St F' (Ow.own 67 2 e_api_Branch vout_1 out_1 :: fr) h ∧ (SliceF F' h 2 e_api_Branch vl l) ∧ I_1 (out_1, i_1)) m_1 ([], 0) ⟨F, .slice (some ⟨b_1, 0, none⟩) 0 0, rfl, rfl, rfl, rfl, hK, hS, hL_l, hI_1⟩ ?_
 rintro ⟨out_1, i_1⟩ f_1 h_2 ⟨F_1, vout_1, e0, e2, e3, e4, hK, hS, hL_l, hI0⟩
 obtain ⟨K_1, hKe_1⟩ : ∃ K : (List T_api_Branch) → Int → Prop, K = fun out_1' i_1' => I_1 (out_1', i_1') ∧ m_1 (out_1', i_1') < m_1 (out_1, i_1) := ⟨_, rfl⟩
 have hM : ref32_Sorted_l1 l Q K_1 out_1 i_1 := by rw [hKe_1]; exact hR_1 (out_1, i_1) hI0
 unfold ref32_Sorted_l1 at hM
 refine HW.fr [(0, vl), (2, .slice none 0 0), (3, vout_1), (4, .int .i64 i_1)] ⟨e0, e2, e3, e4, trivial⟩ ?_
 refine HW.seq ?_
 refine HW.seq ?_
 refine HW.region ?_
 refine oM (.int .i64 i_1) rfl rfl ?_
 refine oM (vl) rfl rfl ?_
 refine oV (.int .i64 (l.length : Int)) (q_len ts_44 (shp hL_l.is) rfl rfl) rfl ?_
 refine oV (.bool (decide (i_1 < (l.length : Int)))) (q_lss rfl rfl) rfl ?_
 refine HO.nil (thenQ_normal (?_))
 refine HW.cond (decide (i_1 < (l.length : Int))) rfl (fun c_1 => ?_) (fun c_1 => ?_)
 ·
  replace hM := hM.1 (of_decide_eq_true c_1)
  refine HW.skip (thenQ_normal (?_))
  refine HW.seq ?_
  refine HW.block ?_
  refine HW.seq ?_
  refine HW.region ?_
  refine oA (.int .i64 0) rfl rfl ?_
  refine HO.nil (thenQ_normal (?_))
  refine HW.seq_mid (fun f h => ∃ (F' : Fz) (n_1 : Int), f 0 = vl ∧ f 2 = .slice none 0 0 ∧ f 3 = vout_1 ∧ f 4 = .int .i64 i_1 ∧ f 5 = .int .i64 n_1 ∧ Kp F h0 F' h ∧ St F' (Ow.own 67 2 e_api_Branch vout_1 out_1 :: fr) h ∧ (SliceF F' h 2 e_api_Branch vl l) ∧ ref32_Sorted_j1 l out_1 i_1 K_1 n_1) ?_ ?_
  ·
   refine HW.block ?_
   obtain ⟨I_2, m_2, hI_2, hR_2⟩ := hM
   refine HW.loop (S := Int) (fun n_2 f h => ∃ (F' : Fz), f 0 = vl ∧ f 2 = .slice none 0 0 ∧ f 3 = vout_1 ∧ f 4 = .int .i64 i_1 ∧ f 5 = .int .i64 n_2 ∧ Kp F h0 F' h ∧ St F' (Ow.own 67 2 e_api_Branch vout_1 out_1 :: fr) h ∧ (SliceF F' h 2 e_api_Branch vl l) ∧ I_2 n_2) m_2 0 ⟨F_1, rfl, rfl, rfl, rfl, rfl, hK, hS, hL_l, hI_2⟩ ?_
   rintro n_2 f_2 h_3 ⟨F_2, e0, e2, e3, e4, e5, hK, hS, hL_l, hI0⟩
   obtain ⟨K_2, hKe_2⟩ : ∃ K : Int → Prop, K = fun n_2' => I_2 n_2' ∧ m_2 n_2' < m_2 n_2 := ⟨_, rfl⟩
   have hM : ref32_Sorted_l2 l out_1 i_1 K_1 K_2 n_2 := by rw [hKe_2]; exact hR_2 n_2 hI0
   unfold ref32_Sorted_l2 at hM
   refine HW.fr [(0, vl), (2, .slice none 0 0), (3, vout_1), (4, .int .i64 i_1), (5, .int .i64 n_2)] ⟨e0, e2, e3, e4, e5, trivial⟩ ?_
   refine HW.seq ?_
   refine HW.seq ?_
   refine HW.regionA 15 mixed (fun h => (SliceIs h 2 e_api_Branch vl l) ∧ (OwnIs h 0 67 2 e_api_Branch vout_1 out_1)) [] (by kernel_rfl) ?_
   refine HA.val (k := 0) (v := .int .i64 n_2) rfl rfl (by kernel_rfl) (by kernel_rfl) (want_none) rfl (fun _ ⟨hL_l, c405⟩ => q_move rfl) ?_
   refine HA.val (k := 1) (v := vout_1) rfl rfl (by kernel_rfl) (by kernel_rfl) (want_none) rfl (fun _ ⟨hL_l, c405⟩ => q_move rfl) ?_
   refine HA.val (k := 2) (v := .int .i64 (out_1.length : Int)) rfl rfl (by kernel_rfl) (by kernel_rfl) (want_none) rfl (fun _ ⟨hL_l, c405⟩ => q_len ts_44 (shp c405.slice) rfl rfl) ?_
   refine HA.val (k := 3) (v := .bool (decide (n_2 < (out_1.length : Int)))) rfl rfl (by kernel_rfl) (by kernel_rfl) (want_none) rfl (fun _ ⟨hL_l, c405⟩ => q_lss rfl rfl) ?_
   refine HA.val (k := 4) (v := .bool (decide (n_2 < (out_1.length : Int)))) rfl rfl (by kernel_rfl) (by kernel_rfl) (want_none) rfl (fun _ ⟨hL_l, c405⟩ => q_move rfl) ?_
   rcases Bool.eq_false_or_eq_true (decide (n_2 < (out_1.length : Int))) with c_2 | c_2
   ·
    replace hM := hM.1 (of_decide_eq_true c_2)
    refine HA.val (k := 5) (v := vout_1) rfl rfl (by kernel_rfl) (by kernel_rfl) (want_by rfl rfl c_2) rfl (fun _ ⟨hL_l, c405⟩ => q_move rfl) ?_
    refine HA.val (k := 6) (v := .int .i64 n_2) rfl rfl (by kernel_rfl) (by kernel_rfl) (want_by rfl rfl c_2) rfl (fun _ ⟨hL_l, c405⟩ => q_move rfl) ?_
    obtain ⟨ho_1, hM⟩ := hM
    refine HA.val (k := 7) (v := elemPtr 2 vout_1 (n_2).toNat) rfl rfl (by kernel_rfl) (by kernel_rfl) (want_by rfl rfl c_2) rfl (fun _ ⟨hL_l, c405⟩ => q_idx ts_44 c405.slice rfl rfl ho_1) ?_
    refine HA.val (k := 8) (v := .agg #[.int .i64 ((gi out_1 n_2).1), .int .i64 ((gi out_1 n_2).2)]) rfl rfl (by kernel_rfl) (by kernel_rfl) (want_by rfl rfl c_2) rfl (fun _ ⟨hL_l, c405⟩ => q_ldElemAgg (cs := [.int .i64 ((gi out_1 n_2).1), .int .i64 ((gi out_1 n_2).2)]) ta_67 c405.slice rfl ho_1 rfl) ?_
    refine HA.val (k := 9) (v := vl) rfl rfl (by kernel_rfl) (by kernel_rfl) (want_by rfl rfl c_2) rfl (fun _ ⟨hL_l, c405⟩ => q_move rfl) ?_
    refine HA.val (k := 10) (v := .int .i64 i_1) rfl rfl (by kernel_rfl) (by kernel_rfl) (want_by rfl rfl c_2) rfl (fun _ ⟨hL_l, c405⟩ => q_move rfl) ?_
    obtain ⟨ho_2, hM⟩ := hM
    refine HA.val (k := 11) (v := elemPtr 2 vl (i_1).toNat) rfl rfl (by kernel_rfl) (by kernel_rfl) (want_by rfl rfl c_2) rfl (fun _ ⟨hL_l, c405⟩ => q_idx ts_44 hL_l rfl rfl ho_2) ?_
    refine HA.val (k := 12) (v := .agg #[.int .i64 ((gi l i_1).1), .int .i64 ((gi l i_1).2)]) rfl rfl (by kernel_rfl) (by kernel_rfl) (want_by rfl rfl c_2) rfl (fun _ ⟨hL_l, c405⟩ => q_ldElemAgg (cs := [.int .i64 ((gi l i_1).1), .int .i64 ((gi l i_1).2)]) ta_67 hL_l rfl ho_2 rfl) ?_
    refine HA.one (k := 13) ⟨⟨hL_l.is, (hS.own 0 rfl)⟩, (Go.Wk.at_nil _ _)⟩ (by kernel_rfl) ?_
    refine HS.call rfl (want_by rfl rfl c_2) rfl (ec en_68 rfl rfl) (ref32_less_walk (fr := (Ow.own 67 2 e_api_Branch vout_1 out_1 :: fr)) (gi out_1 n_2) (gi l i_1) hS hM) ?_
    rintro _ h_4 ⟨F_3, r_2, rfl, hk, hS, hM⟩
    replace hK := hK.trans hk
    replace hL_l := hL_l.kp hk
    refine HA.val (k := 14) (v := .bool r_2) rfl rfl (by kernel_rfl) (by kernel_rfl) (want_none) rfl (fun _ ⟨hL_l, c405⟩ => q_pickK true rfl c_2 rfl) ?_
    refine HA.nil ⟨⟨hL_l.is, (hS.own 0 rfl)⟩, (Go.Wk.at_nil _ _)⟩ (by kernel_rfl) (thenQ_normal (?_))
    refine HW.cond r_2 rfl (fun c_3 => ?_) (fun c_3 => ?_)
    ·
     replace hM := hM.1 c_3
     refine HW.skip (thenQ_normal (?_))
     refine HW.block ?_
     refine HW.region ?_
     refine oM (.int .i64 n_2) rfl rfl ?_
     obtain ⟨ho_3, hM⟩ := hM
     refine oV (.int .i64 (n_2 + 1)) (q_addN _ rfl rfl rfl ho_3.1 ho_3.2) rfl ?_
     refine oA (.int .i64 (n_2 + 1)) rfl rfl ?_
     refine HO.nil (blockQ_normal (thenQ_normal (?_)))
     rw [hKe_2] at hM
     exact ⟨n_2 + 1, ⟨F_3, rfl, rfl, rfl, rfl, rfl, hK, hS, hL_l, hM.1⟩, hM.2⟩
    ·
     replace hM := hM.2 c_3
     refine HW.exit (thenQ_exit (thenQ_exit (blockQ_exit (thenQ_normal (?_)))))
     exact ⟨F_3, n_2, rfl, rfl, rfl, rfl, rfl, hK, hS, hL_l, hM⟩
   ·
    replace hM := hM.2 (of_decide_eq_false c_2)
    refine HA.past (k := 5) rfl rfl (by kernel_rfl) (by kernel_rfl) (past_by rfl rfl c_2) rfl ?_
    refine HA.past (k := 6) rfl rfl (by kernel_rfl) (by kernel_rfl) (past_by rfl rfl c_2) rfl ?_
    refine HA.past (k := 7) rfl rfl (by kernel_rfl) (by kernel_rfl) (past_by rfl rfl c_2) rfl ?_
    refine HA.past (k := 8) rfl rfl (by kernel_rfl) (by kernel_rfl) (past_by rfl rfl c_2) rfl ?_
    refine HA.past (k := 9) rfl rfl (by kernel_rfl) (by kernel_rfl) (past_by rfl rfl c_2) rfl ?_
    refine HA.past (k := 10) rfl rfl (by kernel_rfl) (by kernel_rfl) (past_by rfl rfl c_2) rfl ?_
    refine HA.past (k := 11) rfl rfl (by kernel_rfl) (by kernel_rfl) (past_by rfl rfl c_2) rfl ?_
    refine HA.past (k := 12) rfl rfl (by kernel_rfl) (by kernel_rfl) (past_by rfl rfl c_2) rfl ?_
    refine HA.one (k := 13) ⟨⟨hL_l.is, (hS.own 0 rfl)⟩, (Go.Wk.at_nil _ _)⟩ (by kernel_rfl) ?_
    refine HS.past rfl (past_by rfl rfl c_2) rfl ?_
    refine HA.val (k := 14) (v := .bool false) rfl rfl (by kernel_rfl) (by kernel_rfl) (want_none) rfl (fun _ ⟨hL_l, c405⟩ => q_pickK false rfl c_2 rfl) ?_
    refine HA.nil ⟨⟨hL_l.is, (hS.own 0 rfl)⟩, (Go.Wk.at_nil _ _)⟩ (by kernel_rfl) (thenQ_normal (?_))
    refine HW.condF rfl ?_
    refine HW.exit (thenQ_exit (thenQ_exit (blockQ_exit (thenQ_normal (?_)))))
    exact ⟨F_2, n_2, rfl, rfl, rfl, rfl, rfl, hK, hS, hL_l, hM⟩
  ·
   rintro f_3 h_5 ⟨F_4, n_1, e0, e2, e3, e4, e5, hK, hS, hL_l, hM⟩
   unfold ref32_Sorted_j1 at hM
   refine HW.fr [(0, vl), (2, .slice none 0 0), (3, vout_1), (4, .int .i64 i_1), (5, .int .i64 n_1)] ⟨e0, e2, e3, e4, e5, trivial⟩ ?_
   obtain ⟨ho_4, hM⟩ := hM
   obtain ⟨ho_5, hM⟩ := hM
   obtain ⟨ho_6, hM⟩ := hM
   obtain ⟨ho_7, hM⟩ := hM
   obtain ⟨ho_8, hM⟩ := hM
   obtain ⟨ho_9, hM⟩ := hM
   obtain ⟨ho_10, hM⟩ := hM
   refine HW.regionA 16 mixed (fun h => (SliceIs h 2 e_api_Branch vl l) ∧ (OwnIs h 0 67 2 e_api_Branch vout_1 out_1)) [] (by kernel_rfl) ?_
   refine HA.val (k := 1) (v := vout_1) rfl rfl (by kernel_rfl) (by kernel_rfl) (want_none) rfl (fun _ ⟨hL_l, c304⟩ => q_move rfl) ?_
   refine HA.val (k := 2) (v := .int .i64 n_1) rfl rfl (by kernel_rfl) (by kernel_rfl) (want_none) rfl (fun _ ⟨hL_l, c304⟩ => q_move rfl) ?_
   refine HA.val (k := 3) (v := cutV 2 vout_1 (0 : Int).toNat (n_1).toNat) rfl rfl (by kernel_rfl) (by kernel_rfl) (want_none) rfl (fun _ ⟨hL_l, c304⟩ => q_slH ts_44 c304.slice rfl rfl ho_4) ?_
   refine HA.val (k := 5) (v := vl) rfl rfl (by kernel_rfl) (by kernel_rfl) (want_none) rfl (fun _ ⟨hL_l, c304⟩ => q_move rfl) ?_
   refine HA.val (k := 6) (v := .int .i64 i_1) rfl rfl (by kernel_rfl) (by kernel_rfl) (want_none) rfl (fun _ ⟨hL_l, c304⟩ => q_move rfl) ?_
   refine HA.val (k := 7) (v := elemPtr 2 vl (i_1).toNat) rfl rfl (by kernel_rfl) (by kernel_rfl) (want_none) rfl (fun _ ⟨hL_l, c304⟩ => q_idx ts_44 hL_l rfl rfl ho_5) ?_
   refine HA.val (k := 8) (v := .agg #[.int .i64 ((gi l i_1).1), .int .i64 ((gi l i_1).2)]) rfl rfl (by kernel_rfl) (by kernel_rfl) (want_none) rfl (fun _ ⟨hL_l, c304⟩ => q_ldElemAgg (cs := [.int .i64 ((gi l i_1).1), .int .i64 ((gi l i_1).2)]) ta_67 hL_l rfl ho_5 rfl) ?_
   refine HA.val (k := 11) (v := vout_1) rfl rfl (by kernel_rfl) (by kernel_rfl) (want_none) rfl (fun _ ⟨hL_l, c304⟩ => q_move rfl) ?_
   refine HA.val (k := 12) (v := .int .i64 n_1) rfl rfl (by kernel_rfl) (by kernel_rfl) (want_none) rfl (fun _ ⟨hL_l, c304⟩ => q_move rfl) ?_
   refine HA.val (k := 13) (v := cutV 2 vout_1 (n_1).toNat ((out_1.length : Int)).toNat) rfl rfl (by kernel_rfl) (by kernel_rfl) (want_none) rfl (fun _ ⟨hL_l, c304⟩ => q_slL ts_44 c304.slice rfl rfl ho_4) ?_
   refine HA.two (k := 0) (k' := 9) ⟨⟨hL_l.is, (hS.own 0 rfl)⟩, (Go.Wk.at_nil _ _)⟩ (by kernel_rfl) ?_ ?_
   ·
    refine HS.eff rfl (want_none) rfl (st_litEmpty (α := T_api_Branch) e_api_Branch hS tl_44) ?_
    rintro _ h_6 ⟨b_2, rfl, hS, hk⟩
    replace hK := hK.trans hk
    replace hL_l := hL_l.kp hk
    refine HA.two (k := 4) (k' := 9) ⟨⟨hL_l.is, (hS.own 1 rfl)⟩, (Go.Wk.at_nil _ _)⟩ (by kernel_rfl) ?_ ?_
    ·
     refine HS.eff rfl (want_none) rfl (st_append te_44 hS (i := 0) rfl (cutIs (hS.own 1 rfl).slice 0 n_1 ho_6.1 ho_6.2.1 ho_6.2.2) rfl rfl rfl (by intro a _ u hu; simp [e_api_Branch, encI, encN, encB, encT] at hu; rcases hu with rfl | rfl <;> rfl) ho_7 (by omega)) ?_
     rintro v_1 h_7 ⟨hS, hk⟩
     replace hS : St F_4 (Ow.own 67 2 e_api_Branch v_1 (([] : List T_api_Branch) ++ (cut out_1 0 n_1)) :: Ow.own 67 2 e_api_Branch vout_1 out_1 :: fr) h_7 := hS
     replace hK := hK.trans hk
     replace hL_l := hL_l.kp hk
     refine HA.one (k := 9) ⟨⟨hL_l.is, (hS.own 1 rfl)⟩, (Go.Wk.at_nil _ _)⟩ (by kernel_rfl) ?_
     refine HS.eff rfl (want_none) rfl (st_lit (enc := e_api_Branch) (cells := #[.int .i64 ((gi l i_1).1), .int .i64 ((gi l i_1).2)]) #[.int .i64 0, .int .i64 0] ([(gi l i_1)] : List T_api_Branch) hS tl_44 (by decide) (by decide) (by kernel_rfl) (by kernel_rfl) rfl (by intro x hx; rfl) rfl) ?_
     rintro _ h_8 ⟨b_3, rfl, hS, hk⟩
     replace hK := hK.trans hk
     replace hL_l := hL_l.kp hk
     refine HA.one (k := 10) ⟨⟨hL_l.is, (hS.own 2 rfl)⟩, (Go.Wk.at_nil _ _)⟩ (by kernel_rfl) ?_
     refine HS.eff rfl (want_none) rfl (st_append te_44 hS (i := 1) rfl (hS.own 0 rfl).slice rfl rfl rfl (by intro a _ u hu; simp [e_api_Branch, encI, encN, encB, encT] at hu; rcases hu with rfl | rfl <;> rfl) ho_8 (by omega)) ?_
     rintro v_2 h_9 ⟨hS, hk⟩
     replace hS : St F_4 (Ow.own 67 2 e_api_Branch (.slice (some ⟨b_3, 0, none⟩) 1 1) ([(gi l i_1)] : List T_api_Branch) :: Ow.own 67 2 e_api_Branch v_2 ((([] : List T_api_Branch) ++ (cut out_1 0 n_1)) ++ ([(gi l i_1)] : List T_api_Branch)) :: Ow.own 67 2 e_api_Branch vout_1 out_1 :: fr) h_9 := hS
     replace hK := hK.trans hk
     replace hL_l := hL_l.kp hk
     refine HA.one (k := 14) ⟨⟨hL_l.is, (hS.own 2 rfl)⟩, (Go.Wk.at_nil _ _)⟩ (by kernel_rfl) ?_
     refine HS.eff rfl (want_none) rfl (st_append te_44 hS (i := 1) rfl (cutIs (hS.own 2 rfl).slice n_1 (out_1.length : Int) ho_9.1 ho_9.2.1 ho_9.2.2) rfl rfl rfl (by intro a _ u hu; simp [e_api_Branch, encI, encN, encB, encT] at hu; rcases hu with rfl | rfl <;> rfl) ho_10 (by omega)) ?_
     rintro v_3 h_10 ⟨hS, hk⟩
     replace hS : St F_4 (Ow.own 67 2 e_api_Branch (.slice (some ⟨b_3, 0, none⟩) 1 1) ([(gi l i_1)] : List T_api_Branch) :: Ow.own 67 2 e_api_Branch v_3 (((([] : List T_api_Branch) ++ (cut out_1 0 n_1)) ++ ([(gi l i_1)] : List T_api_Branch)) ++ (cut out_1 n_1 (out_1.length : Int))) :: Ow.own 67 2 e_api_Branch vout_1 out_1 :: fr) h_10 := hS
     replace hK := hK.trans hk
     replace hL_l := hL_l.kp hk
     refine HA.val (k := 15) (v := v_3) rfl rfl (by kernel_rfl) (by kernel_rfl) (want_none) rfl (fun _ ⟨hL_l, c304⟩ => q_assign rfl) ?_
     refine HA.nil ⟨⟨hL_l.is, (hS.own 2 rfl)⟩, (Go.Wk.at_nil _ _)⟩ (by kernel_rfl) (blockQ_normal (thenQ_normal (?_)))
     refine HW.region ?_
     refine oM (.int .i64 i_1) rfl rfl ?_
     obtain ⟨ho_11, hM⟩ := hM
     refine oV (.int .i64 (i_1 + 1)) (q_addN _ rfl rfl rfl ho_11.1 ho_11.2) rfl ?_
     refine oA (.int .i64 (i_1 + 1)) rfl rfl ?_
     refine HO.nil (thenQ_normal (?_))
     replace hS : St F_4 (Ow.own 67 2 e_api_Branch v_3 (((([] : List T_api_Branch) ++ (cut out_1 0 n_1)) ++ ([(gi l i_1)] : List T_api_Branch)) ++ (cut out_1 n_1 (out_1.length : Int))) :: fr) h_10 := hS.perm2 [1] 3 rfl rfl
     rw [hKe_1] at hM
     exact ⟨(((([] : List T_api_Branch) ++ (cut out_1 0 n_1)) ++ ([(gi l i_1)] : List T_api_Branch)) ++ (cut out_1 n_1 (out_1.length : Int)), i_1 + 1), ⟨F_4, v_3, rfl, rfl, rfl, rfl, hK, hS, hL_l, hM.1⟩, hM.2⟩
    ·
     refine HS.eff rfl (want_none) rfl (st_lit (enc := e_api_Branch) (cells := #[.int .i64 ((gi l i_1).1), .int .i64 ((gi l i_1).2)]) #[.int .i64 0, .int .i64 0] ([(gi l i_1)] : List T_api_Branch) hS tl_44 (by decide) (by decide) (by kernel_rfl) (by kernel_rfl) rfl (by intro x hx; rfl) rfl) ?_
     rintro _ h_7 ⟨b_3, rfl, hS, hk⟩
     replace hK := hK.trans hk
     replace hL_l := hL_l.kp hk
     refine HA.one (k := 4) ⟨⟨hL_l.is, (hS.own 2 rfl)⟩, (Go.Wk.at_nil _ _)⟩ (by kernel_rfl) ?_
     refine HS.eff rfl (want_none) rfl (st_append te_44 hS (i := 1) rfl (cutIs (hS.own 2 rfl).slice 0 n_1 ho_6.1 ho_6.2.1 ho_6.2.2) rfl rfl rfl (by intro a _ u hu; simp [e_api_Branch, encI, encN, encB, encT] at hu; rcases hu with rfl | rfl <;> rfl) ho_7 (by omega)) ?_
     rintro v_1 h_8 ⟨hS, hk⟩
     replace hS : St F_4 (Ow.own 67 2 e_api_Branch (.slice (some ⟨b_3, 0, none⟩) 1 1) ([(gi l i_1)] : List T_api_Branch) :: Ow.own 67 2 e_api_Branch v_1 (([] : List T_api_Branch) ++ (cut out_1 0 n_1)) :: Ow.own 67 2 e_api_Branch vout_1 out_1 :: fr) h_8 := hS
     replace hK := hK.trans hk
     replace hL_l := hL_l.kp hk
     refine HA.one (k := 10) ⟨⟨hL_l.is, (hS.own 2 rfl)⟩, (Go.Wk.at_nil _ _)⟩ (by kernel_rfl) ?_
     refine HS.eff rfl (want_none) rfl (st_append te_44 hS (i := 1) rfl (hS.own 0 rfl).slice rfl rfl rfl (by intro a _ u hu; simp [e_api_Branch, encI, encN, encB, encT] at hu; rcases hu with rfl | rfl <;> rfl) ho_8 (by omega)) ?_
     rintro v_2 h_9 ⟨hS, hk⟩
     replace hS : St F_4 (Ow.own 67 2 e_api_Branch (.slice (some ⟨b_3, 0, none⟩) 1 1) ([(gi l i_1)] : List T_api_Branch) :: Ow.own 67 2 e_api_Branch v_2 ((([] : List T_api_Branch) ++ (cut out_1 0 n_1)) ++ ([(gi l i_1)] : List T_api_Branch)) :: Ow.own 67 2 e_api_Branch vout_1 out_1 :: fr) h_9 := hS
     replace hK := hK.trans hk
     replace hL_l := hL_l.kp hk
     refine HA.one (k := 14) ⟨⟨hL_l.is, (hS.own 2 rfl)⟩, (Go.Wk.at_nil _ _)⟩ (by kernel_rfl) ?_
     refine HS.eff rfl (want_none) rfl (st_append te_44 hS (i := 1) rfl (cutIs (hS.own 2 rfl).slice n_1 (out_1.length : Int) ho_9.1 ho_9.2.1 ho_9.2.2) rfl rfl rfl (by intro a _ u hu; simp [e_api_Branch, encI, encN, encB, encT] at hu; rcases hu with rfl | rfl <;> rfl) ho_10 (by omega)) ?_
     rintro v_3 h_10 ⟨hS, hk⟩
     replace hS : St F_4 (Ow.own 67 2 e_api_Branch (.slice (some ⟨b_3, 0, none⟩) 1 1) ([(gi l i_1)] : List T_api_Branch) :: Ow.own 67 2 e_api_Branch v_3 (((([] : List T_api_Branch) ++ (cut out_1 0 n_1)) ++ ([(gi l i_1)] : List T_api_Branch)) ++ (cut out_1 n_1 (out_1.length : Int))) :: Ow.own 67 2 e_api_Branch vout_1 out_1 :: fr) h_10 := hS
     replace hK := hK.trans hk
     replace hL_l := hL_l.kp hk
     refine HA.val (k := 15) (v := v_3) rfl rfl (by kernel_rfl) (by kernel_rfl) (want_none) rfl (fun _ ⟨hL_l, c304⟩ => q_assign rfl) ?_
     refine HA.nil ⟨⟨hL_l.is, (hS.own 2 rfl)⟩, (Go.Wk.at_nil _ _)⟩ (by kernel_rfl) (blockQ_normal (thenQ_normal (?_)))
     refine HW.region ?_
     refine oM (.int .i64 i_1) rfl rfl ?_
     obtain ⟨ho_11, hM⟩ := hM
     refine oV (.int .i64 (i_1 + 1)) (q_addN _ rfl rfl rfl ho_11.1 ho_11.2) rfl ?_
     refine oA (.int .i64 (i_1 + 1)) rfl rfl ?_
     refine HO.nil (thenQ_normal (?_))
     replace hS : St F_4 (Ow.own 67 2 e_api_Branch v_3 (((([] : List T_api_Branch) ++ (cut out_1 0 n_1)) ++ ([(gi l i_1)] : List T_api_Branch)) ++ (cut out_1 n_1 (out_1.length : Int))) :: fr) h_10 := hS.perm2 [1] 3 rfl rfl
     rw [hKe_1] at hM
     exact ⟨(((([] : List T_api_Branch) ++ (cut out_1 0 n_1)) ++ ([(gi l i_1)] : List T_api_Branch)) ++ (cut out_1 n_1 (out_1.length : Int)), i_1 + 1), ⟨F_4, v_3, rfl, rfl, rfl, rfl, hK, hS, hL_l, hM.1⟩, hM.2⟩
   ·
    refine HS.eff rfl (want_none) rfl (st_lit (enc := e_api_Branch) (cells := #[.int .i64 ((gi l i_1).1), .int .i64 ((gi l i_1).2)]) #[.int .i64 0, .int .i64 0] ([(gi l i_1)] : List T_api_Branch) hS tl_44 (by decide) (by decide) (by kernel_rfl) (by kernel_rfl) rfl (by intro x hx; rfl) rfl) ?_
    rintro _ h_6 ⟨b_2, rfl, hS, hk⟩
    replace hK := hK.trans hk
    replace hL_l := hL_l.kp hk
    refine HA.one (k := 0) ⟨⟨hL_l.is, (hS.own 1 rfl)⟩, (Go.Wk.at_nil _ _)⟩ (by kernel_rfl) ?_
    refine HS.eff rfl (want_none) rfl (st_litEmpty (α := T_api_Branch) e_api_Branch hS tl_44) ?_
    rintro _ h_7 ⟨b_3, rfl, hS, hk⟩
    replace hK := hK.trans hk
    replace hL_l := hL_l.kp hk
    refine HA.one (k := 4) ⟨⟨hL_l.is, (hS.own 2 rfl)⟩, (Go.Wk.at_nil _ _)⟩ (by kernel_rfl) ?_
    refine HS.eff rfl (want_none) rfl (st_append te_44 hS (i := 0) rfl (cutIs (hS.own 2 rfl).slice 0 n_1 ho_6.1 ho_6.2.1 ho_6.2.2) rfl rfl rfl (by intro a _ u hu; simp [e_api_Branch, encI, encN, encB, encT] at hu; rcases hu with rfl | rfl <;> rfl) ho_7 (by omega)) ?_
    rintro v_1 h_8 ⟨hS, hk⟩
    replace hS : St F_4 (Ow.own 67 2 e_api_Branch v_1 (([] : List T_api_Branch) ++ (cut out_1 0 n_1)) :: Ow.own 67 2 e_api_Branch (.slice (some ⟨b_2, 0, none⟩) 1 1) ([(gi l i_1)] : List T_api_Branch) :: Ow.own 67 2 e_api_Branch vout_1 out_1 :: fr) h_8 := hS
    replace hK := hK.trans hk
    replace hL_l := hL_l.kp hk
    refine HA.one (k := 10) ⟨⟨hL_l.is, (hS.own 2 rfl)⟩, (Go.Wk.at_nil _ _)⟩ (by kernel_rfl) ?_
    refine HS.eff rfl (want_none) rfl (st_append te_44 hS (i := 0) rfl (hS.own 1 rfl).slice rfl rfl rfl (by intro a _ u hu; simp [e_api_Branch, encI, encN, encB, encT] at hu; rcases hu with rfl | rfl <;> rfl) ho_8 (by omega)) ?_
    rintro v_2 h_9 ⟨hS, hk⟩
    replace hS : St F_4 (Ow.own 67 2 e_api_Branch v_2 ((([] : List T_api_Branch) ++ (cut out_1 0 n_1)) ++ ([(gi l i_1)] : List T_api_Branch)) :: Ow.own 67 2 e_api_Branch (.slice (some ⟨b_2, 0, none⟩) 1 1) ([(gi l i_1)] : List T_api_Branch) :: Ow.own 67 2 e_api_Branch vout_1 out_1 :: fr) h_9 := hS
    replace hK := hK.trans hk
    replace hL_l := hL_l.kp hk
    refine HA.one (k := 14) ⟨⟨hL_l.is, (hS.own 2 rfl)⟩, (Go.Wk.at_nil _ _)⟩ (by kernel_rfl) ?_
    refine HS.eff rfl (want_none) rfl (st_append te_44 hS (i := 0) rfl (cutIs (hS.own 2 rfl).slice n_1 (out_1.length : Int) ho_9.1 ho_9.2.1 ho_9.2.2) rfl rfl rfl (by intro a _ u hu; simp [e_api_Branch, encI, encN, encB, encT] at hu; rcases hu with rfl | rfl <;> rfl) ho_10 (by omega)) ?_
    rintro v_3 h_10 ⟨hS, hk⟩
    replace hS : St F_4 (Ow.own 67 2 e_api_Branch v_3 (((([] : List T_api_Branch) ++ (cut out_1 0 n_1)) ++ ([(gi l i_1)] : List T_api_Branch)) ++ (cut out_1 n_1 (out_1.length : Int))) :: Ow.own 67 2 e_api_Branch (.slice (some ⟨b_2, 0, none⟩) 1 1) ([(gi l i_1)] : List T_api_Branch) :: Ow.own 67 2 e_api_Branch vout_1 out_1 :: fr) h_10 := hS
    replace hK := hK.trans hk
    replace hL_l := hL_l.kp hk
    refine HA.val (k := 15) (v := v_3) rfl rfl (by kernel_rfl) (by kernel_rfl) (want_none) rfl (fun _ ⟨hL_l, c304⟩ => q_assign rfl) ?_
    refine HA.nil ⟨⟨hL_l.is, (hS.own 2 rfl)⟩, (Go.Wk.at_nil _ _)⟩ (by kernel_rfl) (blockQ_normal (thenQ_normal (?_)))
    refine HW.region ?_
    refine oM (.int .i64 i_1) rfl rfl ?_
    obtain ⟨ho_11, hM⟩ := hM
    refine oV (.int .i64 (i_1 + 1)) (q_addN _ rfl rfl rfl ho_11.1 ho_11.2) rfl ?_
    refine oA (.int .i64 (i_1 + 1)) rfl rfl ?_
    refine HO.nil (thenQ_normal (?_))
    replace hS : St F_4 (Ow.own 67 2 e_api_Branch v_3 (((([] : List T_api_Branch) ++ (cut out_1 0 n_1)) ++ ([(gi l i_1)] : List T_api_Branch)) ++ (cut out_1 n_1 (out_1.length : Int))) :: fr) h_10 := hS.perm2 [0] 3 rfl rfl
    rw [hKe_1] at hM
    exact ⟨(((([] : List T_api_Branch) ++ (cut out_1 0 n_1)) ++ ([(gi l i_1)] : List T_api_Branch)) ++ (cut out_1 n_1 (out_1.length : Int)), i_1 + 1), ⟨F_4, v_3, rfl, rfl, rfl, rfl, hK, hS, hL_l, hM.1⟩, hM.2⟩
 ·
  replace hM := hM.2 (of_decide_eq_false c_1)
  refine HW.exit (thenQ_exit (thenQ_exit (blockQ_exit (thenQ_normal (?_)))))
  refine HW.seq ?_
  refine HW.region ?_
  refine oM (vout_1) rfl rfl ?_
  refine oA (vout_1) rfl rfl ?_
  refine HO.nil (thenQ_normal (?_))
  refine HW.ret (?_)
  refine ⟨.inr rfl, vout_1, res1 rfl (rt rfl), ?_⟩
  exact ⟨F_1, out_1, vout_1, rfl, hK, hS, hL_l, hM⟩

def ref33_Star_l1 (root : Int) (members : List Int) (Q : Int → (List T_api_Branch) → Prop) (K_1 : (List T_api_Branch) → Int → Prop) (t_1_1 : List T_api_Branch) (i_1 : Int) : Prop :=
 (i_1 < (members.length : Int) → ((0 : Int) ≤ i_1 ∧ i_1 < (members.length : Int)) ∧ (((t_1_1.length + ([(root, (gi members i_1))] : List T_api_Branch).length) * 16 ≤ 140737488355328) ∧ ((I64 (i_1 + 1)) ∧ (K_1 (t_1_1 ++ ([(root, (gi members i_1))] : List T_api_Branch)) (i_1 + 1))))) ∧ (¬ (i_1 < (members.length : Int)) → ref32_Sorted_W t_1_1 (fun r_1 => Q root r_1))
def ref33_Star_W (root : Int) (members : List Int) (Q : Int → (List T_api_Branch) → Prop) : Prop :=
 loopW (fun (K_1 : (List T_api_Branch × Int) → Prop) (s : List T_api_Branch × Int) => ref33_Star_l1 root members Q (fun t_1_1 i_1 => K_1 (t_1_1, i_1)) s.1 s.2) ([], 0)
set_option maxHeartbeats 40000000 in
set_option maxRecDepth 100000 in
theorem ref33_Star_walk {F : Fz} {fr : List Ow} {h0 : Heap} (root : Int) (members : List Int) (vmembers : Value) (hS : St F (fr) h0) (hL_members : SliceF F h0 1 encI vmembers members) {Q : Int → (List T_api_Branch) → Prop} (hM : ref33_Star_W root members Q) :
  HC Try.prog 26 #[.int .i64 root, vmembers] h0 fun u h' => ∃ (F' : Fz) (r_0_1 : Int) (r_1_1 : List T_api_Branch) (vr_1_1 : Value), u = .agg #[.int .i64 r_0_1, vr_1_1] ∧ Kp F h0 F' h' ∧ St F' (Ow.own 67 2 e_api_Branch vr_1_1 r_1_1 :: fr) h' ∧ (SliceF F' h' 1 encI vmembers members) ∧ Q r_0_1 r_1_1 := by
 unfold ref33_Star_W at hM
 have hK := Kp.refl F h0
 refine HC.of_HW (n := 31) Try.func26 rfl rfl (Nat.le_of_ble_eq_true rfl) ?_
 refine HW.seq ?_
 refine HW.region ?_
 refine HO.eff (want_none) rfl (st_alloc (c := #[.int .i64 0, .slice none 0 0]) hS tz_46 rfl) ?_
 rintro _ h_1 ⟨b_1, rfl, hS, hk⟩
 replace hK := hK.trans hk
 replace hL_members := hL_members.kp hk
 refine HO.nil (thenQ_normal (?_))
 refine HW.seq ?_
 refine HW.region ?_
 refine oM (.int .i64 root) rfl rfl ?_
 refine oV (.agg #[.int .i64 root, .slice none 0 0]) (q_build tp_46 rfl) rfl ?_
 refine HO.eff (want_none) rfl (st_alloc (c := #[.int .i64 0, .slice none 0 0]) hS tz_46 rfl) ?_
 rintro _ h_2 ⟨b_2, rfl, hS, hk⟩
 replace hK := hK.trans hk
 replace hL_members := hL_members.kp hk
 refine HO.sto (want_none) rfl (st_storeAgg (c' := #[.int .i64 root, .slice none 0 0]) hS (i := 0) rfl ta_46 rfl rfl rfl (by simp [Value.oneCell']) (Nat.le_of_ble_eq_true rfl) rfl) ?_
 rintro h_3 ⟨hS, hk⟩
 replace hS : St F (Ow.box b_2 46 #[.int .i64 root, .slice none 0 0] :: Ow.box b_1 46 #[.int .i64 0, .slice none 0 0] :: fr) h_3 := hS
 replace hK := hK.trans hk
 replace hL_members := hL_members.kp hk
 refine HO.nil (thenQ_normal (?_))
 refine HW.seq ?_
 refine HW.seq ?_
 refine HW.region ?_
 refine oA (.int .i64 0) rfl rfl ?_
 refine HO.nil (thenQ_normal (?_))
 refine HW.block ?_
 obtain ⟨I_1, m_1, hI_1, hR_1⟩ := hM
 replace hS := hS.nilOwn 67 2 e_api_Branch
 replace hS : St F (Ow.box b_1 46 #[.int .i64 0, .slice none 0 0] :: Ow.box b_2 46 #[.int .i64 root, .slice none 0 0] :: Ow.own 67 2 e_api_Branch (.slice none 0 0) ([] : List T_api_Branch) :: fr) h_3 := hS.perm2 [2, 1, 0] 3 rfl rfl
 refine HW.loop (S := List T_api_Branch × Int) (fun s f h => match s with | (t_1_1, i_1) => ∃ (F' : Fz) (vt_1_1 : Value), f 0 = .int .i64 root ∧ f 1 = vmembers ∧ f 4 = .pointer (some ⟨b_1, 0, none⟩) ∧ f 5 = .pointer (some ⟨b_2, 0, none⟩) ∧ f 6 = .int .i64 i_1 ∧ Kp F h0 F' h ∧ St F' (Ow.box b_1 46 #[.int .i64 0, .slice none 0 0] :: Ow.box b_2 46 #[.int .i64 root, vt_1_1] :: Ow.own 67 2 e_api_Branch vt_1_1 t_1_1 :: fr) h ∧ (SliceF F' h 1 encI vmembers members) ∧ I_1 (t_1_1, i_1)) m_1 ([], 0) ⟨F, .slice none 0 0, rfl, rfl, rfl, rfl, rfl, hK, hS, hL_members, hI_1⟩ ?_
 rintro ⟨t_1_1, i_1⟩ f_1 h_4 ⟨F_1, vt_1_1, e0, e1, e4, e5, e6, hK, hS, hL_members, hI0⟩
 obtain ⟨K_1, hKe_1⟩ : ∃ K : (List T_api_Branch) → Int → Prop, K = fun t_1_1' i_1' => I_1 (t_1_1', i_1') ∧ m_1 (t_1_1', i_1') < m_1 (t_1_1, i_1) := ⟨_, rfl⟩
 have hM : ref33_Star_l1 root members Q K_1 t_1_1 i_1 := by rw [hKe_1]; exact hR_1 (t_1_1, i_1) hI0
 unfold ref33_Star_l1 at hM
 refine HW.fr [(0, .int .i64 root), (1, vmembers), (4, .pointer (some ⟨b_1, 0, none⟩)), (5, .pointer (some ⟨b_2, 0, none⟩)), (6, .int .i64 i_1)] ⟨e0, e1, e4, e5, e6, trivial⟩ ?_
 refine HW.seq ?_
 refine HW.seq ?_
 refine HW.region ?_
 refine oM (.int .i64 i_1) rfl rfl ?_
 refine oM (vmembers) rfl rfl ?_
 refine oV (.int .i64 (members.length : Int)) (q_len ts_31 (shp hL_members.is) rfl rfl) rfl ?_
 refine oV (.bool (decide (i_1 < (members.length : Int)))) (q_lss rfl rfl) rfl ?_
 refine HO.nil (thenQ_normal (?_))
 refine HW.cond (decide (i_1 < (members.length : Int))) rfl (fun c_1 => ?_) (fun c_1 => ?_)
 ·
  replace hM := hM.1 (of_decide_eq_true c_1)
  refine HW.skip (thenQ_normal (?_))
  refine HW.seq ?_
  refine HW.block ?_
  refine HW.regionA 12 mixed (fun h => (SliceIs h 1 encI vmembers members)) [(11, fun h => (Blk h b_2 (.cells #[.int .i64 root, vt_1_1] 46 (0, 0))))] (by kernel_rfl) ?_
  refine HA.val (k := 0) (v := .pointer (some ⟨b_2, 1, none⟩)) rfl rfl (by kernel_rfl) (by kernel_rfl) (want_none) rfl (fun _ hL_members => q_fieldAddr fa_46_1 rfl rfl) ?_
  refine Go.Wk.HA.valN (k := 1) (v := vt_1_1) 0 11 (fun h => (Blk h b_2 (.cells #[.int .i64 root, vt_1_1] 46 (0, 0)))) rfl rfl (by kernel_rfl) (by kernel_rfl) (want_none) rfl rfl (by kernel_rfl) (fun _ hL_members c355 => q_load to_44 rfl (Blk.cell c355 rfl)) ?_
  refine HA.val (k := 2) (v := .int .i64 root) rfl rfl (by kernel_rfl) (by kernel_rfl) (want_none) rfl (fun _ hL_members => q_move rfl) ?_
  refine HA.val (k := 3) (v := vmembers) rfl rfl (by kernel_rfl) (by kernel_rfl) (want_none) rfl (fun _ hL_members => q_move rfl) ?_
  refine HA.val (k := 4) (v := .int .i64 i_1) rfl rfl (by kernel_rfl) (by kernel_rfl) (want_none) rfl (fun _ hL_members => q_move rfl) ?_
  obtain ⟨ho_1, hM⟩ := hM
  refine HA.val (k := 5) (v := elemPtr 1 vmembers (i_1).toNat) rfl rfl (by kernel_rfl) (by kernel_rfl) (want_none) rfl (fun _ hL_members => q_idx ts_31 hL_members rfl rfl ho_1) ?_
  refine HA.val (k := 6) (v := .int .i64 (gi members i_1)) rfl rfl (by kernel_rfl) (by kernel_rfl) (want_none) rfl (fun _ hL_members => q_ldElem to_3 hL_members rfl ho_1 rfl) ?_
  refine HA.val (k := 7) (v := .agg #[.int .i64 root, .int .i64 (gi members i_1)]) rfl rfl (by kernel_rfl) (by kernel_rfl) (want_none) rfl (fun _ hL_members => q_build tp_67 rfl) ?_
  refine HA.one (k := 8) ⟨hL_members.is, (at_now (hS.box 1 rfl) (Go.Wk.at_nil _ _))⟩ (by kernel_rfl) ?_
  refine HS.eff rfl (want_none) rfl (st_lit (enc := e_api_Branch) (cells := #[.int .i64 root, .int .i64 (gi members i_1)]) #[.int .i64 0, .int .i64 0] ([(root, (gi members i_1))] : List T_api_Branch) hS tl_44 (by decide) (by decide) (by kernel_rfl) (by kernel_rfl) rfl (by intro x hx; rfl) rfl) ?_
  rintro _ h_5 ⟨b_3, rfl, hS, hk⟩
  replace hK := hK.trans hk
  replace hL_members := hL_members.kp hk
  refine HA.one (k := 9) ⟨hL_members.is, (at_now (hS.box 2 rfl) (Go.Wk.at_nil _ _))⟩ (by kernel_rfl) ?_
  obtain ⟨ho_2, hM⟩ := hM
  refine HS.eff rfl (want_none) rfl (st_append te_44 hS (i := 3) rfl (hS.own 0 rfl).slice rfl rfl rfl (by intro a _ u hu; simp [e_api_Branch, encI, encN, encB, encT] at hu; rcases hu with rfl | rfl <;> rfl) ho_2 (by omega)) ?_
  rintro v_1 h_6 ⟨hS, hk⟩
  replace hS : St F_1 (Ow.own 67 2 e_api_Branch (.slice (some ⟨b_3, 0, none⟩) 1 1) ([(root, (gi members i_1))] : List T_api_Branch) :: Ow.box b_1 46 #[.int .i64 0, .slice none 0 0] :: Ow.box b_2 46 #[.int .i64 root, vt_1_1] :: Ow.own 67 2 e_api_Branch v_1 (t_1_1 ++ ([(root, (gi members i_1))] : List T_api_Branch)) :: fr) h_6 := hS
  replace hK := hK.trans hk
  replace hL_members := hL_members.kp hk
  refine HA.val (k := 10) (v := .pointer (some ⟨b_2, 1, none⟩)) rfl rfl (by kernel_rfl) (by kernel_rfl) (want_none) rfl (fun _ hL_members => q_fieldAddr fa_46_1 rfl rfl) ?_
  refine HA.one (k := 11) ⟨hL_members.is, (at_now (hS.box 2 rfl) (Go.Wk.at_nil _ _))⟩ (by kernel_rfl) ?_
  refine HS.sto rfl (want_none) rfl (st_store (c' := #[.int .i64 root, v_1]) hS (i := 2) rfl to_44 rfl rfl (shp (hS.own 3 rfl).slice).cells (shp (hS.own 3 rfl).slice).one (Nat.le_of_ble_eq_true rfl) rfl) ?_
  rintro h_7 ⟨hS, hk⟩
  replace hS : St F_1 (Ow.own 67 2 e_api_Branch (.slice (some ⟨b_3, 0, none⟩) 1 1) ([(root, (gi members i_1))] : List T_api_Branch) :: Ow.box b_1 46 #[.int .i64 0, .slice none 0 0] :: Ow.box b_2 46 #[.int .i64 root, v_1] :: Ow.own 67 2 e_api_Branch v_1 (t_1_1 ++ ([(root, (gi members i_1))] : List T_api_Branch)) :: fr) h_7 := hS
  replace hK := hK.trans hk
  replace hL_members := hL_members.kp hk
  refine HA.nil ⟨hL_members.is, (at_done (by kernel_rfl) (Go.Wk.at_nil _ _))⟩ (by kernel_rfl) (blockQ_normal (thenQ_normal (?_)))
  refine HW.region ?_
  refine oM (.int .i64 i_1) rfl rfl ?_
  obtain ⟨ho_3, hM⟩ := hM
  refine oV (.int .i64 (i_1 + 1)) (q_addN _ rfl rfl rfl ho_3.1 ho_3.2) rfl ?_
  refine oA (.int .i64 (i_1 + 1)) rfl rfl ?_
  refine HO.nil (thenQ_normal (?_))
  replace hS : St F_1 (Ow.box b_1 46 #[.int .i64 0, .slice none 0 0] :: Ow.box b_2 46 #[.int .i64 root, v_1] :: Ow.own 67 2 e_api_Branch v_1 (t_1_1 ++ ([(root, (gi members i_1))] : List T_api_Branch)) :: fr) h_7 := hS.perm2 [1, 2, 3] 4 rfl rfl
  rw [hKe_1] at hM
  exact ⟨(t_1_1 ++ ([(root, (gi members i_1))] : List T_api_Branch), i_1 + 1), ⟨F_1, v_1, rfl, rfl, rfl, rfl, rfl, hK, hS, hL_members, hM.1⟩, hM.2⟩
 ·
  replace hM := hM.2 (of_decide_eq_false c_1)
  refine HW.exit (thenQ_exit (thenQ_exit (blockQ_exit (thenQ_normal (?_)))))
  refine HW.seq ?_
  refine HW.region ?_
  refine oV (.pointer (some ⟨b_2, 1, none⟩)) (q_fieldAddr fa_46_1 rfl rfl) rfl ?_
  refine oV (vt_1_1) (q_load to_44 rfl (Blk.cell (hS.box 1 rfl) rfl)) rfl ?_
  replace hS : St F_1 (Ow.own 67 2 e_api_Branch vt_1_1 t_1_1 :: Ow.box b_1 46 #[.int .i64 0, .slice none 0 0] :: Ow.box b_2 46 #[.int .i64 root, vt_1_1] :: fr) h_4 := hS.perm2 [2, 0, 1] 3 rfl rfl
  have hZ_1 := hS
  have hkz_1 := (hS.freeze).2
  replace hS := hS.freeze.1
  have hL_1 : SliceF (fun bz_ => F_1 bz_ ∨ (Ow.own 67 2 e_api_Branch vt_1_1 t_1_1).foot bz_) h_4 2 e_api_Branch vt_1_1 t_1_1 := ⟨(hZ_1.own 0 rfl).slice, fun _ b hb => .inr hb⟩
  refine HO.call (want_none) rfl (ec en_43 rfl rfl) (ref32_Sorted_walk (fr := (Ow.box b_1 46 #[.int .i64 0, .slice none 0 0] :: Ow.box b_2 46 #[.int .i64 root, vt_1_1] :: fr)) t_1_1 vt_1_1 hS hL_1 hM) ?_
  rintro vr_1 h_8 ⟨F_2, r_1, _, rfl, hk, hS, _, hM⟩
  obtain ⟨hS, hk⟩ := hZ_1.back hk hS
  generalize (fun bz_ => F_2 bz_ ∧ ¬ (Ow.own 67 2 e_api_Branch vt_1_1 t_1_1).foot bz_) = F_3 at hS hk
  replace hK := hK.trans hk
  replace hL_members := hL_members.kp hk
  refine oV (.pointer (some ⟨b_2, 1, none⟩)) (q_fieldAddr fa_46_1 rfl rfl) rfl ?_
  refine HO.sto (want_none) rfl (st_store (c' := #[.int .i64 root, vr_1]) hS (i := 3) rfl to_44 rfl rfl (shp (hS.own 1 rfl).slice).cells (shp (hS.own 1 rfl).slice).one (Nat.le_of_ble_eq_true rfl) rfl) ?_
  rintro h_9 ⟨hS, hk⟩
  replace hS : St F_3 (Ow.own 67 2 e_api_Branch vt_1_1 t_1_1 :: Ow.own 67 2 e_api_Branch vr_1 r_1 :: Ow.box b_1 46 #[.int .i64 0, .slice none 0 0] :: Ow.box b_2 46 #[.int .i64 root, vr_1] :: fr) h_9 := hS
  replace hK := hK.trans hk
  replace hL_members := hL_members.kp hk
  refine HO.nil (thenQ_normal (?_))
  refine HW.seq ?_
  refine HW.region ?_
  refine oV (.agg #[.int .i64 root, vr_1]) (q_loadAgg (cs := [.int .i64 root, vr_1]) ta_46 rfl rfl (Blk.cells (k := 2) (hS.box 3 rfl) rfl)) rfl ?_
  refine HO.sto (want_none) rfl (st_storeAgg (c' := #[.int .i64 root, vr_1]) hS (i := 2) rfl ta_46 rfl rfl rfl (List.forall_mem_cons.2 ⟨rfl, (List.forall_mem_cons.2 ⟨(shp (hS.own 1 rfl).slice).one, (fun _ h => by cases h)⟩)⟩) (Nat.le_of_ble_eq_true rfl) rfl) ?_
  rintro h_10 ⟨hS, hk⟩
  replace hS : St F_3 (Ow.own 67 2 e_api_Branch vt_1_1 t_1_1 :: Ow.own 67 2 e_api_Branch vr_1 r_1 :: Ow.box b_1 46 #[.int .i64 root, vr_1] :: Ow.box b_2 46 #[.int .i64 root, vr_1] :: fr) h_10 := hS
  replace hK := hK.trans hk
  replace hL_members := hL_members.kp hk
  refine HO.nil (thenQ_normal (?_))
  refine HW.ret (?_)
  refine ⟨.inr rfl, .agg #[.int .i64 root, vr_1], res1 rfl (rca (cs := [.int .i64 root, vr_1]) ta_46 rfl rfl (Blk.cells (k := 2) (hS.box 2 rfl) rfl)), ?_⟩
  replace hS : St F_3 (Ow.own 67 2 e_api_Branch vr_1 r_1 :: fr) h_10 := hS.perm2 [1] 4 rfl rfl
  exact ⟨F_3, root, r_1, vr_1, rfl, hK, hS, hL_members, hM⟩

def ref33_Make_l3 (services : List Int) (fan : Int) (i_2 : Int) (K_2 : (List Int) → Int → Prop) (K_3 : (List Int) → Int → Prop) (places_3 : List Int) (j_2 : Int) : Prop :=
 (j_2 < fan → ((0 : Int) ≤ i_2 ∧ i_2 < (services.length : Int)) ∧ (((places_3.length + ([(gi services i_2)] : List Int).length) * 8 ≤ 140737488355328) ∧ ((I64 (j_2 + 1)) ∧ (K_3 (places_3 ++ ([(gi services i_2)] : List Int)) (j_2 + 1))))) ∧ (¬ (j_2 < fan) → (I64 (i_2 + 1)) ∧ (K_2 places_3 (i_2 + 1)))
def ref33_Make_l4 (root : Int) (members : List Int) (services : List Int) (Q : Int → (List T_api_Branch) → Prop) (r_1 : Int) (places_2 : List Int) (K_4 : (List T_api_Branch) → Int → Prop) (t_1_1 : List T_api_Branch) (i_3 : Int) : Prop :=
 (i_3 < (((([] : List Int) ++ (cut services 0 r_1)) ++ members).length : Int) → ((0 : Int) ≤ i_3 ∧ i_3 < (places_2.length : Int)) ∧ (((0 : Int) ≤ i_3 ∧ i_3 < (((([] : List Int) ++ (cut services 0 r_1)) ++ members).length : Int)) ∧ (((t_1_1.length + ([((gi places_2 i_3), (gi ((([] : List Int) ++ (cut services 0 r_1)) ++ members) i_3))] : List T_api_Branch).length) * 16 ≤ 140737488355328) ∧ ((I64 (i_3 + 1)) ∧ (K_4 (t_1_1 ++ ([((gi places_2 i_3), (gi ((([] : List Int) ++ (cut services 0 r_1)) ++ members) i_3))] : List T_api_Branch)) (i_3 + 1)))))) ∧ (¬ (i_3 < (((([] : List Int) ++ (cut services 0 r_1)) ++ members).length : Int)) → ref32_Sorted_W t_1_1 (fun r_2 => Q root r_2))
def ref33_Make_l2 (root : Int) (members : List Int) (services : List Int) (fan : Int) (Q : Int → (List T_api_Branch) → Prop) (r_1 : Int) (K_2 : (List Int) → Int → Prop) (places_2 : List Int) (i_2 : Int) : Prop :=
 (i_2 < r_1 → loopW (fun (K_3 : (List Int × Int) → Prop) (s : List Int × Int) => ref33_Make_l3 services fan i_2 K_2 (fun places_3 j_2 => K_3 (places_3, j_2)) s.1 s.2) (places_2, 0)) ∧ (¬ (i_2 < r_1) → loopW (fun (K_4 : (List T_api_Branch × Int) → Prop) (s : List T_api_Branch × Int) => ref33_Make_l4 root members services Q r_1 places_2 (fun t_1_1 i_3 => K_4 (t_1_1, i_3)) s.1 s.2) ([], 0))
def ref33_Make_l1 (root : Int) (members : List Int) (services : List Int) (fan : Int) (Q : Int → (List T_api_Branch) → Prop) (r_1 : Int) (K_1 : (List Int) → Int → Prop) (places_1 : List Int) (i_1 : Int) : Prop :=
 (i_1 < fan → ((places_1.length + ([root] : List Int).length) * 8 ≤ 140737488355328) ∧ ((I64 (i_1 + 1)) ∧ (K_1 (places_1 ++ ([root] : List Int)) (i_1 + 1)))) ∧ (¬ (i_1 < fan) → loopW (fun (K_2 : (List Int × Int) → Prop) (s : List Int × Int) => ref33_Make_l2 root members services fan Q r_1 (fun places_2 i_2 => K_2 (places_2, i_2)) s.1 s.2) (places_1, 0))
def ref33_Make_j1 (root : Int) (members : List Int) (services : List Int) (fan : Int) (Q : Int → (List T_api_Branch) → Prop) (r_1 : Int) (b_2 : Bool) : Prop :=
 (b_2 = true → ref33_Star_W root members (fun r_0_2 r_1_2 => Q r_0_2 r_1_2)) ∧ (b_2 = false → ((0 : Int) ≤ r_1 ∧ r_1 ≤ (services.length : Int)) ∧ (((([] : List Int).length + (cut services 0 r_1).length) * 8 ≤ 140737488355328) ∧ ((((([] : List Int) ++ (cut services 0 r_1)).length + members.length) * 8 ≤ 140737488355328) ∧ (loopW (fun (K_1 : (List Int × Int) → Prop) (s : List Int × Int) => ref33_Make_l1 root members services fan Q r_1 (fun places_1 i_1 => K_1 (places_1, i_1)) s.1 s.2) ([], 0)))))
def ref33_Make_W (root : Int) (members : List Int) (services : List Int) (fan : Int) (Q : Int → (List T_api_Branch) → Prop) : Prop :=
 ref33_Need_W (members.length : Int) fan (fun r_1 => (r_1 < 0 → ref33_Make_j1 root members services fan Q r_1 true) ∧ (¬ (r_1 < 0) → ref33_Make_j1 root members services fan Q r_1 (decide ((services.length : Int) < r_1))))
set_option maxHeartbeats 40000000 in
set_option maxRecDepth 100000 in
theorem ref33_Make_walk {F : Fz} {fr : List Ow} {h0 : Heap} (root : Int) (members : List Int) (services : List Int) (fan : Int) (vmembers : Value) (vservices : Value) (hS : St F (fr) h0) (hL_members : SliceF F h0 1 encI vmembers members) (hL_services : SliceF F h0 1 encI vservices services) {Q : Int → (List T_api_Branch) → Prop} (hM : ref33_Make_W root members services fan Q) :
  HC Try.prog 21 #[.int .i64 root, vmembers, vservices, .int .i64 fan] h0 fun u h' => ∃ (F' : Fz) (r_0_1 : Int) (r_1_1 : List T_api_Branch) (vr_1_1 : Value), u = .agg #[.int .i64 r_0_1, vr_1_1] ∧ Kp F h0 F' h' ∧ St F' (Ow.own 67 2 e_api_Branch vr_1_1 r_1_1 :: fr) h' ∧ (SliceF F' h' 1 encI vmembers members) ∧ (SliceF F' h' 1 encI vservices services) ∧ Q r_0_1 r_1_1 := by
 unfold ref33_Make_W at hM
 have hK := Kp.refl F h0
 refine HC.of_HW (n := 93) Try.func21 rfl rfl (Nat.le_of_ble_eq_true rfl) ?_
 refine HW.seq ?_
 refine HW.region ?_
 refine HO.eff (want_none) rfl (st_alloc (c := #[.int .i64 0, .slice none 0 0]) hS tz_46 rfl) ?_
 rintro _ h_1 ⟨b_1, rfl, hS, hk⟩
 replace hK := hK.trans hk
 replace hL_members := hL_members.kp hk
 replace hL_services := hL_services.kp hk
 refine HO.nil (thenQ_normal (?_))
 refine HW.seq ?_
 refine HW.region ?_
 refine oM (vmembers) rfl rfl ?_
 refine oV (.int .i64 (members.length : Int)) (q_len ts_31 (shp hL_members.is) rfl rfl) rfl ?_
 refine oM (.int .i64 fan) rfl rfl ?_
 refine HO.call (want_none) rfl (ec en_9 rfl rfl) (ref33_Need_walk (fr := (Ow.box b_1 46 #[.int .i64 0, .slice none 0 0] :: fr)) (members.length : Int) fan hS hM) ?_
 rintro _ h_2 ⟨F_1, r_1, rfl, hk, hS, hM⟩
 replace hK := hK.trans hk
 replace hL_members := hL_members.kp hk
 replace hL_services := hL_services.kp hk
 refine oA (.int .i64 r_1) rfl rfl ?_
 refine HO.nil (thenQ_normal (?_))
 refine HW.seq ?_
 refine HW.seq_mid (fun f h => ∃ (F' : Fz) (b_2 : Bool), f 0 = .int .i64 root ∧ f 1 = vmembers ∧ f 2 = vservices ∧ f 3 = .int .i64 fan ∧ f 8 = .pointer (some ⟨b_1, 0, none⟩) ∧ f 9 = .int .i64 r_1 ∧ f 28 = .bool b_2 ∧ Kp F h0 F' h ∧ St F' (Ow.box b_1 46 #[.int .i64 0, .slice none 0 0] :: fr) h ∧ (SliceF F' h 1 encI vmembers members) ∧ (SliceF F' h 1 encI vservices services) ∧ ref33_Make_j1 root members services fan Q r_1 b_2) ?_ ?_
 ·
  refine HW.region ?_
  refine oM (.int .i64 r_1) rfl rfl ?_
  refine oV (.bool (decide (r_1 < 0))) (q_lss rfl rfl) rfl ?_
  refine oM (.bool (decide (r_1 < 0))) rfl rfl ?_
  rcases Bool.eq_false_or_eq_true (decide (r_1 < 0)) with c_1 | c_1
  ·
   replace hM := hM.1 (of_decide_eq_true c_1)
   refine HO.past (past_by rfl rfl c_1) rfl ?_
   refine HO.past (past_by rfl rfl c_1) rfl ?_
   refine HO.past (past_by rfl rfl c_1) rfl ?_
   refine HO.past (past_by rfl rfl c_1) rfl ?_
   refine oV (.bool true) (q_pickK true rfl c_1 rfl) rfl ?_
   refine HO.nil (thenQ_normal (?_))
   exact ⟨F_1, true, rfl, rfl, rfl, rfl, rfl, rfl, rfl, hK, hS, hL_members, hL_services, hM⟩
  ·
   replace hM := hM.2 (of_decide_eq_false c_1)
   refine HO.val (v := .int .i64 r_1) (want_by rfl rfl c_1) rfl (q_move rfl) ?_
   refine HO.val (v := vservices) (want_by rfl rfl c_1) rfl (q_move rfl) ?_
   refine HO.val (v := .int .i64 (services.length : Int)) (want_by rfl rfl c_1) rfl (q_len ts_31 (shp hL_services.is) rfl rfl) ?_
   refine HO.val (v := .bool (decide ((services.length : Int) < r_1))) (want_by rfl rfl c_1) rfl (q_gtr rfl rfl) ?_
   refine oV (.bool (decide ((services.length : Int) < r_1))) (q_pickK false rfl c_1 rfl) rfl ?_
   refine HO.nil (thenQ_normal (?_))
   exact ⟨F_1, decide ((services.length : Int) < r_1), rfl, rfl, rfl, rfl, rfl, rfl, rfl, hK, hS, hL_members, hL_services, hM⟩
 ·
  rintro f_1 h_3 ⟨F_2, b_2, e0, e1, e2, e3, e8, e9, e28, hK, hS, hL_members, hL_services, hM⟩
  unfold ref33_Make_j1 at hM
  refine HW.fr [(0, .int .i64 root), (1, vmembers), (2, vservices), (3, .int .i64 fan), (8, .pointer (some ⟨b_1, 0, none⟩)), (9, .int .i64 r_1), (28, .bool b_2)] ⟨e0, e1, e2, e3, e8, e9, e28, trivial⟩ ?_
  refine HW.cond b_2 rfl (fun c_2 => ?_) (fun c_2 => ?_)
  ·
   replace hM := hM.1 c_2
   refine HW.seq ?_
   refine HW.region ?_
   refine oM (.int .i64 root) rfl rfl ?_
   refine oM (vmembers) rfl rfl ?_
   refine HO.call (want_none) rfl (ec en_26 rfl rfl) (ref33_Star_walk (fr := (Ow.box b_1 46 #[.int .i64 0, .slice none 0 0] :: fr)) root members vmembers hS hL_members hM) ?_
   rintro _ h_4 ⟨F_3, r_0_2, r_1_2, vr_1_2, rfl, hk, hS, _, hM⟩
   replace hK := hK.trans hk
   replace hL_members := hL_members.kp hk
   replace hL_services := hL_services.kp hk
   refine HO.sto (want_none) rfl (st_storeAgg (c' := #[.int .i64 r_0_2, vr_1_2]) hS (i := 1) rfl ta_46 rfl rfl rfl (List.forall_mem_cons.2 ⟨rfl, (List.forall_mem_cons.2 ⟨(shp (hS.own 0 rfl).slice).one, (fun _ h => by cases h)⟩)⟩) (Nat.le_of_ble_eq_true rfl) rfl) ?_
   rintro h_5 ⟨hS, hk⟩
   replace hS : St F_3 (Ow.own 67 2 e_api_Branch vr_1_2 r_1_2 :: Ow.box b_1 46 #[.int .i64 r_0_2, vr_1_2] :: fr) h_5 := hS
   replace hK := hK.trans hk
   replace hL_members := hL_members.kp hk
   replace hL_services := hL_services.kp hk
   refine HO.nil (thenQ_normal (?_))
   refine HW.ret (thenQ_ret (?_))
   refine ⟨.inr rfl, .agg #[.int .i64 r_0_2, vr_1_2], res1 rfl (rca (cs := [.int .i64 r_0_2, vr_1_2]) ta_46 rfl rfl (Blk.cells (k := 2) (hS.box 1 rfl) rfl)), ?_⟩
   replace hS : St F_3 (Ow.own 67 2 e_api_Branch vr_1_2 r_1_2 :: fr) h_5 := hS.perm2 [0] 2 rfl rfl
   exact ⟨F_3, r_0_2, r_1_2, vr_1_2, rfl, hK, hS, hL_members, hL_services, hM⟩
  ·
   replace hM := hM.2 c_2
   refine HW.skip (thenQ_normal (?_))
   refine HW.seq ?_
   refine HW.region ?_
   refine oM (.int .i64 root) rfl rfl ?_
   refine oV (.agg #[.int .i64 root, .slice none 0 0]) (q_build tp_46 rfl) rfl ?_
   refine HO.eff (want_none) rfl (st_litEmpty (α := Int) encI hS tl_31) ?_
   rintro _ h_6 ⟨b_3, rfl, hS, hk⟩
   replace hK := hK.trans hk
   replace hL_members := hL_members.kp hk
   replace hL_services := hL_services.kp hk
   refine HO.eff (want_none) rfl (st_litEmpty (α := Int) encI hS tl_31) ?_
   rintro _ h_7 ⟨b_4, rfl, hS, hk⟩
   replace hK := hK.trans hk
   replace hL_members := hL_members.kp hk
   replace hL_services := hL_services.kp hk
   refine oM (vservices) rfl rfl ?_
   refine oM (.int .i64 r_1) rfl rfl ?_
   obtain ⟨ho_1, hM⟩ := hM
   refine oV (cutV 1 vservices (0 : Int).toNat (r_1).toNat) (q_slH ts_31 hL_services.is rfl rfl ho_1) rfl ?_
   obtain ⟨ho_2, hM⟩ := hM
   refine HO.eff (want_none) rfl (st_append te_31 hS (i := 0) rfl (cutIs hL_services.is 0 r_1 (Int.le_refl _) ho_1.1 ho_1.2) rfl rfl rfl (by intro a _ u hu; simp [encI, encI, encN, encB, encT] at hu; subst hu; rfl) ho_2 (by omega)) ?_
   rintro v_1 h_8 ⟨hS, hk⟩
   replace hS : St F_2 (Ow.own 3 1 encI v_1 (([] : List Int) ++ (cut services 0 r_1)) :: Ow.own 3 1 encI (.slice (some ⟨b_3, 0, none⟩) 0 0) ([] : List Int) :: Ow.box b_1 46 #[.int .i64 0, .slice none 0 0] :: fr) h_8 := hS
   replace hK := hK.trans hk
   replace hL_members := hL_members.kp hk
   replace hL_services := hL_services.kp hk
   refine oM (vmembers) rfl rfl ?_
   obtain ⟨ho_3, hM⟩ := hM
   refine HO.eff (want_none) rfl (st_append te_31 hS (i := 0) rfl hL_members.is rfl rfl rfl (by intro a _ u hu; simp [encI, encI, encN, encB, encT] at hu; subst hu; rfl) ho_3 (by omega)) ?_
   rintro v_2 h_9 ⟨hS, hk⟩
   replace hS : St F_2 (Ow.own 3 1 encI v_2 ((([] : List Int) ++ (cut services 0 r_1)) ++ members) :: Ow.own 3 1 encI (.slice (some ⟨b_3, 0, none⟩) 0 0) ([] : List Int) :: Ow.box b_1 46 #[.int .i64 0, .slice none 0 0] :: fr) h_9 := hS
   replace hK := hK.trans hk
   replace hL_members := hL_members.kp hk
   replace hL_services := hL_services.kp hk
   refine HO.eff (want_none) rfl (st_alloc (c := #[.int .i64 0, .slice none 0 0]) hS tz_46 rfl) ?_
   rintro _ h_10 ⟨b_5, rfl, hS, hk⟩
   replace hK := hK.trans hk
   replace hL_members := hL_members.kp hk
   replace hL_services := hL_services.kp hk
   refine HO.sto (want_none) rfl (st_storeAgg (c' := #[.int .i64 root, .slice none 0 0]) hS (i := 0) rfl ta_46 rfl rfl rfl (by simp [Value.oneCell']) (Nat.le_of_ble_eq_true rfl) rfl) ?_
   rintro h_11 ⟨hS, hk⟩
   replace hS : St F_2 (Ow.box b_5 46 #[.int .i64 root, .slice none 0 0] :: Ow.own 3 1 encI v_2 ((([] : List Int) ++ (cut services 0 r_1)) ++ members) :: Ow.own 3 1 encI (.slice (some ⟨b_3, 0, none⟩) 0 0) ([] : List Int) :: Ow.box b_1 46 #[.int .i64 0, .slice none 0 0] :: fr) h_11 := hS
   replace hK := hK.trans hk
   replace hL_members := hL_members.kp hk
   replace hL_services := hL_services.kp hk
   refine oA (.slice (some ⟨b_3, 0, none⟩) 0 0) rfl rfl ?_
   refine oA (v_2) rfl rfl ?_
   refine HO.nil (thenQ_normal (?_))
   refine HW.seq ?_
   refine HW.seq ?_
   refine HW.region ?_
   refine oA (.int .i64 0) rfl rfl ?_
   refine HO.nil (thenQ_normal (?_))
   refine HW.block ?_
   obtain ⟨I_1, m_1, hI_1, hR_1⟩ := hM
   replace hS : St F_2 (Ow.box b_1 46 #[.int .i64 0, .slice none 0 0] :: Ow.box b_5 46 #[.int .i64 root, .slice none 0 0] :: Ow.own 3 1 encI (.slice (some ⟨b_3, 0, none⟩) 0 0) ([] : List Int) :: Ow.own 3 1 encI v_2 ((([] : List Int) ++ (cut services 0 r_1)) ++ members) :: fr) h_11 := hS.perm2 [3, 0, 2, 1] 4 rfl rfl
   refine HW.loop (S := List Int × Int) (fun s f h => match s with | (places_1, i_1) => ∃ (F' : Fz) (vplaces_1 : Value), f 0 = .int .i64 root ∧ f 2 = vservices ∧ f 3 = .int .i64 fan ∧ f 8 = .pointer (some ⟨b_1, 0, none⟩) ∧ f 9 = .int .i64 r_1 ∧ f 10 = .pointer (some ⟨b_5, 0, none⟩) ∧ f 11 = vplaces_1 ∧ f 12 = v_2 ∧ f 13 = .int .i64 i_1 ∧ Kp F h0 F' h ∧ St F' (Ow.box b_1 46 #[.int .i64 0, .slice none 0 0] :: Ow.box b_5 46 #[.int .i64 root, .slice none 0 0] :: Ow.own 3 1 encI vplaces_1 places_1 :: Ow.own 3 1 encI v_2 ((([] : List Int) ++ (cut services 0 r_1)) ++ members) :: fr) h ∧ (SliceF F' h 1 encI vmembers members) ∧ (SliceF F' h 1 encI vservices services) ∧ I_1 (places_1, i_1)) m_1 ([], 0) ⟨F_2, .slice (some ⟨b_3, 0, none⟩) 0 0, rfl, rfl, rfl, rfl, rfl, rfl, rfl, rfl, rfl, hK, hS, hL_members, hL_services, hI_1⟩ ?_
   rintro ⟨places_1, i_1⟩ f_2 h_12 ⟨F_4, vplaces_1, e0, e2, e3, e8, e9, e10, e11, e12, e13, hK, hS, hL_members, hL_services, hI0⟩
   obtain ⟨K_1, hKe_1⟩ : ∃ K : (List Int) → Int → Prop, K = fun places_1' i_1' => I_1 (places_1', i_1') ∧ m_1 (places_1', i_1') < m_1 (places_1, i_1) := ⟨_, rfl⟩
   have hM : ref33_Make_l1 root members services fan Q r_1 K_1 places_1 i_1 := by rw [hKe_1]; exact hR_1 (places_1, i_1) hI0
   unfold ref33_Make_l1 at hM
   refine HW.fr [(0, .int .i64 root), (2, vservices), (3, .int .i64 fan), (8, .pointer (some ⟨b_1, 0, none⟩)), (9, .int .i64 r_1), (10, .pointer (some ⟨b_5, 0, none⟩)), (11, vplaces_1), (12, v_2), (13, .int .i64 i_1)] ⟨e0, e2, e3, e8, e9, e10, e11, e12, e13, trivial⟩ ?_
   refine HW.seq ?_
   refine HW.seq ?_
   refine HW.region ?_
   refine oM (.int .i64 i_1) rfl rfl ?_
   refine oM (.int .i64 fan) rfl rfl ?_
   refine oV (.bool (decide (i_1 < fan))) (q_lss rfl rfl) rfl ?_
   refine HO.nil (thenQ_normal (?_))
   refine HW.cond (decide (i_1 < fan)) rfl (fun c_3 => ?_) (fun c_3 => ?_)
   ·
    replace hM := hM.1 (of_decide_eq_true c_3)
    refine HW.skip (thenQ_normal (?_))
    refine HW.seq ?_
    refine HW.block ?_
    refine HW.region ?_
    refine oM (vplaces_1) rfl rfl ?_
    refine oM (.int .i64 root) rfl rfl ?_
    refine HO.eff (want_none) rfl (st_lit (enc := encI) (cells := #[.int .i64 root]) #[.int .i64 0] ([root] : List Int) hS tl_31 (by decide) (by decide) (by kernel_rfl) (by kernel_rfl) rfl (by intro x hx; rfl) rfl) ?_
    rintro _ h_13 ⟨b_6, rfl, hS, hk⟩
    replace hK := hK.trans hk
    replace hL_members := hL_members.kp hk
    replace hL_services := hL_services.kp hk
    obtain ⟨ho_4, hM⟩ := hM
    refine HO.eff (want_none) rfl (st_append te_31 hS (i := 3) rfl (hS.own 0 rfl).slice rfl rfl rfl (by intro a _ u hu; simp [encI, encI, encN, encB, encT] at hu; subst hu; rfl) ho_4 (by omega)) ?_
    rintro v_3 h_14 ⟨hS, hk⟩
    replace hS : St F_4 (Ow.own 3 1 encI (.slice (some ⟨b_6, 0, none⟩) 1 1) ([root] : List Int) :: Ow.box b_1 46 #[.int .i64 0, .slice none 0 0] :: Ow.box b_5 46 #[.int .i64 root, .slice none 0 0] :: Ow.own 3 1 encI v_3 (places_1 ++ ([root] : List Int)) :: Ow.own 3 1 encI v_2 ((([] : List Int) ++ (cut services 0 r_1)) ++ members) :: fr) h_14 := hS
    replace hK := hK.trans hk
    replace hL_members := hL_members.kp hk
    replace hL_services := hL_services.kp hk
    refine oA (v_3) rfl rfl ?_
    refine HO.nil (blockQ_normal (thenQ_normal (?_)))
    refine HW.region ?_
    refine oM (.int .i64 i_1) rfl rfl ?_
    obtain ⟨ho_5, hM⟩ := hM
    refine oV (.int .i64 (i_1 + 1)) (q_addN _ rfl rfl rfl ho_5.1 ho_5.2) rfl ?_
    refine oA (.int .i64 (i_1 + 1)) rfl rfl ?_
    refine HO.nil (thenQ_normal (?_))
    replace hS : St F_4 (Ow.box b_1 46 #[.int .i64 0, .slice none 0 0] :: Ow.box b_5 46 #[.int .i64 root, .slice none 0 0] :: Ow.own 3 1 encI v_3 (places_1 ++ ([root] : List Int)) :: Ow.own 3 1 encI v_2 ((([] : List Int) ++ (cut services 0 r_1)) ++ members) :: fr) h_14 := hS.perm2 [1, 2, 3, 4] 5 rfl rfl
    rw [hKe_1] at hM
    exact ⟨(places_1 ++ ([root] : List Int), i_1 + 1), ⟨F_4, v_3, rfl, rfl, rfl, rfl, rfl, rfl, rfl, rfl, rfl, hK, hS, hL_members, hL_services, hM.1⟩, hM.2⟩
   ·
    replace hM := hM.2 (of_decide_eq_false c_3)
    refine HW.exit (thenQ_exit (thenQ_exit (blockQ_exit (thenQ_normal (?_)))))
    refine HW.seq ?_
    refine HW.seq ?_
    refine HW.region ?_
    refine oA (.int .i64 0) rfl rfl ?_
    refine HO.nil (thenQ_normal (?_))
    refine HW.block ?_
    obtain ⟨I_2, m_2, hI_2, hR_2⟩ := hM
    refine HW.loop (S := List Int × Int) (fun s f h => match s with | (places_2, i_2) => ∃ (F' : Fz) (vplaces_2 : Value), f 2 = vservices ∧ f 3 = .int .i64 fan ∧ f 8 = .pointer (some ⟨b_1, 0, none⟩) ∧ f 9 = .int .i64 r_1 ∧ f 10 = .pointer (some ⟨b_5, 0, none⟩) ∧ f 11 = vplaces_2 ∧ f 12 = v_2 ∧ f 14 = .int .i64 i_2 ∧ Kp F h0 F' h ∧ St F' (Ow.box b_1 46 #[.int .i64 0, .slice none 0 0] :: Ow.box b_5 46 #[.int .i64 root, .slice none 0 0] :: Ow.own 3 1 encI vplaces_2 places_2 :: Ow.own 3 1 encI v_2 ((([] : List Int) ++ (cut services 0 r_1)) ++ members) :: fr) h ∧ (SliceF F' h 1 encI vmembers members) ∧ (SliceF F' h 1 encI vservices services) ∧ I_2 (places_2, i_2)) m_2 (places_1, 0) ⟨F_4, vplaces_1, rfl, rfl, rfl, rfl, rfl, rfl, rfl, rfl, hK, hS, hL_members, hL_services, hI_2⟩ ?_
    rintro ⟨places_2, i_2⟩ f_3 h_15 ⟨F_5, vplaces_2, e2, e3, e8, e9, e10, e11, e12, e14, hK, hS, hL_members, hL_services, hI0⟩
    obtain ⟨K_2, hKe_2⟩ : ∃ K : (List Int) → Int → Prop, K = fun places_2' i_2' => I_2 (places_2', i_2') ∧ m_2 (places_2', i_2') < m_2 (places_2, i_2) := ⟨_, rfl⟩
    have hM : ref33_Make_l2 root members services fan Q r_1 K_2 places_2 i_2 := by rw [hKe_2]; exact hR_2 (places_2, i_2) hI0
    unfold ref33_Make_l2 at hM
    refine HW.fr [(2, vservices), (3, .int .i64 fan), (8, .pointer (some ⟨b_1, 0, none⟩)), (9, .int .i64 r_1), (10, .pointer (some ⟨b_5, 0, none⟩)), (11, vplaces_2), (12, v_2), (14, .int .i64 i_2)] ⟨e2, e3, e8, e9, e10, e11, e12, e14, trivial⟩ ?_
    refine HW.seq ?_
    refine HW.seq ?_
    refine HW.region ?_
    refine oM (.int .i64 i_2) rfl rfl ?_
    refine oM (.int .i64 r_1) rfl rfl ?_
    refine oV (.bool (decide (i_2 < r_1))) (q_lss rfl rfl) rfl ?_
    refine HO.nil (thenQ_normal (?_))
    refine HW.cond (decide (i_2 < r_1)) rfl (fun c_4 => ?_) (fun c_4 => ?_)
    ·
     replace hM := hM.1 (of_decide_eq_true c_4)
     refine HW.skip (thenQ_normal (?_))
     refine HW.seq ?_
     refine HW.block ?_
     refine HW.seq ?_
     refine HW.region ?_
     refine oA (.int .i64 0) rfl rfl ?_
     refine HO.nil (thenQ_normal (?_))
     refine HW.block ?_
     obtain ⟨I_3, m_3, hI_3, hR_3⟩ := hM
     refine HW.loop (S := List Int × Int) (fun s f h => match s with | (places_3, j_2) => ∃ (F' : Fz) (vplaces_3 : Value), f 2 = vservices ∧ f 3 = .int .i64 fan ∧ f 8 = .pointer (some ⟨b_1, 0, none⟩) ∧ f 9 = .int .i64 r_1 ∧ f 10 = .pointer (some ⟨b_5, 0, none⟩) ∧ f 11 = vplaces_3 ∧ f 12 = v_2 ∧ f 14 = .int .i64 i_2 ∧ f 15 = .int .i64 j_2 ∧ Kp F h0 F' h ∧ St F' (Ow.box b_1 46 #[.int .i64 0, .slice none 0 0] :: Ow.box b_5 46 #[.int .i64 root, .slice none 0 0] :: Ow.own 3 1 encI vplaces_3 places_3 :: Ow.own 3 1 encI v_2 ((([] : List Int) ++ (cut services 0 r_1)) ++ members) :: fr) h ∧ (SliceF F' h 1 encI vmembers members) ∧ (SliceF F' h 1 encI vservices services) ∧ I_3 (places_3, j_2)) m_3 (places_2, 0) ⟨F_5, vplaces_2, rfl, rfl, rfl, rfl, rfl, rfl, rfl, rfl, rfl, hK, hS, hL_members, hL_services, hI_3⟩ ?_
     rintro ⟨places_3, j_2⟩ f_4 h_16 ⟨F_6, vplaces_3, e2, e3, e8, e9, e10, e11, e12, e14, e15, hK, hS, hL_members, hL_services, hI0⟩
     obtain ⟨K_3, hKe_3⟩ : ∃ K : (List Int) → Int → Prop, K = fun places_3' j_2' => I_3 (places_3', j_2') ∧ m_3 (places_3', j_2') < m_3 (places_3, j_2) := ⟨_, rfl⟩
     have hM : ref33_Make_l3 services fan i_2 K_2 K_3 places_3 j_2 := by rw [hKe_3]; exact hR_3 (places_3, j_2) hI0
     unfold ref33_Make_l3 at hM
     refine HW.fr [(2, vservices), (3, .int .i64 fan), (8, .pointer (some ⟨b_1, 0, none⟩)), (9, .int .i64 r_1), (10, .pointer (some ⟨b_5, 0, none⟩)), (11, vplaces_3), (12, v_2), (14, .int .i64 i_2), (15, .int .i64 j_2)] ⟨e2, e3, e8, e9, e10, e11, e12, e14, e15, trivial⟩ ?_
     refine HW.seq ?_
     refine HW.seq ?_
     refine HW.region ?_
     refine oM (.int .i64 j_2) rfl rfl ?_
     refine oM (.int .i64 fan) rfl rfl ?_
     refine oV (.bool (decide (j_2 < fan))) (q_lss rfl rfl) rfl ?_
     refine HO.nil (thenQ_normal (?_))
     refine HW.cond (decide (j_2 < fan)) rfl (fun c_5 => ?_) (fun c_5 => ?_)
     ·
      replace hM := hM.1 (of_decide_eq_true c_5)
      refine HW.skip (thenQ_normal (?_))
      refine HW.seq ?_
      refine HW.block ?_
      refine HW.region ?_
      refine oM (vplaces_3) rfl rfl ?_
      refine oM (vservices) rfl rfl ?_
      refine oM (.int .i64 i_2) rfl rfl ?_
      obtain ⟨ho_6, hM⟩ := hM
      refine oV (elemPtr 1 vservices (i_2).toNat) (q_idx ts_31 hL_services.is rfl rfl ho_6) rfl ?_
      refine oV (.int .i64 (gi services i_2)) (q_ldElem to_3 hL_services.is rfl ho_6 rfl) rfl ?_
      refine HO.eff (want_none) rfl (st_lit (enc := encI) (cells := #[.int .i64 (gi services i_2)]) #[.int .i64 0] ([(gi services i_2)] : List Int) hS tl_31 (by decide) (by decide) (by kernel_rfl) (by kernel_rfl) rfl (by intro x hx; rfl) rfl) ?_
      rintro _ h_17 ⟨b_7, rfl, hS, hk⟩
      replace hK := hK.trans hk
      replace hL_members := hL_members.kp hk
      replace hL_services := hL_services.kp hk
      obtain ⟨ho_7, hM⟩ := hM
      refine HO.eff (want_none) rfl (st_append te_31 hS (i := 3) rfl (hS.own 0 rfl).slice rfl rfl rfl (by intro a _ u hu; simp [encI, encI, encN, encB, encT] at hu; subst hu; rfl) ho_7 (by omega)) ?_
      rintro v_4 h_18 ⟨hS, hk⟩
      replace hS : St F_6 (Ow.own 3 1 encI (.slice (some ⟨b_7, 0, none⟩) 1 1) ([(gi services i_2)] : List Int) :: Ow.box b_1 46 #[.int .i64 0, .slice none 0 0] :: Ow.box b_5 46 #[.int .i64 root, .slice none 0 0] :: Ow.own 3 1 encI v_4 (places_3 ++ ([(gi services i_2)] : List Int)) :: Ow.own 3 1 encI v_2 ((([] : List Int) ++ (cut services 0 r_1)) ++ members) :: fr) h_18 := hS
      replace hK := hK.trans hk
      replace hL_members := hL_members.kp hk
      replace hL_services := hL_services.kp hk
      refine oA (v_4) rfl rfl ?_
      refine HO.nil (blockQ_normal (thenQ_normal (?_)))
      refine HW.region ?_
      refine oM (.int .i64 j_2) rfl rfl ?_
      obtain ⟨ho_8, hM⟩ := hM
      refine oV (.int .i64 (j_2 + 1)) (q_addN _ rfl rfl rfl ho_8.1 ho_8.2) rfl ?_
      refine oA (.int .i64 (j_2 + 1)) rfl rfl ?_
      refine HO.nil (thenQ_normal (?_))
      replace hS : St F_6 (Ow.box b_1 46 #[.int .i64 0, .slice none 0 0] :: Ow.box b_5 46 #[.int .i64 root, .slice none 0 0] :: Ow.own 3 1 encI v_4 (places_3 ++ ([(gi services i_2)] : List Int)) :: Ow.own 3 1 encI v_2 ((([] : List Int) ++ (cut services 0 r_1)) ++ members) :: fr) h_18 := hS.perm2 [1, 2, 3, 4] 5 rfl rfl
      rw [hKe_3] at hM
      exact ⟨(places_3 ++ ([(gi services i_2)] : List Int), j_2 + 1), ⟨F_6, v_4, rfl, rfl, rfl, rfl, rfl, rfl, rfl, rfl, rfl, hK, hS, hL_members, hL_services, hM.1⟩, hM.2⟩
     ·
      replace hM := hM.2 (of_decide_eq_false c_5)
      refine HW.exit (thenQ_exit (thenQ_exit (blockQ_exit (blockQ_normal (thenQ_normal (?_))))))
      refine HW.region ?_
      refine oM (.int .i64 i_2) rfl rfl ?_
      obtain ⟨ho_9, hM⟩ := hM
      refine oV (.int .i64 (i_2 + 1)) (q_addN _ rfl rfl rfl ho_9.1 ho_9.2) rfl ?_
      refine oA (.int .i64 (i_2 + 1)) rfl rfl ?_
      refine HO.nil (thenQ_normal (?_))
      rw [hKe_2] at hM
      exact ⟨(places_3, i_2 + 1), ⟨F_6, vplaces_3, rfl, rfl, rfl, rfl, rfl, rfl, rfl, rfl, hK, hS, hL_members, hL_services, hM.1⟩, hM.2⟩
    ·
     replace hM := hM.2 (of_decide_eq_false c_4)
     refine HW.exit (thenQ_exit (thenQ_exit (blockQ_exit (thenQ_normal (?_)))))
     refine HW.seq ?_
     refine HW.seq ?_
     refine HW.region ?_
     refine oA (.int .i64 0) rfl rfl ?_
     refine HO.nil (thenQ_normal (?_))
     refine HW.block ?_
     obtain ⟨I_4, m_4, hI_4, hR_4⟩ := hM
     replace hS := hS.nilOwn 67 2 e_api_Branch
     replace hS : St F_5 (Ow.box b_1 46 #[.int .i64 0, .slice none 0 0] :: Ow.box b_5 46 #[.int .i64 root, .slice none 0 0] :: Ow.own 67 2 e_api_Branch (.slice none 0 0) ([] : List T_api_Branch) :: Ow.own 3 1 encI vplaces_2 places_2 :: Ow.own 3 1 encI v_2 ((([] : List Int) ++ (cut services 0 r_1)) ++ members) :: fr) h_15 := hS.perm2 [1, 2, 0, 3, 4] 5 rfl rfl
     refine HW.loop (S := List T_api_Branch × Int) (fun s f h => match s with | (t_1_1, i_3) => ∃ (F' : Fz) (vt_1_1 : Value), f 8 = .pointer (some ⟨b_1, 0, none⟩) ∧ f 10 = .pointer (some ⟨b_5, 0, none⟩) ∧ f 11 = vplaces_2 ∧ f 12 = v_2 ∧ f 16 = .int .i64 i_3 ∧ Kp F h0 F' h ∧ St F' (Ow.box b_1 46 #[.int .i64 0, .slice none 0 0] :: Ow.box b_5 46 #[.int .i64 root, vt_1_1] :: Ow.own 67 2 e_api_Branch vt_1_1 t_1_1 :: Ow.own 3 1 encI vplaces_2 places_2 :: Ow.own 3 1 encI v_2 ((([] : List Int) ++ (cut services 0 r_1)) ++ members) :: fr) h ∧ (SliceF F' h 1 encI vmembers members) ∧ (SliceF F' h 1 encI vservices services) ∧ I_4 (t_1_1, i_3)) m_4 ([], 0) ⟨F_5, .slice none 0 0, rfl, rfl, rfl, rfl, rfl, hK, hS, hL_members, hL_services, hI_4⟩ ?_
     rintro ⟨t_1_1, i_3⟩ f_5 h_19 ⟨F_7, vt_1_1, e8, e10, e11, e12, e16, hK, hS, hL_members, hL_services, hI0⟩
     obtain ⟨K_4, hKe_4⟩ : ∃ K : (List T_api_Branch) → Int → Prop, K = fun t_1_1' i_3' => I_4 (t_1_1', i_3') ∧ m_4 (t_1_1', i_3') < m_4 (t_1_1, i_3) := ⟨_, rfl⟩
     have hM : ref33_Make_l4 root members services Q r_1 places_2 K_4 t_1_1 i_3 := by rw [hKe_4]; exact hR_4 (t_1_1, i_3) hI0
     unfold ref33_Make_l4 at hM
     refine HW.fr [(8, .pointer (some ⟨b_1, 0, none⟩)), (10, .pointer (some ⟨b_5, 0, none⟩)), (11, vplaces_2), (12, v_2), (16, .int .i64 i_3)] ⟨e8, e10, e11, e12, e16, trivial⟩ ?_
     refine HW.seq ?_
     refine HW.seq ?_
     refine HW.region ?_
     refine oM (.int .i64 i_3) rfl rfl ?_
     refine oM (v_2) rfl rfl ?_
     refine oV (.int .i64 (((([] : List Int) ++ (cut services 0 r_1)) ++ members).length : Int)) (q_len ts_31 (shp (hS.own 4 rfl).slice) rfl rfl) rfl ?_
     refine oV (.bool (decide (i_3 < (((([] : List Int) ++ (cut services 0 r_1)) ++ members).length : Int)))) (q_lss rfl rfl) rfl ?_
     refine HO.nil (thenQ_normal (?_))
     refine HW.cond (decide (i_3 < (((([] : List Int) ++ (cut services 0 r_1)) ++ members).length : Int))) rfl (fun c_6 => ?_) (fun c_6 => ?_)
     ·
      replace hM := hM.1 (of_decide_eq_true c_6)
      refine HW.skip (thenQ_normal (?_))
      refine HW.seq ?_
      refine HW.block ?_
      refine HW.regionA 15 mixed (fun h => (OwnIs h 0 3 1 encI vplaces_2 places_2) ∧ (OwnIs h 0 3 1 encI v_2 ((([] : List Int) ++ (cut services 0 r_1)) ++ members))) [(14, fun h => (Blk h b_5 (.cells #[.int .i64 root, vt_1_1] 46 (0, 0))))] (by kernel_rfl) ?_
      refine HA.val (k := 0) (v := .pointer (some ⟨b_5, 1, none⟩)) rfl rfl (by kernel_rfl) (by kernel_rfl) (want_none) rfl (fun _ ⟨c568, c569⟩ => q_fieldAddr fa_46_1 rfl rfl) ?_
      refine Go.Wk.HA.valN (k := 1) (v := vt_1_1) 0 14 (fun h => (Blk h b_5 (.cells #[.int .i64 root, vt_1_1] 46 (0, 0)))) rfl rfl (by kernel_rfl) (by kernel_rfl) (want_none) rfl rfl (by kernel_rfl) (fun _ ⟨c568, c569⟩ c566 => q_load to_44 rfl (Blk.cell c566 rfl)) ?_
      refine HA.val (k := 2) (v := vplaces_2) rfl rfl (by kernel_rfl) (by kernel_rfl) (want_none) rfl (fun _ ⟨c568, c569⟩ => q_move rfl) ?_
      refine HA.val (k := 3) (v := .int .i64 i_3) rfl rfl (by kernel_rfl) (by kernel_rfl) (want_none) rfl (fun _ ⟨c568, c569⟩ => q_move rfl) ?_
      obtain ⟨ho_10, hM⟩ := hM
      refine HA.val (k := 4) (v := elemPtr 1 vplaces_2 (i_3).toNat) rfl rfl (by kernel_rfl) (by kernel_rfl) (want_none) rfl (fun _ ⟨c568, c569⟩ => q_idx ts_31 c568.slice rfl rfl ho_10) ?_
      refine HA.val (k := 5) (v := .int .i64 (gi places_2 i_3)) rfl rfl (by kernel_rfl) (by kernel_rfl) (want_none) rfl (fun _ ⟨c568, c569⟩ => q_ldElem to_3 c568.slice rfl ho_10 rfl) ?_
      refine HA.val (k := 6) (v := v_2) rfl rfl (by kernel_rfl) (by kernel_rfl) (want_none) rfl (fun _ ⟨c568, c569⟩ => q_move rfl) ?_
      refine HA.val (k := 7) (v := .int .i64 i_3) rfl rfl (by kernel_rfl) (by kernel_rfl) (want_none) rfl (fun _ ⟨c568, c569⟩ => q_move rfl) ?_
      obtain ⟨ho_11, hM⟩ := hM
      refine HA.val (k := 8) (v := elemPtr 1 v_2 (i_3).toNat) rfl rfl (by kernel_rfl) (by kernel_rfl) (want_none) rfl (fun _ ⟨c568, c569⟩ => q_idx ts_31 c569.slice rfl rfl ho_11) ?_
      refine HA.val (k := 9) (v := .int .i64 (gi ((([] : List Int) ++ (cut services 0 r_1)) ++ members) i_3)) rfl rfl (by kernel_rfl) (by kernel_rfl) (want_none) rfl (fun _ ⟨c568, c569⟩ => q_ldElem to_3 c569.slice rfl ho_11 rfl) ?_
      refine HA.val (k := 10) (v := .agg #[.int .i64 (gi places_2 i_3), .int .i64 (gi ((([] : List Int) ++ (cut services 0 r_1)) ++ members) i_3)]) rfl rfl (by kernel_rfl) (by kernel_rfl) (want_none) rfl (fun _ ⟨c568, c569⟩ => q_build tp_67 rfl) ?_
      refine HA.one (k := 11) ⟨⟨(hS.own 3 rfl), (hS.own 4 rfl)⟩, (at_now (hS.box 1 rfl) (Go.Wk.at_nil _ _))⟩ (by kernel_rfl) ?_
      refine HS.eff rfl (want_none) rfl (st_lit (enc := e_api_Branch) (cells := #[.int .i64 (gi places_2 i_3), .int .i64 (gi ((([] : List Int) ++ (cut services 0 r_1)) ++ members) i_3)]) #[.int .i64 0, .int .i64 0] ([((gi places_2 i_3), (gi ((([] : List Int) ++ (cut services 0 r_1)) ++ members) i_3))] : List T_api_Branch) hS tl_44 (by decide) (by decide) (by kernel_rfl) (by kernel_rfl) rfl (by intro x hx; rfl) rfl) ?_
      rintro _ h_20 ⟨b_8, rfl, hS, hk⟩
      replace hK := hK.trans hk
      replace hL_members := hL_members.kp hk
      replace hL_services := hL_services.kp hk
      refine HA.one (k := 12) ⟨⟨(hS.own 4 rfl), (hS.own 5 rfl)⟩, (at_now (hS.box 2 rfl) (Go.Wk.at_nil _ _))⟩ (by kernel_rfl) ?_
      obtain ⟨ho_12, hM⟩ := hM
      refine HS.eff rfl (want_none) rfl (st_append te_44 hS (i := 3) rfl (hS.own 0 rfl).slice rfl rfl rfl (by intro a _ u hu; simp [e_api_Branch, encI, encN, encB, encT] at hu; rcases hu with rfl | rfl <;> rfl) ho_12 (by omega)) ?_
      rintro v_5 h_21 ⟨hS, hk⟩
      replace hS : St F_7 (Ow.own 67 2 e_api_Branch (.slice (some ⟨b_8, 0, none⟩) 1 1) ([((gi places_2 i_3), (gi ((([] : List Int) ++ (cut services 0 r_1)) ++ members) i_3))] : List T_api_Branch) :: Ow.box b_1 46 #[.int .i64 0, .slice none 0 0] :: Ow.box b_5 46 #[.int .i64 root, vt_1_1] :: Ow.own 67 2 e_api_Branch v_5 (t_1_1 ++ ([((gi places_2 i_3), (gi ((([] : List Int) ++ (cut services 0 r_1)) ++ members) i_3))] : List T_api_Branch)) :: Ow.own 3 1 encI vplaces_2 places_2 :: Ow.own 3 1 encI v_2 ((([] : List Int) ++ (cut services 0 r_1)) ++ members) :: fr) h_21 := hS
      replace hK := hK.trans hk
      replace hL_members := hL_members.kp hk
      replace hL_services := hL_services.kp hk
      refine HA.val (k := 13) (v := .pointer (some ⟨b_5, 1, none⟩)) rfl rfl (by kernel_rfl) (by kernel_rfl) (want_none) rfl (fun _ ⟨c568, c569⟩ => q_fieldAddr fa_46_1 rfl rfl) ?_
      refine HA.one (k := 14) ⟨⟨(hS.own 4 rfl), (hS.own 5 rfl)⟩, (at_now (hS.box 2 rfl) (Go.Wk.at_nil _ _))⟩ (by kernel_rfl) ?_
      refine HS.sto rfl (want_none) rfl (st_store (c' := #[.int .i64 root, v_5]) hS (i := 2) rfl to_44 rfl rfl (shp (hS.own 3 rfl).slice).cells (shp (hS.own 3 rfl).slice).one (Nat.le_of_ble_eq_true rfl) rfl) ?_
      rintro h_22 ⟨hS, hk⟩
      replace hS : St F_7 (Ow.own 67 2 e_api_Branch (.slice (some ⟨b_8, 0, none⟩) 1 1) ([((gi places_2 i_3), (gi ((([] : List Int) ++ (cut services 0 r_1)) ++ members) i_3))] : List T_api_Branch) :: Ow.box b_1 46 #[.int .i64 0, .slice none 0 0] :: Ow.box b_5 46 #[.int .i64 root, v_5] :: Ow.own 67 2 e_api_Branch v_5 (t_1_1 ++ ([((gi places_2 i_3), (gi ((([] : List Int) ++ (cut services 0 r_1)) ++ members) i_3))] : List T_api_Branch)) :: Ow.own 3 1 encI vplaces_2 places_2 :: Ow.own 3 1 encI v_2 ((([] : List Int) ++ (cut services 0 r_1)) ++ members) :: fr) h_22 := hS
      replace hK := hK.trans hk
      replace hL_members := hL_members.kp hk
      replace hL_services := hL_services.kp hk
      refine HA.nil ⟨⟨(hS.own 4 rfl), (hS.own 5 rfl)⟩, (at_done (by kernel_rfl) (Go.Wk.at_nil _ _))⟩ (by kernel_rfl) (blockQ_normal (thenQ_normal (?_)))
      refine HW.region ?_
      refine oM (.int .i64 i_3) rfl rfl ?_
      obtain ⟨ho_13, hM⟩ := hM
      refine oV (.int .i64 (i_3 + 1)) (q_addN _ rfl rfl rfl ho_13.1 ho_13.2) rfl ?_
      refine oA (.int .i64 (i_3 + 1)) rfl rfl ?_
      refine HO.nil (thenQ_normal (?_))
      replace hS : St F_7 (Ow.box b_1 46 #[.int .i64 0, .slice none 0 0] :: Ow.box b_5 46 #[.int .i64 root, v_5] :: Ow.own 67 2 e_api_Branch v_5 (t_1_1 ++ ([((gi places_2 i_3), (gi ((([] : List Int) ++ (cut services 0 r_1)) ++ members) i_3))] : List T_api_Branch)) :: Ow.own 3 1 encI vplaces_2 places_2 :: Ow.own 3 1 encI v_2 ((([] : List Int) ++ (cut services 0 r_1)) ++ members) :: fr) h_22 := hS.perm2 [1, 2, 3, 4, 5] 6 rfl rfl
      rw [hKe_4] at hM
      exact ⟨(t_1_1 ++ ([((gi places_2 i_3), (gi ((([] : List Int) ++ (cut services 0 r_1)) ++ members) i_3))] : List T_api_Branch), i_3 + 1), ⟨F_7, v_5, rfl, rfl, rfl, rfl, rfl, hK, hS, hL_members, hL_services, hM.1⟩, hM.2⟩
     ·
      replace hM := hM.2 (of_decide_eq_false c_6)
      refine HW.exit (thenQ_exit (thenQ_exit (blockQ_exit (thenQ_normal (?_)))))
      refine HW.seq ?_
      refine HW.region ?_
      refine oV (.pointer (some ⟨b_5, 1, none⟩)) (q_fieldAddr fa_46_1 rfl rfl) rfl ?_
      refine oV (vt_1_1) (q_load to_44 rfl (Blk.cell (hS.box 1 rfl) rfl)) rfl ?_
      replace hS : St F_7 (Ow.own 67 2 e_api_Branch vt_1_1 t_1_1 :: Ow.box b_1 46 #[.int .i64 0, .slice none 0 0] :: Ow.box b_5 46 #[.int .i64 root, vt_1_1] :: Ow.own 3 1 encI vplaces_2 places_2 :: Ow.own 3 1 encI v_2 ((([] : List Int) ++ (cut services 0 r_1)) ++ members) :: fr) h_19 := hS.perm2 [2, 0, 1, 3, 4] 5 rfl rfl
      have hZ_1 := hS
      have hkz_1 := (hS.freeze).2
      replace hS := hS.freeze.1
      have hL_1 : SliceF (fun bz_ => F_7 bz_ ∨ (Ow.own 67 2 e_api_Branch vt_1_1 t_1_1).foot bz_) h_19 2 e_api_Branch vt_1_1 t_1_1 := ⟨(hZ_1.own 0 rfl).slice, fun _ b hb => .inr hb⟩
      refine HO.call (want_none) rfl (ec en_43 rfl rfl) (ref32_Sorted_walk (fr := (Ow.box b_1 46 #[.int .i64 0, .slice none 0 0] :: Ow.box b_5 46 #[.int .i64 root, vt_1_1] :: Ow.own 3 1 encI vplaces_2 places_2 :: Ow.own 3 1 encI v_2 ((([] : List Int) ++ (cut services 0 r_1)) ++ members) :: fr)) t_1_1 vt_1_1 hS hL_1 hM) ?_
      rintro vr_1 h_23 ⟨F_8, r_2, _, rfl, hk, hS, _, hM⟩
      obtain ⟨hS, hk⟩ := hZ_1.back hk hS
      generalize (fun bz_ => F_8 bz_ ∧ ¬ (Ow.own 67 2 e_api_Branch vt_1_1 t_1_1).foot bz_) = F_9 at hS hk
      replace hK := hK.trans hk
      replace hL_members := hL_members.kp hk
      replace hL_services := hL_services.kp hk
      refine oV (.pointer (some ⟨b_5, 1, none⟩)) (q_fieldAddr fa_46_1 rfl rfl) rfl ?_
      refine HO.sto (want_none) rfl (st_store (c' := #[.int .i64 root, vr_1]) hS (i := 3) rfl to_44 rfl rfl (shp (hS.own 1 rfl).slice).cells (shp (hS.own 1 rfl).slice).one (Nat.le_of_ble_eq_true rfl) rfl) ?_
      rintro h_24 ⟨hS, hk⟩
      replace hS : St F_9 (Ow.own 67 2 e_api_Branch vt_1_1 t_1_1 :: Ow.own 67 2 e_api_Branch vr_1 r_2 :: Ow.box b_1 46 #[.int .i64 0, .slice none 0 0] :: Ow.box b_5 46 #[.int .i64 root, vr_1] :: Ow.own 3 1 encI vplaces_2 places_2 :: Ow.own 3 1 encI v_2 ((([] : List Int) ++ (cut services 0 r_1)) ++ members) :: fr) h_24 := hS
      replace hK := hK.trans hk
      replace hL_members := hL_members.kp hk
      replace hL_services := hL_services.kp hk
      refine HO.nil (thenQ_normal (?_))
      refine HW.seq ?_
      refine HW.region ?_
      refine oV (.agg #[.int .i64 root, vr_1]) (q_loadAgg (cs := [.int .i64 root, vr_1]) ta_46 rfl rfl (Blk.cells (k := 2) (hS.box 3 rfl) rfl)) rfl ?_
      refine HO.sto (want_none) rfl (st_storeAgg (c' := #[.int .i64 root, vr_1]) hS (i := 2) rfl ta_46 rfl rfl rfl (List.forall_mem_cons.2 ⟨rfl, (List.forall_mem_cons.2 ⟨(shp (hS.own 1 rfl).slice).one, (fun _ h => by cases h)⟩)⟩) (Nat.le_of_ble_eq_true rfl) rfl) ?_
      rintro h_25 ⟨hS, hk⟩
      replace hS : St F_9 (Ow.own 67 2 e_api_Branch vt_1_1 t_1_1 :: Ow.own 67 2 e_api_Branch vr_1 r_2 :: Ow.box b_1 46 #[.int .i64 root, vr_1] :: Ow.box b_5 46 #[.int .i64 root, vr_1] :: Ow.own 3 1 encI vplaces_2 places_2 :: Ow.own 3 1 encI v_2 ((([] : List Int) ++ (cut services 0 r_1)) ++ members) :: fr) h_25 := hS
      replace hK := hK.trans hk
      replace hL_members := hL_members.kp hk
      replace hL_services := hL_services.kp hk
      refine HO.nil (thenQ_normal (?_))
      refine HW.ret (?_)
      refine ⟨.inr rfl, .agg #[.int .i64 root, vr_1], res1 rfl (rca (cs := [.int .i64 root, vr_1]) ta_46 rfl rfl (Blk.cells (k := 2) (hS.box 2 rfl) rfl)), ?_⟩
      replace hS : St F_9 (Ow.own 67 2 e_api_Branch vr_1 r_2 :: fr) h_25 := hS.perm2 [1] 6 rfl rfl
      exact ⟨F_9, root, r_2, vr_1, rfl, hK, hS, hL_members, hL_services, hM⟩

def tree_Good_W (t_Root : Int) (t_Links : List T_api_Branch) (Q : Bool → Prop) : Prop :=
 tree_good_W t_Root t_Links (fun r_2 => Q r_2)
set_option maxHeartbeats 40000000 in
set_option maxRecDepth 100000 in
theorem tree_Good_walk {F : Fz} {fr : List Ow} {h0 : Heap} (t_Root : Int) (t_Links : List T_api_Branch) (vt_Links : Value) (hS : St F (fr) h0) (hL_t_Links : SliceF F h0 2 e_api_Branch vt_Links t_Links) {Q : Bool → Prop} (hM : tree_Good_W t_Root t_Links Q) :
  HC Try.prog 44 #[.agg #[.int .i64 t_Root, vt_Links]] h0 fun u h' => ∃ (F' : Fz) (r_1 : Bool), u = .bool r_1 ∧ Kp F h0 F' h' ∧ St F' (fr) h' ∧ (SliceF F' h' 2 e_api_Branch vt_Links t_Links) ∧ Q r_1 := by
 unfold tree_Good_W at hM
 have hK := Kp.refl F h0
 refine HC.of_HW (n := 5) Try.func44 rfl rfl (Nat.le_of_ble_eq_true rfl) ?_
 refine HW.seq ?_
 refine HW.region ?_
 refine HO.eff (want_none) rfl (st_box (c := #[.int .i64 t_Root, vt_Links]) (k' := 2) hS rfl rfl) ?_
 rintro _ h_1 ⟨b_1, rfl, hS, hk⟩
 replace hK := hK.trans hk
 replace hL_t_Links := hL_t_Links.kp hk
 refine oA (.bool false) rfl rfl ?_
 refine HO.nil (thenQ_normal (?_))
 refine HW.seq ?_
 refine HW.region ?_
 refine oV (.agg #[.int .i64 t_Root, vt_Links]) (q_loadAgg (cs := [.int .i64 t_Root, vt_Links]) ta_46 rfl rfl (Blk.cells (k := 2) (hS.box 0 rfl) rfl)) rfl ?_
 refine HO.call (want_none) rfl (ec en_67 rfl rfl) (tree_good_walk (fr := (Ow.box b_1 46 #[.int .i64 t_Root, vt_Links] :: fr)) t_Root t_Links vt_Links hS hL_t_Links hM) ?_
 rintro _ h_2 ⟨F_1, r_2, rfl, hk, hS, _, hM⟩
 replace hK := hK.trans hk
 replace hL_t_Links := hL_t_Links.kp hk
 refine oA (.bool r_2) rfl rfl ?_
 refine HO.nil (thenQ_normal (?_))
 refine HW.ret (?_)
 refine ⟨.inr rfl, .bool r_2, res1 rfl (rt rfl), ?_⟩
 replace hS : St F_1 (fr) h_2 := hS.perm2 [] 1 rfl rfl
 exact ⟨F_1, r_2, rfl, hK, hS, hL_t_Links, hM⟩

def plan_rising_l1 (l : List Int) (Q : Bool → Prop) (K_1 : Int → Prop) (n_1 : Int) : Prop :=
 (n_1 < (l.length : Int) → (0 < n_1 → (I64 (n_1 - 1)) ∧ (((0 : Int) ≤ n_1 - 1 ∧ n_1 - 1 < (l.length : Int)) ∧ (((0 : Int) ≤ n_1 ∧ n_1 < (l.length : Int)) ∧ (((gi l n_1) ≤ (gi l (n_1 - 1)) → Q false) ∧ (¬ ((gi l n_1) ≤ (gi l (n_1 - 1))) → (I64 (n_1 + 1)) ∧ (K_1 (n_1 + 1))))))) ∧ (¬ (0 < n_1) → (I64 (n_1 + 1)) ∧ (K_1 (n_1 + 1)))) ∧ (¬ (n_1 < (l.length : Int)) → Q true)
def plan_rising_W (l : List Int) (Q : Bool → Prop) : Prop :=
 loopW (fun (K_1 : Int → Prop) (s : Int) => plan_rising_l1 l Q K_1 s) 0
set_option maxHeartbeats 40000000 in
set_option maxRecDepth 100000 in
theorem plan_rising_walk {F : Fz} {fr : List Ow} {h0 : Heap} (l : List Int) (vl : Value) (hS : St F (fr) h0) (hL_l : SliceF F h0 1 encI vl l) {Q : Bool → Prop} (hM : plan_rising_W l Q) :
  HC Try.prog 45 #[vl] h0 fun u h' => ∃ (F' : Fz) (r_1 : Bool), u = .bool r_1 ∧ Kp F h0 F' h' ∧ St F' (fr) h' ∧ (SliceF F' h' 1 encI vl l) ∧ Q r_1 := by
 unfold plan_rising_W at hM
 have hK := Kp.refl F h0
 refine HC.of_HW (n := 24) Try.func45 rfl rfl (Nat.le_of_ble_eq_true rfl) ?_
 refine HW.seq ?_
 refine HW.region ?_
 refine oA (.bool false) rfl rfl ?_
 refine HO.nil (thenQ_normal (?_))
 refine HW.seq ?_
 refine HW.seq ?_
 refine HW.region ?_
 refine oM (vl) rfl rfl ?_
 refine oV (.int .i64 (l.length : Int)) (q_len ts_31 (shp hL_l.is) rfl rfl) rfl ?_
 refine oM (.int .i64 0) rfl rfl ?_
 refine HO.nil (thenQ_normal (?_))
 refine HW.block ?_
 obtain ⟨I_1, m_1, hI_1, hR_1⟩ := hM
 refine HW.loop (S := Int) (fun n_1 f h => ∃ (F' : Fz), f 0 = vl ∧ f 2 = .bool false ∧ f 5 = .int .i64 (l.length : Int) ∧ f 6 = .int .i64 n_1 ∧ Kp F h0 F' h ∧ St F' (fr) h ∧ (SliceF F' h 1 encI vl l) ∧ I_1 n_1) m_1 0 ⟨F, rfl, rfl, rfl, rfl, hK, hS, hL_l, hI_1⟩ ?_
 rintro n_1 f_1 h_1 ⟨F_1, e0, e2, e5, e6, hK, hS, hL_l, hI0⟩
 obtain ⟨K_1, hKe_1⟩ : ∃ K : Int → Prop, K = fun n_1' => I_1 n_1' ∧ m_1 n_1' < m_1 n_1 := ⟨_, rfl⟩
 have hM : plan_rising_l1 l Q K_1 n_1 := by rw [hKe_1]; exact hR_1 n_1 hI0
 unfold plan_rising_l1 at hM
 refine HW.fr [(0, vl), (2, .bool false), (5, .int .i64 (l.length : Int)), (6, .int .i64 n_1)] ⟨e0, e2, e5, e6, trivial⟩ ?_
 refine HW.seq ?_
 refine HW.region ?_
 refine oV (.bool (decide (n_1 < (l.length : Int)))) (q_lss rfl rfl) rfl ?_
 refine HO.nil (thenQ_normal (?_))
 refine HW.seq ?_
 refine HW.cond (decide (n_1 < (l.length : Int))) rfl (fun c_1 => ?_) (fun c_1 => ?_)
 ·
  replace hM := hM.1 (of_decide_eq_true c_1)
  refine HW.skip (thenQ_normal (?_))
  refine HW.seq ?_
  refine HW.block ?_
  refine HW.seq ?_
  refine HW.region ?_
  refine oM (.int .i64 n_1) rfl rfl ?_
  refine oA (.int .i64 n_1) rfl rfl ?_
  refine HO.nil (thenQ_normal (?_))
  refine HW.seq ?_
  refine HW.regionA 14 mixed (fun h => (SliceIs h 1 encI vl l)) [] (by kernel_rfl) ?_
  refine HA.val (k := 0) (v := .int .i64 n_1) rfl rfl (by kernel_rfl) (by kernel_rfl) (want_none) rfl (fun _ hL_l => q_move rfl) ?_
  refine HA.val (k := 1) (v := .bool (decide (0 < n_1))) rfl rfl (by kernel_rfl) (by kernel_rfl) (want_none) rfl (fun _ hL_l => q_gtr rfl rfl) ?_
  refine HA.val (k := 2) (v := .bool (decide (0 < n_1))) rfl rfl (by kernel_rfl) (by kernel_rfl) (want_none) rfl (fun _ hL_l => q_move rfl) ?_
  rcases Bool.eq_false_or_eq_true (decide (0 < n_1)) with c_2 | c_2
  ·
   replace hM := hM.1 (of_decide_eq_true c_2)
   refine HA.val (k := 3) (v := vl) rfl rfl (by kernel_rfl) (by kernel_rfl) (want_by rfl rfl c_2) rfl (fun _ hL_l => q_move rfl) ?_
   refine HA.val (k := 4) (v := .int .i64 n_1) rfl rfl (by kernel_rfl) (by kernel_rfl) (want_by rfl rfl c_2) rfl (fun _ hL_l => q_move rfl) ?_
   obtain ⟨ho_1, hM⟩ := hM
   refine HA.val (k := 5) (v := .int .i64 (n_1 - 1)) rfl rfl (by kernel_rfl) (by kernel_rfl) (want_by rfl rfl c_2) rfl (fun _ hL_l => q_subN _ rfl rfl rfl ho_1.1 ho_1.2) ?_
   obtain ⟨ho_2, hM⟩ := hM
   refine HA.val (k := 6) (v := elemPtr 1 vl (n_1 - 1).toNat) rfl rfl (by kernel_rfl) (by kernel_rfl) (want_by rfl rfl c_2) rfl (fun _ hL_l => q_idx ts_31 hL_l rfl rfl ho_2) ?_
   refine HA.val (k := 7) (v := .int .i64 (gi l (n_1 - 1))) rfl rfl (by kernel_rfl) (by kernel_rfl) (want_by rfl rfl c_2) rfl (fun _ hL_l => q_ldElem to_3 hL_l rfl ho_2 rfl) ?_
   refine HA.val (k := 8) (v := vl) rfl rfl (by kernel_rfl) (by kernel_rfl) (want_by rfl rfl c_2) rfl (fun _ hL_l => q_move rfl) ?_
   refine HA.val (k := 9) (v := .int .i64 n_1) rfl rfl (by kernel_rfl) (by kernel_rfl) (want_by rfl rfl c_2) rfl (fun _ hL_l => q_move rfl) ?_
   obtain ⟨ho_3, hM⟩ := hM
   refine HA.val (k := 10) (v := elemPtr 1 vl (n_1).toNat) rfl rfl (by kernel_rfl) (by kernel_rfl) (want_by rfl rfl c_2) rfl (fun _ hL_l => q_idx ts_31 hL_l rfl rfl ho_3) ?_
   refine HA.val (k := 11) (v := .int .i64 (gi l n_1)) rfl rfl (by kernel_rfl) (by kernel_rfl) (want_by rfl rfl c_2) rfl (fun _ hL_l => q_ldElem to_3 hL_l rfl ho_3 rfl) ?_
   refine HA.val (k := 12) (v := .bool (decide ((gi l n_1) ≤ (gi l (n_1 - 1))))) rfl rfl (by kernel_rfl) (by kernel_rfl) (want_by rfl rfl c_2) rfl (fun _ hL_l => q_geq rfl rfl) ?_
   refine HA.val (k := 13) (v := .bool (decide ((gi l n_1) ≤ (gi l (n_1 - 1))))) rfl rfl (by kernel_rfl) (by kernel_rfl) (want_none) rfl (fun _ hL_l => q_pickK true rfl c_2 rfl) ?_
   refine HA.nil ⟨hL_l.is, (Go.Wk.at_nil _ _)⟩ (by kernel_rfl) (thenQ_normal (?_))
   refine HW.cond (decide ((gi l n_1) ≤ (gi l (n_1 - 1)))) rfl (fun c_3 => ?_) (fun c_3 => ?_)
   ·
    replace hM := hM.1 (of_decide_eq_true c_3)
    refine HW.seq ?_
    refine HW.region ?_
    refine oA (.bool false) rfl rfl ?_
    refine HO.nil (thenQ_normal (?_))
    refine HW.ret (blockQ_ret (thenQ_ret (thenQ_ret (blockQ_ret (thenQ_ret (?_))))))
    refine ⟨.inr rfl, .bool false, res1 rfl (rt rfl), ?_⟩
    exact ⟨F_1, false, rfl, hK, hS, hL_l, hM⟩
   ·
    replace hM := hM.2 (of_decide_eq_false c_3)
    refine HW.skip (blockQ_normal (thenQ_normal (?_)))
    refine HW.region ?_
    obtain ⟨ho_4, hM⟩ := hM
    refine oV (.int .i64 (n_1 + 1)) (q_addN _ rfl rfl rfl ho_4.1 ho_4.2) rfl ?_
    refine oM (.int .i64 (n_1 + 1)) rfl rfl ?_
    refine HO.nil (thenQ_normal (?_))
    rw [hKe_1] at hM
    exact ⟨n_1 + 1, ⟨F_1, rfl, rfl, rfl, rfl, hK, hS, hL_l, hM.1⟩, hM.2⟩
  ·
   replace hM := hM.2 (of_decide_eq_false c_2)
   refine HA.past (k := 3) rfl rfl (by kernel_rfl) (by kernel_rfl) (past_by rfl rfl c_2) rfl ?_
   refine HA.past (k := 4) rfl rfl (by kernel_rfl) (by kernel_rfl) (past_by rfl rfl c_2) rfl ?_
   refine HA.past (k := 5) rfl rfl (by kernel_rfl) (by kernel_rfl) (past_by rfl rfl c_2) rfl ?_
   refine HA.past (k := 6) rfl rfl (by kernel_rfl) (by kernel_rfl) (past_by rfl rfl c_2) rfl ?_
   refine HA.past (k := 7) rfl rfl (by kernel_rfl) (by kernel_rfl) (past_by rfl rfl c_2) rfl ?_
   refine HA.past (k := 8) rfl rfl (by kernel_rfl) (by kernel_rfl) (past_by rfl rfl c_2) rfl ?_
   refine HA.past (k := 9) rfl rfl (by kernel_rfl) (by kernel_rfl) (past_by rfl rfl c_2) rfl ?_
   refine HA.past (k := 10) rfl rfl (by kernel_rfl) (by kernel_rfl) (past_by rfl rfl c_2) rfl ?_
   refine HA.past (k := 11) rfl rfl (by kernel_rfl) (by kernel_rfl) (past_by rfl rfl c_2) rfl ?_
   refine HA.past (k := 12) rfl rfl (by kernel_rfl) (by kernel_rfl) (past_by rfl rfl c_2) rfl ?_
   refine HA.val (k := 13) (v := .bool false) rfl rfl (by kernel_rfl) (by kernel_rfl) (want_none) rfl (fun _ hL_l => q_pickK false rfl c_2 rfl) ?_
   refine HA.nil ⟨hL_l.is, (Go.Wk.at_nil _ _)⟩ (by kernel_rfl) (thenQ_normal (?_))
   refine HW.condF rfl ?_
   refine HW.skip (blockQ_normal (thenQ_normal (?_)))
   refine HW.region ?_
   obtain ⟨ho_5, hM⟩ := hM
   refine oV (.int .i64 (n_1 + 1)) (q_addN _ rfl rfl rfl ho_5.1 ho_5.2) rfl ?_
   refine oM (.int .i64 (n_1 + 1)) rfl rfl ?_
   refine HO.nil (thenQ_normal (?_))
   rw [hKe_1] at hM
   exact ⟨n_1 + 1, ⟨F_1, rfl, rfl, rfl, rfl, hK, hS, hL_l, hM.1⟩, hM.2⟩
 ·
  replace hM := hM.2 (of_decide_eq_false c_1)
  refine HW.exit (thenQ_exit (thenQ_exit (blockQ_exit (thenQ_normal (?_)))))
  refine HW.seq ?_
  refine HW.region ?_
  refine oA (.bool true) rfl rfl ?_
  refine HO.nil (thenQ_normal (?_))
  refine HW.ret (?_)
  refine ⟨.inr rfl, .bool true, res1 rfl (rt rfl), ?_⟩
  exact ⟨F_1, true, rfl, hK, hS, hL_l, hM⟩

def tree_Leaves_1_W (n : Int) (c0_Root : Int) (c0_Links : List T_api_Branch) (c1_v : List (Int × Value × List Int)) (Q : Bool → Prop) : Prop :=
 (n = c0_Root → Q true) ∧ (¬ (n = c0_Root) → Q (decide (0 < (((bagAt c1_v n).2).length : Int))))
set_option maxHeartbeats 40000000 in
set_option maxRecDepth 100000 in
theorem tree_Leaves_1_walk {F : Fz} {fr : List Ow} {h0 : Heap} (n : Int) (c0_Root : Int) (c0_Links : List T_api_Branch) (c1_v : List (Int × Value × List Int)) (bc0 : Nat) (vc0_Links : Value) (bc1 : Nat) (rc1_v : Nat) (hS : St F (fr) h0) (hL_c0_Links : SliceF F h0 2 e_api_Branch vc0_Links c0_Links) (hB_bc0 : RoF (Ow.box bc0 46 #[.int .i64 c0_Root, vc0_Links]) F h0) (hM_rc1_v : RoF (Ow.map rc1_v kI bagV c1_v) F h0) (hN_c1_v : NfB 1 encI F h0 c1_v) (hB_bc1 : RoF (Ow.box bc1 90 #[.map (some rc1_v)]) F h0) {Q : Bool → Prop} (hM : tree_Leaves_1_W n c0_Root c0_Links c1_v Q) :
  HC Try.prog 73 #[.int .i64 n, .pointer (some ⟨bc0, 0, none⟩), .pointer (some ⟨bc1, 0, none⟩)] h0 fun u h' => ∃ (F' : Fz) (r_1 : Bool), u = .bool r_1 ∧ Kp F h0 F' h' ∧ St F' (fr) h' ∧ (SliceF F' h' 2 e_api_Branch vc0_Links c0_Links) ∧ (RoF (Ow.box bc0 46 #[.int .i64 c0_Root, vc0_Links]) F' h') ∧ (RoF (Ow.map rc1_v kI bagV c1_v) F' h') ∧ (NfB 1 encI F' h' c1_v) ∧ (RoF (Ow.box bc1 90 #[.map (some rc1_v)]) F' h') ∧ Q r_1 := by
 unfold tree_Leaves_1_W at hM
 have hK := Kp.refl F h0
 refine HC.of_HW (n := 16) Try.func73 rfl rfl (Nat.le_of_ble_eq_true rfl) ?_
 refine HW.seq ?_
 refine HW.region ?_
 refine oA (.bool false) rfl rfl ?_
 refine HO.nil (thenQ_normal (?_))
 refine HW.seq ?_
 refine HW.region ?_
 refine oM (.int .i64 n) rfl rfl ?_
 refine oV (.pointer (some ⟨bc0, 0, none⟩)) (q_fieldAddr fa_46_0 rfl rfl) rfl ?_
 refine oV (.int .i64 c0_Root) (q_load to_3 rfl (Blk.cell hB_bc0.box rfl)) rfl ?_
 refine oV (.bool (decide (n = c0_Root))) (q_eql rfl rfl) rfl ?_
 refine oM (.bool (decide (n = c0_Root))) rfl rfl ?_
 rcases Bool.eq_false_or_eq_true (decide (n = c0_Root)) with c_1 | c_1
 ·
  replace hM := hM.1 (of_decide_eq_true c_1)
  refine HO.past (past_by rfl rfl c_1) rfl ?_
  refine HO.past (past_by rfl rfl c_1) rfl ?_
  refine HO.past (past_by rfl rfl c_1) rfl ?_
  refine HO.past (past_by rfl rfl c_1) rfl ?_
  refine HO.past (past_by rfl rfl c_1) rfl ?_
  refine oV (.bool true) (q_pickK true rfl c_1 rfl) rfl ?_
  refine oA (.bool true) rfl rfl ?_
  refine HO.nil (thenQ_normal (?_))
  refine HW.ret (?_)
  refine ⟨.inr rfl, .bool true, res1 rfl (rt rfl), ?_⟩
  exact ⟨F, true, rfl, hK, hS, hL_c0_Links, hB_bc0, hM_rc1_v, hN_c1_v, hB_bc1, hM⟩
 ·
  replace hM := hM.2 (of_decide_eq_false c_1)
  refine HO.val (v := .map (some rc1_v)) (want_by rfl rfl c_1) rfl (q_load to_90 rfl (Blk.cell hB_bc1.box rfl)) ?_
  refine HO.val (v := .int .i64 n) (want_by rfl rfl c_1) rfl (q_move rfl) ?_
  have hL_1 : SliceF F h0 1 encI ((bagAt c1_v n).1) ((bagAt c1_v n).2) := hN_c1_v.at_ n
  refine HO.val (v := (bagAt c1_v n).1) (want_by rfl rfl c_1) rfl ((q_lookup (k := n) ka_3 tmk_90 hM_rc1_v.mp rfl rfl).of_eq (bagAt_v _ _)) ?_
  refine HO.val (v := .int .i64 (((bagAt c1_v n).2).length : Int)) (want_by rfl rfl c_1) rfl (q_len ts_31 (shp hL_1.is) rfl rfl) ?_
  refine HO.val (v := .bool (decide (0 < (((bagAt c1_v n).2).length : Int)))) (want_by rfl rfl c_1) rfl (q_gtr rfl rfl) ?_
  refine oV (.bool (decide (0 < (((bagAt c1_v n).2).length : Int)))) (q_pickK false rfl c_1 rfl) rfl ?_
  refine oA (.bool (decide (0 < (((bagAt c1_v n).2).length : Int)))) rfl rfl ?_
  refine HO.nil (thenQ_normal (?_))
  refine HW.ret (?_)
  refine ⟨.inr rfl, .bool (decide (0 < (((bagAt c1_v n).2).length : Int))), res1 rfl (rt rfl), ?_⟩
  exact ⟨F, decide (0 < (((bagAt c1_v n).2).length : Int)), rfl, hK, hS, hL_c0_Links, hB_bc0, hM_rc1_v, hN_c1_v, hB_bc1, hM⟩

def slices_IndexFunc_s_int_int_l1 (s1 : List Int) (cf_f : Int → Bool) (Q : Int → Prop) (K_1 : Int → Prop) (n_1 : Int) : Prop :=
 (n_1 < (s1.length : Int) → ((0 : Int) ≤ n_1 ∧ n_1 < (s1.length : Int)) ∧ (((cf_f (gi s1 n_1)) = true → Q n_1) ∧ ((cf_f (gi s1 n_1)) = false → (I64 (n_1 + 1)) ∧ (K_1 (n_1 + 1))))) ∧ (¬ (n_1 < (s1.length : Int)) → Q (-1))
def slices_IndexFunc_s_int_int_W (s1 : List Int) (cf_f : Int → Bool) (Q : Int → Prop) : Prop :=
 loopW (fun (K_1 : Int → Prop) (s : Int) => slices_IndexFunc_s_int_int_l1 s1 cf_f Q K_1 s) 0
set_option maxHeartbeats 40000000 in
set_option maxRecDepth 100000 in
theorem slices_IndexFunc_s_int_int_walk {F : Fz} {fr : List Ow} {h0 : Heap} (s1 : List Int) (cf_f : Int → Bool) (vs : Value) (g_f : Nat) (fs_f : Array Value) (cs_f : Array Value) (hS : St F (fr) h0) (hL_s1 : SliceF F h0 1 encI vs s1) (hF_cf_f : FnP Try.prog F h0 g_f fs_f cs_f (fun x : Int => [.int .i64 x]) (fun x => .bool (cf_f x))) {Q : Int → Prop} (hM : slices_IndexFunc_s_int_int_W s1 cf_f Q) :
  HC Try.prog 93 #[vs, .func (.func g_f) fs_f cs_f] h0 fun u h' => ∃ (F' : Fz) (r_1 : Int), u = .int .i64 r_1 ∧ Kp F h0 F' h' ∧ St F' (fr) h' ∧ (SliceF F' h' 1 encI vs s1) ∧ (FnP Try.prog F' h' g_f fs_f cs_f (fun x : Int => [.int .i64 x]) (fun x => .bool (cf_f x))) ∧ Q r_1 := by
 unfold slices_IndexFunc_s_int_int_W at hM
 have hK := Kp.refl F h0
 refine HC.of_HW (n := 19) Try.func93 rfl rfl (Nat.le_of_ble_eq_true rfl) ?_
 refine HW.seq ?_
 refine HW.region ?_
 refine oA (.int .i64 0) rfl rfl ?_
 refine HO.nil (thenQ_normal (?_))
 refine HW.seq ?_
 refine HW.seq ?_
 refine HW.region ?_
 refine oM (vs) rfl rfl ?_
 refine oV (.int .i64 (s1.length : Int)) (q_len ts_31 (shp hL_s1.is) rfl rfl) rfl ?_
 refine oM (.int .i64 0) rfl rfl ?_
 refine HO.nil (thenQ_normal (?_))
 refine HW.block ?_
 obtain ⟨I_1, m_1, hI_1, hR_1⟩ := hM
 refine HW.loop (S := Int) (fun n_1 f h => ∃ (F' : Fz), f 0 = vs ∧ f 1 = .func (.func g_f) fs_f cs_f ∧ f 4 = .int .i64 0 ∧ f 7 = .int .i64 (s1.length : Int) ∧ f 8 = .int .i64 n_1 ∧ Kp F h0 F' h ∧ St F' (fr) h ∧ (SliceF F' h 1 encI vs s1) ∧ (FnP Try.prog F' h g_f fs_f cs_f (fun x : Int => [.int .i64 x]) (fun x => .bool (cf_f x))) ∧ I_1 n_1) m_1 0 ⟨F, rfl, rfl, rfl, rfl, rfl, hK, hS, hL_s1, hF_cf_f, hI_1⟩ ?_
 rintro n_1 f_1 h_1 ⟨F_1, e0, e1, e4, e7, e8, hK, hS, hL_s1, hF_cf_f, hI0⟩
 obtain ⟨K_1, hKe_1⟩ : ∃ K : Int → Prop, K = fun n_1' => I_1 n_1' ∧ m_1 n_1' < m_1 n_1 := ⟨_, rfl⟩
 have hM : slices_IndexFunc_s_int_int_l1 s1 cf_f Q K_1 n_1 := by rw [hKe_1]; exact hR_1 n_1 hI0
 unfold slices_IndexFunc_s_int_int_l1 at hM
 refine HW.fr [(0, vs), (1, .func (.func g_f) fs_f cs_f), (4, .int .i64 0), (7, .int .i64 (s1.length : Int)), (8, .int .i64 n_1)] ⟨e0, e1, e4, e7, e8, trivial⟩ ?_
 refine HW.seq ?_
 refine HW.region ?_
 refine oV (.bool (decide (n_1 < (s1.length : Int)))) (q_lss rfl rfl) rfl ?_
 refine HO.nil (thenQ_normal (?_))
 refine HW.seq ?_
 refine HW.cond (decide (n_1 < (s1.length : Int))) rfl (fun c_1 => ?_) (fun c_1 => ?_)
 ·
  replace hM := hM.1 (of_decide_eq_true c_1)
  refine HW.skip (thenQ_normal (?_))
  refine HW.seq ?_
  refine HW.block ?_
  refine HW.seq ?_
  refine HW.region ?_
  refine oM (.int .i64 n_1) rfl rfl ?_
  refine oA (.int .i64 n_1) rfl rfl ?_
  refine HO.nil (thenQ_normal (?_))
  refine HW.seq ?_
  refine HW.region ?_
  refine oM (.func (.func g_f) fs_f cs_f) rfl rfl ?_
  refine oM (vs) rfl rfl ?_
  refine oM (.int .i64 n_1) rfl rfl ?_
  obtain ⟨ho_1, hM⟩ := hM
  refine oV (elemPtr 1 vs (n_1).toNat) (q_idx ts_31 hL_s1.is rfl rfl ho_1) rfl ?_
  refine oV (.int .i64 (gi s1 n_1)) (q_ldElem to_3 hL_s1.is rfl ho_1 rfl) rfl ?_
  refine HO.call (want_none) rfl (hF_cf_f.ec (gi s1 n_1) rfl rfl) (hF_cf_f.hc (gi s1 n_1) hS) ?_
  rintro _ h_2 ⟨rfl, hS, hk⟩
  replace hK := hK.trans hk
  replace hL_s1 := hL_s1.kp hk
  replace hF_cf_f := hF_cf_f.kp hk
  refine HO.nil (thenQ_normal (?_))
  refine HW.cond (cf_f (gi s1 n_1)) rfl (fun c_2 => ?_) (fun c_2 => ?_)
  ·
   replace hM := hM.1 c_2
   refine HW.seq ?_
   refine HW.region ?_
   refine oM (.int .i64 n_1) rfl rfl ?_
   refine oA (.int .i64 n_1) rfl rfl ?_
   refine HO.nil (thenQ_normal (?_))
   refine HW.ret (blockQ_ret (thenQ_ret (thenQ_ret (blockQ_ret (thenQ_ret (?_))))))
   refine ⟨.inr rfl, .int .i64 n_1, res1 rfl (rt rfl), ?_⟩
   exact ⟨F_1, n_1, rfl, hK, hS, hL_s1, hF_cf_f, hM⟩
  ·
   replace hM := hM.2 c_2
   refine HW.skip (blockQ_normal (thenQ_normal (?_)))
   refine HW.region ?_
   obtain ⟨ho_2, hM⟩ := hM
   refine oV (.int .i64 (n_1 + 1)) (q_addN _ rfl rfl rfl ho_2.1 ho_2.2) rfl ?_
   refine oM (.int .i64 (n_1 + 1)) rfl rfl ?_
   refine HO.nil (thenQ_normal (?_))
   rw [hKe_1] at hM
   exact ⟨n_1 + 1, ⟨F_1, rfl, rfl, rfl, rfl, rfl, hK, hS, hL_s1, hF_cf_f, hM.1⟩, hM.2⟩
 ·
  replace hM := hM.2 (of_decide_eq_false c_1)
  refine HW.exit (thenQ_exit (thenQ_exit (blockQ_exit (thenQ_normal (?_)))))
  refine HW.seq ?_
  refine HW.region ?_
  refine oA (.int .i64 (-1)) rfl rfl ?_
  refine HO.nil (thenQ_normal (?_))
  refine HW.ret (?_)
  refine ⟨.inr rfl, .int .i64 (-1), res1 rfl (rt rfl), ?_⟩
  exact ⟨F_1, (-1), rfl, hK, hS, hL_s1, hF_cf_f, hM⟩

def slices_DeleteFunc_s_int_int_l2 (cf_del : Int → Bool) (Q : (List Int) → Prop) (K_1 : (List Int) → Int → Int → Prop) (l_1 : List Int) (i_1 : Int) (j_1 : Int) : Prop :=
 (j_1 < (l_1.length : Int) → ((0 : Int) ≤ j_1 ∧ j_1 < (l_1.length : Int)) ∧ (((!(cf_del (gi l_1 j_1))) = true → ((0 : Int) ≤ i_1 ∧ i_1 < (l_1.length : Int)) ∧ ((I64 (i_1 + 1)) ∧ ((I64 (j_1 + 1)) ∧ (K_1 (l_1.set (i_1).toNat (gi l_1 j_1)) (i_1 + 1) (j_1 + 1))))) ∧ ((!(cf_del (gi l_1 j_1))) = false → (I64 (j_1 + 1)) ∧ (K_1 l_1 i_1 (j_1 + 1))))) ∧ (¬ (j_1 < (l_1.length : Int)) → ((0 : Int) ≤ i_1 ∧ i_1 ≤ (l_1.length : Int)) ∧ (((0 : Int) ≤ i_1 ∧ i_1 ≤ (l_1.length : Int) ∧ (l_1.length : Int) ≤ (l_1.length : Int)) ∧ (((0 : Int) ≤ i_1 ∧ i_1 ≤ ((clr l_1 i_1 (l_1.length : Int)).length : Int)) ∧ (Q (cut (clr l_1 i_1 (l_1.length : Int)) 0 i_1)))))
def slices_DeleteFunc_s_int_int_W (s1 : List Int) (cf_del : Int → Bool) (Q : (List Int) → Prop) : Prop :=
 slices_IndexFunc_s_int_int_W s1 cf_del (fun r_2 => (r_2 = (-1) → Q s1) ∧ (¬ (r_2 = (-1)) → (I64 (r_2 + 1)) ∧ (loopW (fun (K_1 : (List Int × Int × Int) → Prop) (s : List Int × Int × Int) => slices_DeleteFunc_s_int_int_l2 cf_del Q (fun l_1 i_1 j_1 => K_1 (l_1, i_1, j_1)) s.1 s.2.1 s.2.2) (s1, r_2, r_2 + 1))))
set_option maxHeartbeats 40000000 in
set_option maxRecDepth 100000 in
theorem slices_DeleteFunc_s_int_int_walk {F : Fz} {fr : List Ow} {h0 : Heap} (s1 : List Int) (cf_del : Int → Bool) (vs : Value) (g_del : Nat) (fs_del : Array Value) (cs_del : Array Value) (hS : St F (Ow.own 3 1 encI vs s1 :: fr) h0) (hF_cf_del : FnP Try.prog F h0 g_del fs_del cs_del (fun x : Int => [.int .i64 x]) (fun x => .bool (cf_del x))) {Q : (List Int) → Prop} (hM : slices_DeleteFunc_s_int_int_W s1 cf_del Q) :
  HC Try.prog 71 #[vs, .func (.func g_del) fs_del cs_del] h0 fun u h' => ∃ (F' : Fz) (r_1 : List Int) (vr_1 : Value), u = vr_1 ∧ Kp F h0 F' h' ∧ St F' (Ow.own 3 1 encI vr_1 r_1 :: fr) h' ∧ (FnP Try.prog F' h' g_del fs_del cs_del (fun x : Int => [.int .i64 x]) (fun x => .bool (cf_del x))) ∧ Q r_1 := by
 unfold slices_DeleteFunc_s_int_int_W at hM
 have hK := Kp.refl F h0
 refine HC.of_HW (n := 42) Try.func71 rfl rfl (Nat.le_of_ble_eq_true rfl) ?_
 refine HW.seq ?_
 refine HW.region ?_
 refine oA (.slice none 0 0) rfl rfl ?_
 refine HO.nil (thenQ_normal (?_))
 refine HW.seq ?_
 refine HW.region ?_
 refine oM (vs) rfl rfl ?_
 refine oM (.func (.func g_del) fs_del cs_del) rfl rfl ?_
 have hZ_1 := hS
 have hkz_1 := (hS.freeze).2
 replace hS := hS.freeze.1
 have hL_1 : SliceF (fun bz_ => F bz_ ∨ (Ow.own 3 1 encI vs s1).foot bz_) h0 1 encI vs s1 := ⟨(hZ_1.own 0 rfl).slice, fun _ b hb => .inr hb⟩
 refine HO.call (want_none) rfl (ec en_93 rfl rfl) (slices_IndexFunc_s_int_int_walk (fr := (fr)) s1 cf_del vs g_del fs_del cs_del hS hL_1 (hF_cf_del.kp hkz_1) hM) ?_
 rintro _ h_1 ⟨F_1, r_2, rfl, hk, hS, _, _, hM⟩
 obtain ⟨hS, hk⟩ := hZ_1.back hk hS
 generalize (fun bz_ => F_1 bz_ ∧ ¬ (Ow.own 3 1 encI vs s1).foot bz_) = F_2 at hS hk
 replace hK := hK.trans hk
 replace hF_cf_del := hF_cf_del.kp hk
 refine oA (.int .i64 r_2) rfl rfl ?_
 refine HO.nil (thenQ_normal (?_))
 refine HW.seq ?_
 refine HW.seq ?_
 refine HW.region ?_
 refine oM (.int .i64 r_2) rfl rfl ?_
 refine oV (.bool (decide (r_2 = (-1)))) (q_eql rfl rfl) rfl ?_
 refine HO.nil (thenQ_normal (?_))
 refine HW.cond (decide (r_2 = (-1))) rfl (fun c_1 => ?_) (fun c_1 => ?_)
 ·
  replace hM := hM.1 (of_decide_eq_true c_1)
  refine HW.seq ?_
  refine HW.region ?_
  refine oM (vs) rfl rfl ?_
  refine oA (vs) rfl rfl ?_
  refine HO.nil (thenQ_normal (?_))
  refine HW.ret (thenQ_ret (?_))
  refine ⟨.inr rfl, vs, res1 rfl (rt rfl), ?_⟩
  exact ⟨F_2, s1, vs, rfl, hK, hS, hF_cf_del, hM⟩
 ·
  replace hM := hM.2 (of_decide_eq_false c_1)
  refine HW.skip (thenQ_normal (?_))
  refine HW.seq ?_
  refine HW.seq ?_
  refine HW.region ?_
  refine oM (.int .i64 r_2) rfl rfl ?_
  obtain ⟨ho_1, hM⟩ := hM
  refine oV (.int .i64 (r_2 + 1)) (q_addN _ rfl rfl rfl ho_1.1 ho_1.2) rfl ?_
  refine oA (.int .i64 (r_2 + 1)) rfl rfl ?_
  refine HO.nil (thenQ_normal (?_))
  refine HW.block ?_
  obtain ⟨I_1, m_1, hI_1, hR_1⟩ := hM
  refine HW.loop (S := List Int × Int × Int) (fun s f h => match s with | (l_1, i_1, j_1) => ∃ (F' : Fz), f 0 = vs ∧ f 1 = .func (.func g_del) fs_del cs_del ∧ f 4 = .slice none 0 0 ∧ f 5 = .int .i64 i_1 ∧ f 6 = .int .i64 j_1 ∧ Kp F h0 F' h ∧ St F' (Ow.own 3 1 encI vs l_1 :: fr) h ∧ (FnP Try.prog F' h g_del fs_del cs_del (fun x : Int => [.int .i64 x]) (fun x => .bool (cf_del x))) ∧ I_1 (l_1, i_1, j_1)) m_1 (s1, r_2, r_2 + 1) ⟨F_2, rfl, rfl, rfl, rfl, rfl, hK, hS, hF_cf_del, hI_1⟩ ?_
  rintro ⟨l_1, i_1, j_1⟩ f_1 h_2 ⟨F_3, e0, e1, e4, e5, e6, hK, hS, hF_cf_del, hI0⟩
  obtain ⟨K_1, hKe_1⟩ : ∃ K : (List Int) → Int → Int → Prop, K = fun l_1' i_1' j_1' => I_1 (l_1', i_1', j_1') ∧ m_1 (l_1', i_1', j_1') < m_1 (l_1, i_1, j_1) := ⟨_, rfl⟩
  have hM : slices_DeleteFunc_s_int_int_l2 cf_del Q K_1 l_1 i_1 j_1 := by rw [hKe_1]; exact hR_1 (l_1, i_1, j_1) hI0
  unfold slices_DeleteFunc_s_int_int_l2 at hM
  refine HW.fr [(0, vs), (1, .func (.func g_del) fs_del cs_del), (4, .slice none 0 0), (5, .int .i64 i_1), (6, .int .i64 j_1)] ⟨e0, e1, e4, e5, e6, trivial⟩ ?_
  refine HW.seq ?_
  refine HW.seq ?_
  refine HW.region ?_
  refine oM (.int .i64 j_1) rfl rfl ?_
  refine oM (vs) rfl rfl ?_
  refine oV (.int .i64 (l_1.length : Int)) (q_len ts_31 (shp (hS.own 0 rfl).slice) rfl rfl) rfl ?_
  refine oV (.bool (decide (j_1 < (l_1.length : Int)))) (q_lss rfl rfl) rfl ?_
  refine HO.nil (thenQ_normal (?_))
  refine HW.cond (decide (j_1 < (l_1.length : Int))) rfl (fun c_2 => ?_) (fun c_2 => ?_)
  ·
   replace hM := hM.1 (of_decide_eq_true c_2)
   refine HW.skip (thenQ_normal (?_))
   refine HW.seq ?_
   refine HW.block ?_
   refine HW.seq ?_
   refine HW.region ?_
   refine oM (vs) rfl rfl ?_
   refine oM (.int .i64 j_1) rfl rfl ?_
   obtain ⟨ho_2, hM⟩ := hM
   refine oV (elemPtr 1 vs (j_1).toNat) (q_idx ts_31 (hS.own 0 rfl).slice rfl rfl ho_2) rfl ?_
   refine oV (.int .i64 (gi l_1 j_1)) (q_ldElem to_3 (hS.own 0 rfl).slice rfl ho_2 rfl) rfl ?_
   refine oA (.int .i64 (gi l_1 j_1)) rfl rfl ?_
   refine HO.nil (thenQ_normal (?_))
   refine HW.seq ?_
   refine HW.region ?_
   refine oM (.func (.func g_del) fs_del cs_del) rfl rfl ?_
   refine oM (.int .i64 (gi l_1 j_1)) rfl rfl ?_
   refine HO.call (want_none) rfl (hF_cf_del.ec (gi l_1 j_1) rfl rfl) (hF_cf_del.hc (gi l_1 j_1) hS) ?_
   rintro _ h_3 ⟨rfl, hS, hk⟩
   replace hK := hK.trans hk
   replace hF_cf_del := hF_cf_del.kp hk
   refine oV (.bool (!(cf_del (gi l_1 j_1)))) (q_not rfl) rfl ?_
   refine HO.nil (thenQ_normal (?_))
   refine HW.cond (!(cf_del (gi l_1 j_1))) rfl (fun c_3 => ?_) (fun c_3 => ?_)
   ·
    replace hM := hM.1 c_3
    refine HW.seq ?_
    refine HW.region ?_
    refine oM (vs) rfl rfl ?_
    refine oM (.int .i64 i_1) rfl rfl ?_
    refine oM (.int .i64 (gi l_1 j_1)) rfl rfl ?_
    obtain ⟨ho_3, hM⟩ := hM
    refine oV (elemPtr 1 vs (i_1).toNat) (q_idx ts_31 (hS.own 0 rfl).slice rfl rfl ho_3) rfl ?_
    refine HO.sto (want_none) rfl (st_storeField (a := (gi l_1 j_1)) (n := (i_1).toNat) (j := 0) hS (i := 0) rfl to_3 (elem_field _ _ _) (by omega) (by decide) rfl (by rw [← gi_lt ho_3.1 ho_3.2]; rfl) rfl rfl) ?_
    rintro h_4 ⟨hS, hk⟩
    replace hS : St F_3 (Ow.own 3 1 encI vs (l_1.set (i_1).toNat (gi l_1 j_1)) :: fr) h_4 := hS
    replace hK := hK.trans hk
    replace hF_cf_del := hF_cf_del.kp hk
    refine HO.nil (thenQ_normal (?_))
    refine HW.region ?_
    refine oM (.int .i64 i_1) rfl rfl ?_
    obtain ⟨ho_4, hM⟩ := hM
    refine oV (.int .i64 (i_1 + 1)) (q_addN _ rfl rfl rfl ho_4.1 ho_4.2) rfl ?_
    refine oA (.int .i64 (i_1 + 1)) rfl rfl ?_
    refine HO.nil (blockQ_normal (thenQ_normal (?_)))
    refine HW.region ?_
    refine oM (.int .i64 j_1) rfl rfl ?_
    obtain ⟨ho_5, hM⟩ := hM
    refine oV (.int .i64 (j_1 + 1)) (q_addN _ rfl rfl rfl ho_5.1 ho_5.2) rfl ?_
    refine oA (.int .i64 (j_1 + 1)) rfl rfl ?_
    refine HO.nil (thenQ_normal (?_))
    rw [hKe_1] at hM
    exact ⟨(l_1.set (i_1).toNat (gi l_1 j_1), i_1 + 1, j_1 + 1), ⟨F_3, rfl, rfl, rfl, rfl, rfl, hK, hS, hF_cf_del, hM.1⟩, hM.2⟩
   ·
    replace hM := hM.2 c_3
    refine HW.skip (blockQ_normal (thenQ_normal (?_)))
    refine HW.region ?_
    refine oM (.int .i64 j_1) rfl rfl ?_
    obtain ⟨ho_6, hM⟩ := hM
    refine oV (.int .i64 (j_1 + 1)) (q_addN _ rfl rfl rfl ho_6.1 ho_6.2) rfl ?_
    refine oA (.int .i64 (j_1 + 1)) rfl rfl ?_
    refine HO.nil (thenQ_normal (?_))
    rw [hKe_1] at hM
    exact ⟨(l_1, i_1, j_1 + 1), ⟨F_3, rfl, rfl, rfl, rfl, rfl, hK, hS, hF_cf_del, hM.1⟩, hM.2⟩
  ·
   replace hM := hM.2 (of_decide_eq_false c_2)
   refine HW.exit (thenQ_exit (thenQ_exit (blockQ_exit (thenQ_normal (?_)))))
   refine HW.seq ?_
   refine HW.region ?_
   refine oM (vs) rfl rfl ?_
   refine oM (.int .i64 i_1) rfl rfl ?_
   obtain ⟨ho_7, hM⟩ := hM
   refine oV (cutV 1 vs (i_1).toNat ((l_1.length : Int)).toNat) (q_slL ts_31 (hS.own 0 rfl).slice rfl rfl ho_7) rfl ?_
   obtain ⟨ho_8, hM⟩ := hM
   refine HO.eff (want_none) rfl (st_clearS (lo := i_1) (hi := (l_1.length : Int)) (z := .int .i64 0) hS (i := 0) rfl te_31 tz_3 rfl (by intro u hu; simp [encI, encI, encN, encB, encT, default] at hu; subst hu; rfl) rfl ho_8 rfl) ?_
   rintro _ h_5 ⟨rfl, hS, hk⟩
   replace hS : St F_3 (Ow.own 3 1 encI vs (clr l_1 i_1 (l_1.length : Int)) :: fr) h_5 := hS
   replace hK := hK.trans hk
   replace hF_cf_del := hF_cf_del.kp hk
   refine HO.nil (thenQ_normal (?_))
   refine HW.seq ?_
   refine HW.region ?_
   refine oM (vs) rfl rfl ?_
   refine oM (.int .i64 i_1) rfl rfl ?_
   obtain ⟨ho_9, hM⟩ := hM
   refine oV (cutV 1 vs (0 : Int).toNat (i_1).toNat) (q_slH ts_31 (hS.own 0 rfl).slice rfl rfl ho_9) rfl ?_
   refine oA (cutV 1 vs (0 : Int).toNat (i_1).toNat) rfl rfl ?_
   refine HO.nil (thenQ_normal (?_))
   refine HW.ret (?_)
   refine ⟨.inr rfl, cutV 1 vs (0 : Int).toNat (i_1).toNat, res1 rfl (rt rfl), ?_⟩
   replace hS := hS.shrink 0 rfl i_1 ho_9.1 ho_9.2
   replace hS : St F_3 (Ow.own 3 1 encI (cutV 1 vs (0 : Int).toNat (i_1).toNat) (cut (clr l_1 i_1 (l_1.length : Int)) 0 i_1) :: fr) h_5 := hS
   exact ⟨F_3, cut (clr l_1 i_1 (l_1.length : Int)) 0 i_1, cutV 1 vs (0 : Int).toNat (i_1).toNat, rfl, hK, hS, hF_cf_del, hM⟩

def tree_rising_W (l : List Int) (Q : (List Int) → Prop) : Prop :=
 ((l).length < 4611686018427387904) ∧ (Q (isort l))
set_option maxHeartbeats 40000000 in
set_option maxRecDepth 100000 in
theorem tree_rising_walk {F : Fz} {fr : List Ow} {h0 : Heap} (l : List Int) (vl : Value) (hS : St F (Ow.own 3 1 encI vl l :: fr) h0)  {Q : (List Int) → Prop} (hM : tree_rising_W l Q) :
  HC Try.prog 70 #[vl] h0 fun u h' => ∃ (F' : Fz) (r_1 : List Int) (vr_1 : Value), u = vr_1 ∧ Kp F h0 F' h' ∧ St F' (Ow.own 3 1 encI vr_1 r_1 :: fr) h' ∧ Q r_1 := by
 unfold tree_rising_W at hM
 have hK := Kp.refl F h0
 refine HC.of_HW (n := 6) Try.func70 rfl rfl (Nat.le_of_ble_eq_true rfl) ?_
 refine HW.seq ?_
 refine HW.region ?_
 refine oA (.slice none 0 0) rfl rfl ?_
 refine HO.nil (thenQ_normal (?_))
 refine HW.seq ?_
 refine HW.region ?_
 refine oM (vl) rfl rfl ?_
 obtain ⟨ho_1, hM⟩ := hM
 refine HO.call (want_none) rfl (ec en_92 rfl rfl) (sortInt_own Try.sortI hS ho_1) ?_
 rintro _ h_1 ⟨rfl, hk, hS⟩
 replace hS : St F (Ow.own 3 1 encI vl (isort l) :: fr) h_1 := hS
 replace hK := hK.trans hk
 refine HO.nil (thenQ_normal (?_))
 refine HW.seq ?_
 refine HW.region ?_
 refine oM (vl) rfl rfl ?_
 refine oA (vl) rfl rfl ?_
 refine HO.nil (thenQ_normal (?_))
 refine HW.ret (?_)
 refine ⟨.inr rfl, vl, res1 rfl (rt rfl), ?_⟩
 exact ⟨F, isort l, vl, rfl, hK, hS, hM⟩

def tree_Leaves_W (t_Root : Int) (t_Links : List T_api_Branch) (Q : (List Int) → Prop) : Prop :=
 tree_nexts_W t_Root t_Links (fun r_2 => tree_walk_W t_Root t_Links t_Root (fun r_4 => ∃ cf_1 : Int → Bool, (∀ x0, tree_Leaves_1_W x0 t_Root t_Links r_2 (fun r => r = cf_1 x0)) ∧ (slices_DeleteFunc_s_int_int_W r_4 cf_1 (fun r_5 => tree_rising_W r_5 (fun r_6 => Q r_6)))))
set_option maxHeartbeats 40000000 in
set_option maxRecDepth 100000 in
theorem tree_Leaves_walk {F : Fz} {fr : List Ow} {h0 : Heap} (t_Root : Int) (t_Links : List T_api_Branch) (vt_Links : Value) (hS : St F (fr) h0) (hL_t_Links : SliceF F h0 2 e_api_Branch vt_Links t_Links) {Q : (List Int) → Prop} (hM : tree_Leaves_W t_Root t_Links Q) :
  HC Try.prog 47 #[.agg #[.int .i64 t_Root, vt_Links]] h0 fun u h' => ∃ (F' : Fz) (r_1 : List Int) (vr_1 : Value), u = vr_1 ∧ Kp F h0 F' h' ∧ St F' (Ow.own 3 1 encI vr_1 r_1 :: fr) h' ∧ (SliceF F' h' 2 e_api_Branch vt_Links t_Links) ∧ Q r_1 := by
 unfold tree_Leaves_W at hM
 have hK := Kp.refl F h0
 refine HC.of_HW (n := 13) Try.func47 rfl rfl (Nat.le_of_ble_eq_true rfl) ?_
 refine HW.seq ?_
 refine HW.region ?_
 refine HO.eff (want_none) rfl (st_box (c := #[.int .i64 t_Root, vt_Links]) (k' := 2) hS rfl rfl) ?_
 rintro _ h_1 ⟨b_1, rfl, hS, hk⟩
 replace hK := hK.trans hk
 replace hL_t_Links := hL_t_Links.kp hk
 refine oA (.slice none 0 0) rfl rfl ?_
 refine HO.nil (thenQ_normal (?_))
 refine HW.seq ?_
 refine HW.region ?_
 refine oV (.agg #[.int .i64 t_Root, vt_Links]) (q_loadAgg (cs := [.int .i64 t_Root, vt_Links]) ta_46 rfl rfl (Blk.cells (k := 2) (hS.box 0 rfl) rfl)) rfl ?_
 refine HO.call (want_none) rfl (ec en_69 rfl rfl) (tree_nexts_walk (fr := (Ow.box b_1 46 #[.int .i64 t_Root, vt_Links] :: fr)) t_Root t_Links vt_Links hS hL_t_Links hM) ?_
 rintro _ h_2 ⟨F_1, r_2, r_3, rfl, hk, hS, _, hM⟩
 replace hK := hK.trans hk
 replace hL_t_Links := hL_t_Links.kp hk
 obtain ⟨F_2, hS, hk, hN_1⟩ := hS.bagOpen
 replace hK := hK.trans hk
 replace hL_t_Links := hL_t_Links.kp hk
 refine HO.eff (want_none) rfl (st_alloc (c := #[.map none]) hS tz_90 rfl) ?_
 rintro _ h_3 ⟨b_2, rfl, hS, hk⟩
 replace hK := hK.trans hk
 replace hL_t_Links := hL_t_Links.kp hk
 replace hN_1 := hN_1.kp hk
 refine HO.sto (want_none) rfl (st_store (c' := #[.map (some r_3)]) hS (i := 0) rfl to_90 rfl rfl rfl rfl (Nat.le_of_ble_eq_true rfl) rfl) ?_
 rintro h_4 ⟨hS, hk⟩
 replace hS : St F_2 (Ow.box b_2 90 #[.map (some r_3)] :: Ow.map r_3 kI bagV r_2 :: Ow.box b_1 46 #[.int .i64 t_Root, vt_Links] :: fr) h_4 := hS
 replace hK := hK.trans hk
 replace hL_t_Links := hL_t_Links.kp hk
 replace hN_1 := hN_1.kp hk
 refine HO.nil (thenQ_normal (?_))
 refine HW.seq ?_
 refine HW.region ?_
 refine oV (.agg #[.int .i64 t_Root, vt_Links]) (q_loadAgg (cs := [.int .i64 t_Root, vt_Links]) ta_46 rfl rfl (Blk.cells (k := 2) (hS.box 2 rfl) rfl)) rfl ?_
 refine oV (.pointer (some ⟨b_1, 0, none⟩)) (q_fieldAddr fa_46_0 rfl rfl) rfl ?_
 refine oV (.int .i64 t_Root) (q_load to_3 rfl (Blk.cell (hS.box 2 rfl) rfl)) rfl ?_
 refine HO.call (want_none) rfl (ec en_72 rfl rfl) (tree_walk_walk (fr := (Ow.box b_2 90 #[.map (some r_3)] :: Ow.map r_3 kI bagV r_2 :: Ow.box b_1 46 #[.int .i64 t_Root, vt_Links] :: fr)) t_Root t_Links t_Root vt_Links hS hL_t_Links hM) ?_
 rintro vr_2 h_5 ⟨F_3, r_4, _, rfl, hk, hS, _, hM⟩
 replace hK := hK.trans hk
 replace hL_t_Links := hL_t_Links.kp hk
 replace hN_1 := hN_1.kp hk
 refine oV (.func (.func 73) #[] #[.pointer (some ⟨b_1, 0, none⟩), .pointer (some ⟨b_2, 0, none⟩)]) (q_makeFunc rfl rfl) rfl ?_
 replace hS : St F_3 (Ow.box b_1 46 #[.int .i64 t_Root, vt_Links] :: Ow.own 3 1 encI vr_2 r_4 :: Ow.box b_2 90 #[.map (some r_3)] :: Ow.map r_3 kI bagV r_2 :: fr) h_5 := hS.perm2 [3, 0, 1, 2] 4 rfl rfl
 have hZ_1 := hS
 have hkz_1 := (hS.freeze).2
 replace hS := hS.freeze.1
 have hL_1 := hZ_1.lent
 replace hS : St (fun bz_ => F_3 bz_ ∨ (Ow.box b_1 46 #[.int .i64 t_Root, vt_Links]).foot bz_) (Ow.box b_2 90 #[.map (some r_3)] :: Ow.own 3 1 encI vr_2 r_4 :: Ow.map r_3 kI bagV r_2 :: fr) h_5 := hS.perm2 [1, 0, 2] 3 rfl rfl
 have hZ_2 := hS
 have hkz_2 := (hS.freeze).2
 replace hS := hS.freeze.1
 have hL_2 := hZ_2.lent
 replace hL_1 := hL_1.kp hkz_2
 replace hS : St (fun bz_ => (fun bz_ => F_3 bz_ ∨ (Ow.box b_1 46 #[.int .i64 t_Root, vt_Links]).foot bz_) bz_ ∨ (Ow.box b_2 90 #[.map (some r_3)]).foot bz_) (Ow.map r_3 kI bagV r_2 :: Ow.own 3 1 encI vr_2 r_4 :: fr) h_5 := hS.perm2 [1, 0] 2 rfl rfl
 have hZ_3 := hS
 have hkz_3 := (hS.freeze).2
 replace hS := hS.freeze.1
 have hL_3 := hZ_3.lent
 replace hL_1 := hL_1.kp hkz_3
 replace hL_2 := hL_2.kp hkz_3
 obtain ⟨cf_1, hc_1, hM⟩ := hM
 have hF_1 : FnP Try.prog (fun bz_ => (fun bz_ => (fun bz_ => F_3 bz_ ∨ (Ow.box b_1 46 #[.int .i64 t_Root, vt_Links]).foot bz_) bz_ ∨ (Ow.box b_2 90 #[.map (some r_3)]).foot bz_) bz_ ∨ (Ow.map r_3 kI bagV r_2).foot bz_) h_5 73 #[] #[.pointer (some ⟨b_1, 0, none⟩), .pointer (some ⟨b_2, 0, none⟩)] (fun x : Int => [.int .i64 x]) (fun x => .bool (cf_1 x)) := FnP.of en_73 (fun x h' hk_ => @HC.mono ⟨true⟩ _ _ _ _ _ _ (@tree_Leaves_1_walk ⟨true⟩ (allF h') [] h' x t_Root t_Links r_2 b_1 vt_Links b_2 r_3 (St.init h') ((((hL_t_Links.kp hkz_1).kp hkz_2).kp hkz_3).kp hk_) (hL_1.kp hk_) (hL_3.kp hk_) ((((hN_1.kp hkz_1).kp hkz_2).kp hkz_3).kp hk_) (hL_2.kp hk_) (fun r => r = cf_1 x) (hc_1 x)) (fun u h'' ⟨F', r, hu, k_, _, _, _, _, _, _, hr⟩ => ⟨by rw [hu, hr], F', k_⟩))
 refine HO.call (want_none) rfl (ec en_71 rfl rfl) (slices_DeleteFunc_s_int_int_walk (fr := (fr)) r_4 cf_1 vr_2 73 (#[]) (#[.pointer (some ⟨b_1, 0, none⟩), .pointer (some ⟨b_2, 0, none⟩)]) hS hF_1 hM) ?_
 rintro vr_3 h_6 ⟨F_4, r_5, _, rfl, hk, hS, _, hM⟩
 obtain ⟨hS, hk⟩ := hZ_3.back hk hS
 obtain ⟨hS, hk⟩ := hZ_2.back hk hS
 obtain ⟨hS, hk⟩ := hZ_1.back hk hS
 generalize (fun bz_ => (fun bz_ => (fun bz_ => F_4 bz_ ∧ ¬ (Ow.map r_3 kI bagV r_2).foot bz_) bz_ ∧ ¬ (Ow.box b_2 90 #[.map (some r_3)]).foot bz_) bz_ ∧ ¬ (Ow.box b_1 46 #[.int .i64 t_Root, vt_Links]).foot bz_) = F_5 at hS hk
 replace hK := hK.trans hk
 replace hL_t_Links := hL_t_Links.kp hk
 replace hS : St F_5 (Ow.own 3 1 encI vr_3 r_5 :: Ow.box b_1 46 #[.int .i64 t_Root, vt_Links] :: Ow.box b_2 90 #[.map (some r_3)] :: Ow.map r_3 kI bagV r_2 :: fr) h_6 := hS.perm2 [3, 0, 1, 2] 4 rfl rfl
 refine HO.call (want_none) rfl (ec en_70 rfl rfl) (tree_rising_walk (fr := (Ow.box b_1 46 #[.int .i64 t_Root, vt_Links] :: Ow.box b_2 90 #[.map (some r_3)] :: Ow.map r_3 kI bagV r_2 :: fr)) r_5 vr_3 hS hM) ?_
 rintro vr_4 h_7 ⟨F_6, r_6, _, rfl, hk, hS, hM⟩
 replace hK := hK.trans hk
 replace hL_t_Links := hL_t_Links.kp hk
 refine oA (vr_4) rfl rfl ?_
 refine HO.nil (thenQ_normal (?_))
 refine HW.ret (?_)
 refine ⟨.inr rfl, vr_4, res1 rfl (rt rfl), ?_⟩
 replace hS : St F_6 (Ow.own 3 1 encI vr_4 r_6 :: fr) h_7 := hS.perm2 [0] 4 rfl rfl
 exact ⟨F_6, r_6, vr_4, rfl, hK, hS, hL_t_Links, hM⟩

def slices_Equal_s_int_int_l1 (s1 : List Int) (s2 : List Int) (Q : Bool → Prop) (K_1 : Int → Prop) (n_1 : Int) : Prop :=
 (n_1 < (s1.length : Int) → ((0 : Int) ≤ n_1 ∧ n_1 < (s1.length : Int)) ∧ (((0 : Int) ≤ n_1 ∧ n_1 < (s2.length : Int)) ∧ ((¬ ((gi s1 n_1) = (gi s2 n_1)) → Q false) ∧ ((gi s1 n_1) = (gi s2 n_1) → (I64 (n_1 + 1)) ∧ (K_1 (n_1 + 1)))))) ∧ (¬ (n_1 < (s1.length : Int)) → Q true)
def slices_Equal_s_int_int_W (s1 : List Int) (s2 : List Int) (Q : Bool → Prop) : Prop :=
 (¬ ((s1.length : Int) = (s2.length : Int)) → Q false) ∧ ((s1.length : Int) = (s2.length : Int) → loopW (fun (K_1 : Int → Prop) (s : Int) => slices_Equal_s_int_int_l1 s1 s2 Q K_1 s) 0)
set_option maxHeartbeats 40000000 in
set_option maxRecDepth 100000 in
theorem slices_Equal_s_int_int_walk {F : Fz} {fr : List Ow} {h0 : Heap} (s1 : List Int) (s2 : List Int) (vs1 : Value) (vs2 : Value) (hS : St F (fr) h0) (hL_s1 : SliceF F h0 1 encI vs1 s1) (hL_s2 : SliceF F h0 1 encI vs2 s2) {Q : Bool → Prop} (hM : slices_Equal_s_int_int_W s1 s2 Q) :
  HC Try.prog 46 #[vs1, vs2] h0 fun u h' => ∃ (F' : Fz) (r_1 : Bool), u = .bool r_1 ∧ Kp F h0 F' h' ∧ St F' (fr) h' ∧ (SliceF F' h' 1 encI vs1 s1) ∧ (SliceF F' h' 1 encI vs2 s2) ∧ Q r_1 := by
 unfold slices_Equal_s_int_int_W at hM
 have hK := Kp.refl F h0
 refine HC.of_HW (n := 26) Try.func46 rfl rfl (Nat.le_of_ble_eq_true rfl) ?_
 refine HW.seq ?_
 refine HW.region ?_
 refine oA (.bool false) rfl rfl ?_
 refine HO.nil (thenQ_normal (?_))
 refine HW.seq ?_
 refine HW.seq ?_
 refine HW.region ?_
 refine oM (vs1) rfl rfl ?_
 refine oV (.int .i64 (s1.length : Int)) (q_len ts_31 (shp hL_s1.is) rfl rfl) rfl ?_
 refine oM (vs2) rfl rfl ?_
 refine oV (.int .i64 (s2.length : Int)) (q_len ts_31 (shp hL_s2.is) rfl rfl) rfl ?_
 refine oV (.bool (!decide ((s1.length : Int) = (s2.length : Int)))) (q_neq rfl rfl) rfl ?_
 refine HO.nil (thenQ_normal (?_))
 refine HW.cond (!decide ((s1.length : Int) = (s2.length : Int))) rfl (fun c_1 => ?_) (fun c_1 => ?_)
 ·
  replace hM := hM.1 (nd_true c_1)
  refine HW.seq ?_
  refine HW.region ?_
  refine oA (.bool false) rfl rfl ?_
  refine HO.nil (thenQ_normal (?_))
  refine HW.ret (thenQ_ret (?_))
  refine ⟨.inr rfl, .bool false, res1 rfl (rt rfl), ?_⟩
  exact ⟨F, false, rfl, hK, hS, hL_s1, hL_s2, hM⟩
 ·
  replace hM := hM.2 (nd_false c_1)
  refine HW.skip (thenQ_normal (?_))
  refine HW.seq ?_
  refine HW.seq ?_
  refine HW.region ?_
  refine oM (vs1) rfl rfl ?_
  refine oV (.int .i64 (s1.length : Int)) (q_len ts_31 (shp hL_s1.is) rfl rfl) rfl ?_
  refine oM (.int .i64 0) rfl rfl ?_
  refine HO.nil (thenQ_normal (?_))
  refine HW.block ?_
  obtain ⟨I_1, m_1, hI_1, hR_1⟩ := hM
  refine HW.loop (S := Int) (fun n_1 f h => ∃ (F' : Fz), f 0 = vs1 ∧ f 1 = vs2 ∧ f 4 = .bool false ∧ f 12 = .int .i64 (s1.length : Int) ∧ f 13 = .int .i64 n_1 ∧ Kp F h0 F' h ∧ St F' (fr) h ∧ (SliceF F' h 1 encI vs1 s1) ∧ (SliceF F' h 1 encI vs2 s2) ∧ I_1 n_1) m_1 0 ⟨F, rfl, rfl, rfl, rfl, rfl, hK, hS, hL_s1, hL_s2, hI_1⟩ ?_
  rintro n_1 f_1 h_1 ⟨F_1, e0, e1, e4, e12, e13, hK, hS, hL_s1, hL_s2, hI0⟩
  obtain ⟨K_1, hKe_1⟩ : ∃ K : Int → Prop, K = fun n_1' => I_1 n_1' ∧ m_1 n_1' < m_1 n_1 := ⟨_, rfl⟩
  have hM : slices_Equal_s_int_int_l1 s1 s2 Q K_1 n_1 := by rw [hKe_1]; exact hR_1 n_1 hI0
  unfold slices_Equal_s_int_int_l1 at hM
  refine HW.fr [(0, vs1), (1, vs2), (4, .bool false), (12, .int .i64 (s1.length : Int)), (13, .int .i64 n_1)] ⟨e0, e1, e4, e12, e13, trivial⟩ ?_
  refine HW.seq ?_
  refine HW.region ?_
  refine oV (.bool (decide (n_1 < (s1.length : Int)))) (q_lss rfl rfl) rfl ?_
  refine HO.nil (thenQ_normal (?_))
  refine HW.seq ?_
  refine HW.cond (decide (n_1 < (s1.length : Int))) rfl (fun c_2 => ?_) (fun c_2 => ?_)
  ·
   replace hM := hM.1 (of_decide_eq_true c_2)
   refine HW.skip (thenQ_normal (?_))
   refine HW.seq ?_
   refine HW.block ?_
   refine HW.seq ?_
   refine HW.region ?_
   refine oM (.int .i64 n_1) rfl rfl ?_
   refine oA (.int .i64 n_1) rfl rfl ?_
   refine HO.nil (thenQ_normal (?_))
   refine HW.seq ?_
   refine HW.regionA 9 mixed (fun h => (SliceIs h 1 encI vs1 s1) ∧ (SliceIs h 1 encI vs2 s2)) [] (by kernel_rfl) ?_
   refine HA.val (k := 0) (v := vs1) rfl rfl (by kernel_rfl) (by kernel_rfl) (want_none) rfl (fun _ ⟨hL_s1, hL_s2⟩ => q_move rfl) ?_
   refine HA.val (k := 1) (v := .int .i64 n_1) rfl rfl (by kernel_rfl) (by kernel_rfl) (want_none) rfl (fun _ ⟨hL_s1, hL_s2⟩ => q_move rfl) ?_
   obtain ⟨ho_1, hM⟩ := hM
   refine HA.val (k := 2) (v := elemPtr 1 vs1 (n_1).toNat) rfl rfl (by kernel_rfl) (by kernel_rfl) (want_none) rfl (fun _ ⟨hL_s1, hL_s2⟩ => q_idx ts_31 hL_s1 rfl rfl ho_1) ?_
   refine HA.val (k := 3) (v := .int .i64 (gi s1 n_1)) rfl rfl (by kernel_rfl) (by kernel_rfl) (want_none) rfl (fun _ ⟨hL_s1, hL_s2⟩ => q_ldElem to_3 hL_s1 rfl ho_1 rfl) ?_
   refine HA.val (k := 4) (v := vs2) rfl rfl (by kernel_rfl) (by kernel_rfl) (want_none) rfl (fun _ ⟨hL_s1, hL_s2⟩ => q_move rfl) ?_
   refine HA.val (k := 5) (v := .int .i64 n_1) rfl rfl (by kernel_rfl) (by kernel_rfl) (want_none) rfl (fun _ ⟨hL_s1, hL_s2⟩ => q_move rfl) ?_
   obtain ⟨ho_2, hM⟩ := hM
   refine HA.val (k := 6) (v := elemPtr 1 vs2 (n_1).toNat) rfl rfl (by kernel_rfl) (by kernel_rfl) (want_none) rfl (fun _ ⟨hL_s1, hL_s2⟩ => q_idx ts_31 hL_s2 rfl rfl ho_2) ?_
   refine HA.val (k := 7) (v := .int .i64 (gi s2 n_1)) rfl rfl (by kernel_rfl) (by kernel_rfl) (want_none) rfl (fun _ ⟨hL_s1, hL_s2⟩ => q_ldElem to_3 hL_s2 rfl ho_2 rfl) ?_
   refine HA.val (k := 8) (v := .bool (!decide ((gi s1 n_1) = (gi s2 n_1)))) rfl rfl (by kernel_rfl) (by kernel_rfl) (want_none) rfl (fun _ ⟨hL_s1, hL_s2⟩ => q_neq rfl rfl) ?_
   refine HA.nil ⟨⟨hL_s1.is, hL_s2.is⟩, (Go.Wk.at_nil _ _)⟩ (by kernel_rfl) (thenQ_normal (?_))
   refine HW.cond (!decide ((gi s1 n_1) = (gi s2 n_1))) rfl (fun c_3 => ?_) (fun c_3 => ?_)
   ·
    replace hM := hM.1 (nd_true c_3)
    refine HW.seq ?_
    refine HW.region ?_
    refine oA (.bool false) rfl rfl ?_
    refine HO.nil (thenQ_normal (?_))
    refine HW.ret (blockQ_ret (thenQ_ret (thenQ_ret (blockQ_ret (thenQ_ret (?_))))))
    refine ⟨.inr rfl, .bool false, res1 rfl (rt rfl), ?_⟩
    exact ⟨F_1, false, rfl, hK, hS, hL_s1, hL_s2, hM⟩
   ·
    replace hM := hM.2 (nd_false c_3)
    refine HW.skip (blockQ_normal (thenQ_normal (?_)))
    refine HW.region ?_
    obtain ⟨ho_3, hM⟩ := hM
    refine oV (.int .i64 (n_1 + 1)) (q_addN _ rfl rfl rfl ho_3.1 ho_3.2) rfl ?_
    refine oM (.int .i64 (n_1 + 1)) rfl rfl ?_
    refine HO.nil (thenQ_normal (?_))
    rw [hKe_1] at hM
    exact ⟨n_1 + 1, ⟨F_1, rfl, rfl, rfl, rfl, rfl, hK, hS, hL_s1, hL_s2, hM.1⟩, hM.2⟩
  ·
   replace hM := hM.2 (of_decide_eq_false c_2)
   refine HW.exit (thenQ_exit (thenQ_exit (blockQ_exit (thenQ_normal (?_)))))
   refine HW.seq ?_
   refine HW.region ?_
   refine oA (.bool true) rfl rfl ?_
   refine HO.nil (thenQ_normal (?_))
   refine HW.ret (?_)
   refine ⟨.inr rfl, .bool true, res1 rfl (rt rfl), ?_⟩
   exact ⟨F_1, true, rfl, hK, hS, hL_s1, hL_s2, hM⟩

def cmp_Less_int_W (x : Int) (y : Int) (Q : Bool → Prop) : Prop :=
 cmp_isNaN_int_W x (fun r_2 => (r_2 = true → cmp_isNaN_int_W y (fun r_3 => ((!r_3) = true → Q true) ∧ ((!r_3) = false → Q (decide (x < y))))) ∧ (r_2 = false → Q (decide (x < y))))
set_option maxHeartbeats 40000000 in
set_option maxRecDepth 100000 in
theorem cmp_Less_int_walk {F : Fz} {fr : List Ow} {h0 : Heap} (x : Int) (y : Int) (hS : St F (fr) h0)  {Q : Bool → Prop} (hM : cmp_Less_int_W x y Q) :
  HC Try.prog 74 #[.int .i64 x, .int .i64 y] h0 fun u h' => ∃ (F' : Fz) (r_1 : Bool), u = .bool r_1 ∧ Kp F h0 F' h' ∧ St F' (fr) h' ∧ Q r_1 := by
 unfold cmp_Less_int_W at hM
 have hK := Kp.refl F h0
 refine HC.of_HW (n := 17) Try.func74 rfl rfl (Nat.le_of_ble_eq_true rfl) ?_
 refine HW.seq ?_
 refine HW.region ?_
 refine oA (.bool false) rfl rfl ?_
 refine HO.nil (thenQ_normal (?_))
 refine HW.seq ?_
 refine HW.region ?_
 refine oM (.int .i64 x) rfl rfl ?_
 refine HO.call (want_none) rfl (ec en_62 rfl rfl) (cmp_isNaN_int_walk (fr := (fr)) x hS hM) ?_
 rintro _ h_1 ⟨F_1, r_2, rfl, hk, hS, hM⟩
 replace hK := hK.trans hk
 refine oM (.bool r_2) rfl rfl ?_
 rcases Bool.eq_false_or_eq_true r_2 with c_1 | c_1
 ·
  replace hM := hM.1 c_1
  refine HO.val (v := .int .i64 y) (want_by rfl rfl c_1) rfl (q_move rfl) ?_
  refine HO.call (want_by rfl rfl c_1) rfl (ec en_62 rfl rfl) (cmp_isNaN_int_walk (fr := (fr)) y hS hM) ?_
  rintro _ h_2 ⟨F_2, r_3, rfl, hk, hS, hM⟩
  replace hK := hK.trans hk
  refine HO.val (v := .bool (!r_3)) (want_by rfl rfl c_1) rfl (q_not rfl) ?_
  refine oV (.bool (!r_3)) (q_pickK true rfl c_1 rfl) rfl ?_
  refine oM (.bool (!r_3)) rfl rfl ?_
  rcases Bool.eq_false_or_eq_true (!r_3) with c_2 | c_2
  ·
   replace hM := hM.1 c_2
   refine HO.past (past_by rfl rfl c_2) rfl ?_
   refine HO.past (past_by rfl rfl c_2) rfl ?_
   refine HO.past (past_by rfl rfl c_2) rfl ?_
   refine oV (.bool true) (q_pickK true rfl c_2 rfl) rfl ?_
   refine oA (.bool true) rfl rfl ?_
   refine HO.nil (thenQ_normal (?_))
   refine HW.ret (?_)
   refine ⟨.inr rfl, .bool true, res1 rfl (rt rfl), ?_⟩
   exact ⟨F_2, true, rfl, hK, hS, hM⟩
  ·
   replace hM := hM.2 c_2
   refine HO.val (v := .int .i64 x) (want_by rfl rfl c_2) rfl (q_move rfl) ?_
   refine HO.val (v := .int .i64 y) (want_by rfl rfl c_2) rfl (q_move rfl) ?_
   refine HO.val (v := .bool (decide (x < y))) (want_by rfl rfl c_2) rfl (q_lss rfl rfl) ?_
   refine oV (.bool (decide (x < y))) (q_pickK false rfl c_2 rfl) rfl ?_
   refine oA (.bool (decide (x < y))) rfl rfl ?_
   refine HO.nil (thenQ_normal (?_))
   refine HW.ret (?_)
   refine ⟨.inr rfl, .bool (decide (x < y)), res1 rfl (rt rfl), ?_⟩
   exact ⟨F_2, decide (x < y), rfl, hK, hS, hM⟩
 ·
  replace hM := hM.2 c_1
  refine HO.past (past_by rfl rfl c_1) rfl ?_
  refine HO.past (past_by rfl rfl c_1) rfl ?_
  refine HO.past (past_by rfl rfl c_1) rfl ?_
  refine oV (.bool false) (q_pickK false rfl c_1 rfl) rfl ?_
  refine oM (.bool false) rfl rfl ?_
  refine HO.val (v := .int .i64 x) (want_some rfl rfl) rfl (q_move rfl) ?_
  refine HO.val (v := .int .i64 y) (want_some rfl rfl) rfl (q_move rfl) ?_
  refine HO.val (v := .bool (decide (x < y))) (want_some rfl rfl) rfl (q_lss rfl rfl) ?_
  refine oV (.bool (decide (x < y))) (q_pick rfl rfl) rfl ?_
  refine oA (.bool (decide (x < y))) rfl rfl ?_
  refine HO.nil (thenQ_normal (?_))
  refine HW.ret (?_)
  refine ⟨.inr rfl, .bool (decide (x < y)), res1 rfl (rt rfl), ?_⟩
  exact ⟨F_1, decide (x < y), rfl, hK, hS, hM⟩

def slices_isNaN_int_W (x : Int) (Q : Bool → Prop) : Prop :=
 Q (!decide (x = x))
set_option maxHeartbeats 40000000 in
set_option maxRecDepth 100000 in
theorem slices_isNaN_int_walk {F : Fz} {fr : List Ow} {h0 : Heap} (x : Int) (hS : St F (fr) h0)  {Q : Bool → Prop} (hM : slices_isNaN_int_W x Q) :
  HC Try.prog 75 #[.int .i64 x] h0 fun u h' => ∃ (F' : Fz) (r_1 : Bool), u = .bool r_1 ∧ Kp F h0 F' h' ∧ St F' (fr) h' ∧ Q r_1 := by
 unfold slices_isNaN_int_W at hM
 have hK := Kp.refl F h0
 refine HC.of_HW (n := 6) Try.func75 rfl rfl (Nat.le_of_ble_eq_true rfl) ?_
 refine HW.seq ?_
 refine HW.region ?_
 refine oA (.bool false) rfl rfl ?_
 refine HO.nil (thenQ_normal (?_))
 refine HW.seq ?_
 refine HW.region ?_
 refine oM (.int .i64 x) rfl rfl ?_
 refine oM (.int .i64 x) rfl rfl ?_
 refine oV (.bool (!decide (x = x))) (q_neq rfl rfl) rfl ?_
 refine oA (.bool (!decide (x = x))) rfl rfl ?_
 refine HO.nil (thenQ_normal (?_))
 refine HW.ret (?_)
 refine ⟨.inr rfl, .bool (!decide (x = x)), res1 rfl (rt rfl), ?_⟩
 exact ⟨F, !decide (x = x), rfl, hK, hS, hM⟩

def slices_BinarySearch_s_int_int_l1 (x : List Int) (target : Int) (Q : Int → Bool → Prop) (K_1 : Int → Int → Prop) (i_1 : Int) (j_1 : Int) : Prop :=
 (i_1 < j_1 → (I64 (i_1 + j_1)) ∧ ((I64 ((IntKind.u64.wrap (i_1 + j_1)).fdiv (2 ^ (min (1 : Int).toNat IntKind.u64.bits)))) ∧ (((0 : Int) ≤ (IntKind.u64.wrap (i_1 + j_1)).fdiv (2 ^ (min (1 : Int).toNat IntKind.u64.bits)) ∧ (IntKind.u64.wrap (i_1 + j_1)).fdiv (2 ^ (min (1 : Int).toNat IntKind.u64.bits)) < (x.length : Int)) ∧ (cmp_Less_int_W (gi x ((IntKind.u64.wrap (i_1 + j_1)).fdiv (2 ^ (min (1 : Int).toNat IntKind.u64.bits)))) target (fun r_1 => (r_1 = true → (I64 (((IntKind.u64.wrap (i_1 + j_1)).fdiv (2 ^ (min (1 : Int).toNat IntKind.u64.bits))) + 1)) ∧ (K_1 (((IntKind.u64.wrap (i_1 + j_1)).fdiv (2 ^ (min (1 : Int).toNat IntKind.u64.bits))) + 1) j_1)) ∧ (r_1 = false → K_1 i_1 ((IntKind.u64.wrap (i_1 + j_1)).fdiv (2 ^ (min (1 : Int).toNat IntKind.u64.bits))))))))) ∧ (¬ (i_1 < j_1) → (i_1 < (x.length : Int) → ((0 : Int) ≤ i_1 ∧ i_1 < (x.length : Int)) ∧ (((gi x i_1) = target → Q i_1 true) ∧ (¬ ((gi x i_1) = target) → slices_isNaN_int_W (gi x i_1) (fun r_2 => (r_2 = true → slices_isNaN_int_W target (fun r_3 => Q i_1 r_3)) ∧ (r_2 = false → Q i_1 false))))) ∧ (¬ (i_1 < (x.length : Int)) → Q i_1 false))
def slices_BinarySearch_s_int_int_W (x : List Int) (target : Int) (Q : Int → Bool → Prop) : Prop :=
 loopW (fun (K_1 : (Int × Int) → Prop) (s : Int × Int) => slices_BinarySearch_s_int_int_l1 x target Q (fun i_1 j_1 => K_1 (i_1, j_1)) s.1 s.2) (0, (x.length : Int))
set_option maxHeartbeats 40000000 in
set_option maxRecDepth 100000 in
theorem slices_BinarySearch_s_int_int_walk {F : Fz} {fr : List Ow} {h0 : Heap} (x : List Int) (target : Int) (vx : Value) (hS : St F (fr) h0) (hL_x : SliceF F h0 1 encI vx x) {Q : Int → Bool → Prop} (hM : slices_BinarySearch_s_int_int_W x target Q) :
  HC Try.prog 48 #[vx, .int .i64 target] h0 fun u h' => ∃ (F' : Fz) (r0_1 : Int) (r1_1 : Bool), u = .tuple #[.int .i64 r0_1, .bool r1_1] ∧ Kp F h0 F' h' ∧ St F' (fr) h' ∧ (SliceF F' h' 1 encI vx x) ∧ Q r0_1 r1_1 := by
 unfold slices_BinarySearch_s_int_int_W at hM
 have hK := Kp.refl F h0
 refine HC.of_HW (n := 54) Try.func48 rfl rfl (Nat.le_of_ble_eq_true rfl) ?_
 refine HW.seq ?_
 refine HW.region ?_
 refine oA (.int .i64 0) rfl rfl ?_
 refine oA (.bool false) rfl rfl ?_
 refine HO.nil (thenQ_normal (?_))
 refine HW.seq ?_
 refine HW.region ?_
 refine oM (vx) rfl rfl ?_
 refine oV (.int .i64 (x.length : Int)) (q_len ts_31 (shp hL_x.is) rfl rfl) rfl ?_
 refine oA (.int .i64 (x.length : Int)) rfl rfl ?_
 refine HO.nil (thenQ_normal (?_))
 refine HW.seq ?_
 refine HW.region ?_
 refine oM (.int .i64 (x.length : Int)) rfl rfl ?_
 refine oA (.int .i64 0) rfl rfl ?_
 refine oA (.int .i64 (x.length : Int)) rfl rfl ?_
 refine HO.nil (thenQ_normal (?_))
 refine HW.seq ?_
 refine HW.block ?_
 obtain ⟨I_1, m_1, hI_1, hR_1⟩ := hM
 refine HW.loop (S := Int × Int) (fun s f h => match s with | (i_1, j_1) => ∃ (F' : Fz), f 0 = vx ∧ f 1 = .int .i64 target ∧ f 4 = .int .i64 0 ∧ f 5 = .bool false ∧ f 6 = .int .i64 (x.length : Int) ∧ f 7 = .int .i64 i_1 ∧ f 8 = .int .i64 j_1 ∧ Kp F h0 F' h ∧ St F' (fr) h ∧ (SliceF F' h 1 encI vx x) ∧ I_1 (i_1, j_1)) m_1 (0, (x.length : Int)) ⟨F, rfl, rfl, rfl, rfl, rfl, rfl, rfl, hK, hS, hL_x, hI_1⟩ ?_
 rintro ⟨i_1, j_1⟩ f_1 h_1 ⟨F_1, e0, e1, e4, e5, e6, e7, e8, hK, hS, hL_x, hI0⟩
 obtain ⟨K_1, hKe_1⟩ : ∃ K : Int → Int → Prop, K = fun i_1' j_1' => I_1 (i_1', j_1') ∧ m_1 (i_1', j_1') < m_1 (i_1, j_1) := ⟨_, rfl⟩
 have hM : slices_BinarySearch_s_int_int_l1 x target Q K_1 i_1 j_1 := by rw [hKe_1]; exact hR_1 (i_1, j_1) hI0
 unfold slices_BinarySearch_s_int_int_l1 at hM
 refine HW.fr [(0, vx), (1, .int .i64 target), (4, .int .i64 0), (5, .bool false), (6, .int .i64 (x.length : Int)), (7, .int .i64 i_1), (8, .int .i64 j_1)] ⟨e0, e1, e4, e5, e6, e7, e8, trivial⟩ ?_
 refine HW.seq ?_
 refine HW.seq ?_
 refine HW.region ?_
 refine oM (.int .i64 i_1) rfl rfl ?_
 refine oM (.int .i64 j_1) rfl rfl ?_
 refine oV (.bool (decide (i_1 < j_1))) (q_lss rfl rfl) rfl ?_
 refine HO.nil (thenQ_normal (?_))
 refine HW.cond (decide (i_1 < j_1)) rfl (fun c_1 => ?_) (fun c_1 => ?_)
 ·
  replace hM := hM.1 (of_decide_eq_true c_1)
  refine HW.skip (thenQ_normal (?_))
  refine HW.block ?_
  refine HW.seq ?_
  refine HW.region ?_
  refine oM (.int .i64 i_1) rfl rfl ?_
  refine oM (.int .i64 j_1) rfl rfl ?_
  obtain ⟨ho_1, hM⟩ := hM
  refine oV (.int .i64 (i_1 + j_1)) (q_addN _ rfl rfl rfl ho_1.1 ho_1.2) rfl ?_
  refine oV (.int .u64 (IntKind.u64.wrap (i_1 + j_1))) (q_convInt (n := i_1 + j_1) Try.underlying3 Try.underlying81 rfl rfl) rfl ?_
  refine oV (.int .u64 ((IntKind.u64.wrap (i_1 + j_1)).fdiv (2 ^ (min (1 : Int).toNat IntKind.u64.bits)))) (q_shr rfl rfl (by decide) rfl) rfl ?_
  obtain ⟨ho_2, hM⟩ := hM
  refine oV (.int .i64 ((IntKind.u64.wrap (i_1 + j_1)).fdiv (2 ^ (min (1 : Int).toNat IntKind.u64.bits)))) (q_convInt Try.underlying81 Try.underlying3 rfl (wrap_i64 ho_2.1 ho_2.2)) rfl ?_
  refine oA (.int .i64 ((IntKind.u64.wrap (i_1 + j_1)).fdiv (2 ^ (min (1 : Int).toNat IntKind.u64.bits)))) rfl rfl ?_
  refine HO.nil (thenQ_normal (?_))
  refine HW.seq ?_
  refine HW.region ?_
  refine oM (vx) rfl rfl ?_
  refine oM (.int .i64 ((IntKind.u64.wrap (i_1 + j_1)).fdiv (2 ^ (min (1 : Int).toNat IntKind.u64.bits)))) rfl rfl ?_
  obtain ⟨ho_3, hM⟩ := hM
  refine oV (elemPtr 1 vx ((IntKind.u64.wrap (i_1 + j_1)).fdiv (2 ^ (min (1 : Int).toNat IntKind.u64.bits))).toNat) (q_idx ts_31 hL_x.is rfl rfl ho_3) rfl ?_
  refine oV (.int .i64 (gi x ((IntKind.u64.wrap (i_1 + j_1)).fdiv (2 ^ (min (1 : Int).toNat IntKind.u64.bits))))) (q_ldElem to_3 hL_x.is rfl ho_3 rfl) rfl ?_
  refine oM (.int .i64 target) rfl rfl ?_
  refine HO.call (want_none) rfl (ec en_74 rfl rfl) (cmp_Less_int_walk (fr := (fr)) (gi x ((IntKind.u64.wrap (i_1 + j_1)).fdiv (2 ^ (min (1 : Int).toNat IntKind.u64.bits)))) target hS hM) ?_
  rintro _ h_2 ⟨F_2, r_1, rfl, hk, hS, hM⟩
  replace hK := hK.trans hk
  replace hL_x := hL_x.kp hk
  refine HO.nil (thenQ_normal (?_))
  refine HW.cond r_1 rfl (fun c_2 => ?_) (fun c_2 => ?_)
  ·
   replace hM := hM.1 c_2
   refine HW.region ?_
   refine oM (.int .i64 ((IntKind.u64.wrap (i_1 + j_1)).fdiv (2 ^ (min (1 : Int).toNat IntKind.u64.bits)))) rfl rfl ?_
   obtain ⟨ho_4, hM⟩ := hM
   refine oV (.int .i64 (((IntKind.u64.wrap (i_1 + j_1)).fdiv (2 ^ (min (1 : Int).toNat IntKind.u64.bits))) + 1)) (q_addN _ rfl rfl rfl ho_4.1 ho_4.2) rfl ?_
   refine oA (.int .i64 (((IntKind.u64.wrap (i_1 + j_1)).fdiv (2 ^ (min (1 : Int).toNat IntKind.u64.bits))) + 1)) rfl rfl ?_
   refine HO.nil (blockQ_normal (thenQ_normal (?_)))
   rw [hKe_1] at hM
   exact ⟨(((IntKind.u64.wrap (i_1 + j_1)).fdiv (2 ^ (min (1 : Int).toNat IntKind.u64.bits))) + 1, j_1), ⟨F_2, rfl, rfl, rfl, rfl, rfl, rfl, rfl, hK, hS, hL_x, hM.1⟩, hM.2⟩
  ·
   replace hM := hM.2 c_2
   refine HW.region ?_
   refine oM (.int .i64 ((IntKind.u64.wrap (i_1 + j_1)).fdiv (2 ^ (min (1 : Int).toNat IntKind.u64.bits)))) rfl rfl ?_
   refine oA (.int .i64 ((IntKind.u64.wrap (i_1 + j_1)).fdiv (2 ^ (min (1 : Int).toNat IntKind.u64.bits)))) rfl rfl ?_
   refine HO.nil (blockQ_normal (thenQ_normal (?_)))
   rw [hKe_1] at hM
   exact ⟨(i_1, (IntKind.u64.wrap (i_1 + j_1)).fdiv (2 ^ (min (1 : Int).toNat IntKind.u64.bits))), ⟨F_2, rfl, rfl, rfl, rfl, rfl, rfl, rfl, hK, hS, hL_x, hM.1⟩, hM.2⟩
 ·
  replace hM := hM.2 (of_decide_eq_false c_1)
  refine HW.exit (thenQ_exit (thenQ_exit (blockQ_exit (thenQ_normal (?_)))))
  refine HW.seq ?_
  refine HW.region ?_
  refine oM (.int .i64 i_1) rfl rfl ?_
  refine oM (.int .i64 i_1) rfl rfl ?_
  refine oM (.int .i64 (x.length : Int)) rfl rfl ?_
  refine oV (.bool (decide (i_1 < (x.length : Int)))) (q_lss rfl rfl) rfl ?_
  refine oM (.bool (decide (i_1 < (x.length : Int)))) rfl rfl ?_
  rcases Bool.eq_false_or_eq_true (decide (i_1 < (x.length : Int))) with c_3 | c_3
  ·
   replace hM := hM.1 (of_decide_eq_true c_3)
   refine HO.val (v := vx) (want_by rfl rfl c_3) rfl (q_move rfl) ?_
   refine HO.val (v := .int .i64 i_1) (want_by rfl rfl c_3) rfl (q_move rfl) ?_
   obtain ⟨ho_5, hM⟩ := hM
   refine HO.val (v := elemPtr 1 vx (i_1).toNat) (want_by rfl rfl c_3) rfl (q_idx ts_31 hL_x.is rfl rfl ho_5) ?_
   refine HO.val (v := .int .i64 (gi x i_1)) (want_by rfl rfl c_3) rfl (q_ldElem to_3 hL_x.is rfl ho_5 rfl) ?_
   refine HO.val (v := .int .i64 target) (want_by rfl rfl c_3) rfl (q_move rfl) ?_
   refine HO.val (v := .bool (decide ((gi x i_1) = target))) (want_by rfl rfl c_3) rfl (q_eql rfl rfl) ?_
   refine HO.val (v := .bool (decide ((gi x i_1) = target))) (want_by rfl rfl c_3) rfl (q_move rfl) ?_
   rcases Bool.eq_false_or_eq_true (decide ((gi x i_1) = target)) with c_4 | c_4
   ·
    replace hM := hM.1 (of_decide_eq_true c_4)
    refine HO.past (past_by rfl rfl c_4) rfl ?_
    refine HO.past (past_by rfl rfl c_4) rfl ?_
    refine HO.past (past_by rfl rfl c_4) rfl ?_
    refine HO.past (past_by rfl rfl c_4) rfl ?_
    refine HO.past (past_by rfl rfl c_4) rfl ?_
    refine HO.past (past_by rfl rfl c_4) rfl ?_
    refine HO.past (past_undef rfl rfl) rfl ?_
    refine HO.past (past_undef rfl rfl) rfl ?_
    refine HO.past (past_by rfl rfl c_4) rfl ?_
    refine HO.val (v := .bool true) (want_by rfl rfl c_3) rfl (q_pickK true rfl c_4 rfl) ?_
    refine oV (.bool true) (q_pickK true rfl c_3 rfl) rfl ?_
    refine oA (.int .i64 i_1) rfl rfl ?_
    refine oA (.bool true) rfl rfl ?_
    refine HO.nil (thenQ_normal (?_))
    refine HW.ret (?_)
    refine ⟨.inr rfl, .tuple #[.int .i64 i_1, .bool true], res2 rfl (rt rfl) (rt rfl), ?_⟩
    exact ⟨F_1, i_1, true, rfl, hK, hS, hL_x, hM⟩
   ·
    replace hM := hM.2 (of_decide_eq_false c_4)
    refine HO.val (v := vx) (want_by rfl rfl c_4) rfl (q_move rfl) ?_
    refine HO.val (v := .int .i64 i_1) (want_by rfl rfl c_4) rfl (q_move rfl) ?_
    refine HO.val (v := elemPtr 1 vx (i_1).toNat) (want_by rfl rfl c_4) rfl (q_idx ts_31 hL_x.is rfl rfl ho_5) ?_
    refine HO.val (v := .int .i64 (gi x i_1)) (want_by rfl rfl c_4) rfl (q_ldElem to_3 hL_x.is rfl ho_5 rfl) ?_
    refine HO.call (want_by rfl rfl c_4) rfl (ec en_75 rfl rfl) (slices_isNaN_int_walk (fr := (fr)) (gi x i_1) hS hM) ?_
    rintro _ h_3 ⟨F_3, r_2, rfl, hk, hS, hM⟩
    replace hK := hK.trans hk
    replace hL_x := hL_x.kp hk
    refine HO.val (v := .bool r_2) (want_by rfl rfl c_4) rfl (q_move rfl) ?_
    rcases Bool.eq_false_or_eq_true r_2 with c_5 | c_5
    ·
     replace hM := hM.1 c_5
     refine HO.val (v := .int .i64 target) (want_by rfl rfl c_5) rfl (q_move rfl) ?_
     refine HO.call (want_by rfl rfl c_5) rfl (ec en_75 rfl rfl) (slices_isNaN_int_walk (fr := (fr)) target hS hM) ?_
     rintro _ h_4 ⟨F_4, r_3, rfl, hk, hS, hM⟩
     replace hK := hK.trans hk
     replace hL_x := hL_x.kp hk
     refine HO.val (v := .bool r_3) (want_by rfl rfl c_4) rfl (q_pickK true rfl c_5 rfl) ?_
     refine HO.val (v := .bool r_3) (want_by rfl rfl c_3) rfl (q_pickK false rfl c_4 rfl) ?_
     refine oV (.bool r_3) (q_pickK true rfl c_3 rfl) rfl ?_
     refine oA (.int .i64 i_1) rfl rfl ?_
     refine oA (.bool r_3) rfl rfl ?_
     refine HO.nil (thenQ_normal (?_))
     refine HW.ret (?_)
     refine ⟨.inr rfl, .tuple #[.int .i64 i_1, .bool r_3], res2 rfl (rt rfl) (rt rfl), ?_⟩
     exact ⟨F_4, i_1, r_3, rfl, hK, hS, hL_x, hM⟩
    ·
     replace hM := hM.2 c_5
     refine HO.past (past_by rfl rfl c_5) rfl ?_
     refine HO.past (past_by rfl rfl c_5) rfl ?_
     refine HO.val (v := .bool false) (want_by rfl rfl c_4) rfl (q_pickK false rfl c_5 rfl) ?_
     refine HO.val (v := .bool false) (want_by rfl rfl c_3) rfl (q_pickK false rfl c_4 rfl) ?_
     refine oV (.bool false) (q_pickK true rfl c_3 rfl) rfl ?_
     refine oA (.int .i64 i_1) rfl rfl ?_
     refine oA (.bool false) rfl rfl ?_
     refine HO.nil (thenQ_normal (?_))
     refine HW.ret (?_)
     refine ⟨.inr rfl, .tuple #[.int .i64 i_1, .bool false], res2 rfl (rt rfl) (rt rfl), ?_⟩
     exact ⟨F_3, i_1, false, rfl, hK, hS, hL_x, hM⟩
  ·
   replace hM := hM.2 (of_decide_eq_false c_3)
   refine HO.past (past_by rfl rfl c_3) rfl ?_
   refine HO.past (past_by rfl rfl c_3) rfl ?_
   refine HO.past (past_by rfl rfl c_3) rfl ?_
   refine HO.past (past_by rfl rfl c_3) rfl ?_
   refine HO.past (past_by rfl rfl c_3) rfl ?_
   refine HO.past (past_by rfl rfl c_3) rfl ?_
   refine HO.past (past_by rfl rfl c_3) rfl ?_
   refine HO.past (past_undef rfl rfl) rfl ?_
   refine HO.past (past_undef rfl rfl) rfl ?_
   refine HO.past (past_undef rfl rfl) rfl ?_
   refine HO.past (past_undef rfl rfl) rfl ?_
   refine HO.past (past_undef rfl rfl) rfl ?_
   refine HO.past (past_undef rfl rfl) rfl ?_
   refine HO.past (past_undef rfl rfl) rfl ?_
   refine HO.past (past_undef rfl rfl) rfl ?_
   refine HO.past (past_undef rfl rfl) rfl ?_
   refine HO.past (past_by rfl rfl c_3) rfl ?_
   refine oV (.bool false) (q_pickK false rfl c_3 rfl) rfl ?_
   refine oA (.int .i64 i_1) rfl rfl ?_
   refine oA (.bool false) rfl rfl ?_
   refine HO.nil (thenQ_normal (?_))
   refine HW.ret (?_)
   refine ⟨.inr rfl, .tuple #[.int .i64 i_1, .bool false], res2 rfl (rt rfl) (rt rfl), ?_⟩
   exact ⟨F_1, i_1, false, rfl, hK, hS, hL_x, hM⟩

def tree_Fan_l1 (Q : Int → Prop) (K_1 : Int → (List (Int × Value × List Int)) → Prop) (most_1 : Int) (rem_1 : List (Int × Value × List Int)) : Prop :=
 (rem_1 = [] → Q most_1) ∧ (∀ (p_1 : Int × Value × List Int) (rem_2 : List (Int × Value × List Int)), List.Perm rem_1 (p_1 :: rem_2) → K_1 (max most_1 (p_1.2.2.length : Int)) rem_2)
def tree_Fan_W (t_Root : Int) (t_Links : List T_api_Branch) (Q : Int → Prop) : Prop :=
 tree_nexts_W t_Root t_Links (fun r_2 => loopW (fun (K_1 : (Int × List (Int × Value × List Int)) → Prop) (s : Int × List (Int × Value × List Int)) => tree_Fan_l1 Q (fun most_1 rem_1 => K_1 (most_1, rem_1)) s.1 s.2) (0, r_2))
set_option maxHeartbeats 40000000 in
set_option maxRecDepth 100000 in
theorem tree_Fan_walk {F : Fz} {fr : List Ow} {h0 : Heap} (t_Root : Int) (t_Links : List T_api_Branch) (vt_Links : Value) (hS : St F (fr) h0) (hL_t_Links : SliceF F h0 2 e_api_Branch vt_Links t_Links) {Q : Int → Prop} (hM : tree_Fan_W t_Root t_Links Q) :
  HC Try.prog 49 #[.agg #[.int .i64 t_Root, vt_Links]] h0 fun u h' => ∃ (F' : Fz) (r_1 : Int), u = .int .i64 r_1 ∧ Kp F h0 F' h' ∧ St F' (fr) h' ∧ (SliceF F' h' 2 e_api_Branch vt_Links t_Links) ∧ Q r_1 := by
 unfold tree_Fan_W at hM
 have hK := Kp.refl F h0
 refine HC.of_HW (n := 18) Try.func49 rfl rfl (Nat.le_of_ble_eq_true rfl) ?_
 refine HW.seq ?_
 refine HW.region ?_
 refine HO.eff (want_none) rfl (st_box (c := #[.int .i64 t_Root, vt_Links]) (k' := 2) hS rfl rfl) ?_
 rintro _ h_1 ⟨b_1, rfl, hS, hk⟩
 replace hK := hK.trans hk
 replace hL_t_Links := hL_t_Links.kp hk
 refine oA (.int .i64 0) rfl rfl ?_
 refine HO.nil (thenQ_normal (?_))
 refine HW.seq ?_
 refine HW.region ?_
 refine oA (.int .i64 0) rfl rfl ?_
 refine HO.nil (thenQ_normal (?_))
 refine HW.seq ?_
 refine HW.seq ?_
 refine HW.region ?_
 refine oV (.agg #[.int .i64 t_Root, vt_Links]) (q_loadAgg (cs := [.int .i64 t_Root, vt_Links]) ta_46 rfl rfl (Blk.cells (k := 2) (hS.box 0 rfl) rfl)) rfl ?_
 refine HO.call (want_none) rfl (ec en_69 rfl rfl) (tree_nexts_walk (fr := (Ow.box b_1 46 #[.int .i64 t_Root, vt_Links] :: fr)) t_Root t_Links vt_Links hS hL_t_Links hM) ?_
 rintro _ h_2 ⟨F_1, r_2, r_3, rfl, hk, hS, _, hM⟩
 replace hK := hK.trans hk
 replace hL_t_Links := hL_t_Links.kp hk
 obtain ⟨F_2, hS, hk, hN_1⟩ := hS.bagOpen
 replace hK := hK.trans hk
 replace hL_t_Links := hL_t_Links.kp hk
 refine HO.eff (want_none) rfl (st_range hS (i := 0) rfl Try.underlying90 rfl) ?_
 rintro _ h_3 ⟨it_1, rfl, hS, hk⟩
 replace hS : St F_2 (Ow.iter it_1 r_3 kI bagV r_2 r_2 :: Ow.box b_1 46 #[.int .i64 t_Root, vt_Links] :: fr) h_3 := hS
 replace hK := hK.trans hk
 replace hL_t_Links := hL_t_Links.kp hk
 replace hN_1 := hN_1.kp hk
 refine HO.nil (thenQ_normal (?_))
 refine HW.block ?_
 obtain ⟨I_1, m_1, hI_1, hR_1⟩ := hM
 replace hS : St F_2 (Ow.iter it_1 r_3 kI bagV r_2 r_2 :: fr) h_3 := hS.perm2 [0] 2 rfl rfl
 refine HW.loop (S := Int × List (Int × Value × List Int)) (fun s f h => match s with | (most_1, rem_1) => ∃ (F' : Fz), f 2 = .int .i64 0 ∧ f 3 = .int .i64 most_1 ∧ f 8 = .pointer (some ⟨it_1, 0, none⟩) ∧ Kp F h0 F' h ∧ St F' (Ow.iter it_1 r_3 kI bagV r_2 rem_1 :: fr) h ∧ (SliceF F' h 2 e_api_Branch vt_Links t_Links) ∧ (NfB 1 encI F' h r_2) ∧ (NfB 1 encI F' h rem_1) ∧ I_1 (most_1, rem_1)) m_1 (0, r_2) ⟨F_2, rfl, rfl, rfl, hK, hS, hL_t_Links, hN_1, hN_1, hI_1⟩ ?_
 rintro ⟨most_1, rem_1⟩ f_1 h_4 ⟨F_3, e2, e3, e8, hK, hS, hL_t_Links, hN_1, hN_2, hI0⟩
 obtain ⟨K_1, hKe_1⟩ : ∃ K : Int → (List (Int × Value × List Int)) → Prop, K = fun most_1' rem_1' => I_1 (most_1', rem_1') ∧ m_1 (most_1', rem_1') < m_1 (most_1, rem_1) := ⟨_, rfl⟩
 have hM : tree_Fan_l1 Q K_1 most_1 rem_1 := by rw [hKe_1]; exact hR_1 (most_1, rem_1) hI0
 unfold tree_Fan_l1 at hM
 refine HW.fr [(2, .int .i64 0), (3, .int .i64 most_1), (8, .pointer (some ⟨it_1, 0, none⟩))] ⟨e2, e3, e8, trivial⟩ ?_
 refine HW.seq ?_
 refine HW.region ?_
 refine HO.eff (want_none) rfl (st_next hS (i := 0) rfl rfl) ?_
 rintro _ h_5 (⟨hrem, rfl, hEq⟩ | ⟨p_1, rem_2, hperm, rfl, hS, hk⟩)
 ·
  rw [hEq]
  replace hM := hM.1 hrem
  replace hS := hS.done 0 rfl
  replace hS : St F_3 (Ow.map r_3 kI bagV r_2 :: fr) h_4 := hS
  refine oV (.bool false) (q_extract rfl rfl) rfl ?_
  refine HO.nil (thenQ_normal (?_))
  refine HW.seq ?_
  refine HW.condF rfl ?_
  refine HW.exit (thenQ_exit (thenQ_exit (blockQ_exit (thenQ_normal (?_)))))
  refine HW.seq ?_
  refine HW.region ?_
  refine oM (.int .i64 most_1) rfl rfl ?_
  refine oA (.int .i64 most_1) rfl rfl ?_
  refine HO.nil (thenQ_normal (?_))
  refine HW.ret (?_)
  refine ⟨.inr rfl, .int .i64 most_1, res1 rfl (rt rfl), ?_⟩
  replace hS : St F_3 (fr) h_4 := hS.perm2 [] 1 rfl rfl
  exact ⟨F_3, most_1, rfl, hK, hS, hL_t_Links, hM⟩
 ·
  replace hM := hM.2 p_1 rem_2 hperm
  replace hS : St F_3 (Ow.cur it_1 r_3 kI bagV r_2 rem_2 p_1 :: fr) h_5 := hS
  replace hK := hK.trans hk
  replace hL_t_Links := hL_t_Links.kp hk
  replace hN_1 := hN_1.kp hk
  replace hN_2 := hN_2.kp hk
  have hN_3 : NfB 1 encI F_3 h_5 rem_2 := ⟨fun p_ hp_ => hN_2.all p_ (hperm.mem_iff.2 (List.mem_cons_of_mem _ hp_))⟩
  have hL_1 : SliceF F_3 h_5 1 encI p_1.2.1 p_1.2.2 := hN_2.all p_1 (hperm.mem_iff.2 (List.mem_cons_self ..))
  refine oV (.bool true) (q_extract rfl rfl) rfl ?_
  refine HO.nil (thenQ_normal (?_))
  refine HW.seq ?_
  refine HW.condT rfl ?_
  refine HW.skip (thenQ_normal (?_))
  refine HW.block ?_
  refine HW.seq ?_
  refine HW.region ?_
  refine oV (.tuple #[.int .i64 p_1.1, p_1.2.1]) (q_entry (hS.cu 0 rfl) rfl) rfl ?_
  refine oV (p_1.2.1) (q_extract rfl rfl) rfl ?_
  refine oA (p_1.2.1) rfl rfl ?_
  refine HO.nil (thenQ_normal (?_))
  refine HW.region ?_
  refine oM (.int .i64 most_1) rfl rfl ?_
  refine oM (p_1.2.1) rfl rfl ?_
  refine oV (.int .i64 (p_1.2.2.length : Int)) (q_len ts_31 (shp hL_1.is) rfl rfl) rfl ?_
  refine oV (.int .i64 (max most_1 (p_1.2.2.length : Int))) (q_max rfl rfl) rfl ?_
  refine oA (.int .i64 (max most_1 (p_1.2.2.length : Int))) rfl rfl ?_
  refine HO.nil (blockQ_normal (thenQ_normal (?_)))
  replace hS := hS.again 0 rfl
  replace hS : St F_3 (Ow.iter it_1 r_3 kI bagV r_2 rem_2 :: fr) h_5 := hS
  rw [hKe_1] at hM
  exact ⟨(max most_1 (p_1.2.2.length : Int), rem_2), ⟨F_3, rfl, rfl, rfl, hK, hS, hL_t_Links, hN_1, hN_3, hM.1⟩, hM.2⟩

def slices_Equal_s_api_Branch_api_Branch_l1 (s1 : List T_api_Branch) (s2 : List T_api_Branch) (Q : Bool → Prop) (K_1 : Int → Prop) (n_1 : Int) : Prop :=
 (n_1 < (s1.length : Int) → ((0 : Int) ≤ n_1 ∧ n_1 < (s1.length : Int)) ∧ (((0 : Int) ≤ n_1 ∧ n_1 < (s2.length : Int)) ∧ ((¬ (((gi s1 n_1) : T_api_Branch) = (gi s2 n_1)) → Q false) ∧ (((gi s1 n_1) : T_api_Branch) = (gi s2 n_1) → (I64 (n_1 + 1)) ∧ (K_1 (n_1 + 1)))))) ∧ (¬ (n_1 < (s1.length : Int)) → Q true)
def slices_Equal_s_api_Branch_api_Branch_W (s1 : List T_api_Branch) (s2 : List T_api_Branch) (Q : Bool → Prop) : Prop :=
 (¬ ((s1.length : Int) = (s2.length : Int)) → Q false) ∧ ((s1.length : Int) = (s2.length : Int) → loopW (fun (K_1 : Int → Prop) (s : Int) => slices_Equal_s_api_Branch_api_Branch_l1 s1 s2 Q K_1 s) 0)
set_option maxHeartbeats 40000000 in
set_option maxRecDepth 100000 in
theorem slices_Equal_s_api_Branch_api_Branch_walk {F : Fz} {fr : List Ow} {h0 : Heap} (s1 : List T_api_Branch) (s2 : List T_api_Branch) (vs1 : Value) (vs2 : Value) (hS : St F (fr) h0) (hL_s1 : SliceF F h0 2 e_api_Branch vs1 s1) (hL_s2 : SliceF F h0 2 e_api_Branch vs2 s2) {Q : Bool → Prop} (hM : slices_Equal_s_api_Branch_api_Branch_W s1 s2 Q) :
  HC Try.prog 76 #[vs1, vs2] h0 fun u h' => ∃ (F' : Fz) (r_1 : Bool), u = .bool r_1 ∧ Kp F h0 F' h' ∧ St F' (fr) h' ∧ (SliceF F' h' 2 e_api_Branch vs1 s1) ∧ (SliceF F' h' 2 e_api_Branch vs2 s2) ∧ Q r_1 := by
 unfold slices_Equal_s_api_Branch_api_Branch_W at hM
 have hK := Kp.refl F h0
 refine HC.of_HW (n := 26) Try.func76 rfl rfl (Nat.le_of_ble_eq_true rfl) ?_
 refine HW.seq ?_
 refine HW.region ?_
 refine oA (.bool false) rfl rfl ?_
 refine HO.nil (thenQ_normal (?_))
 refine HW.seq ?_
 refine HW.seq ?_
 refine HW.region ?_
 refine oM (vs1) rfl rfl ?_
 refine oV (.int .i64 (s1.length : Int)) (q_len ts_44 (shp hL_s1.is) rfl rfl) rfl ?_
 refine oM (vs2) rfl rfl ?_
 refine oV (.int .i64 (s2.length : Int)) (q_len ts_44 (shp hL_s2.is) rfl rfl) rfl ?_
 refine oV (.bool (!decide ((s1.length : Int) = (s2.length : Int)))) (q_neq rfl rfl) rfl ?_
 refine HO.nil (thenQ_normal (?_))
 refine HW.cond (!decide ((s1.length : Int) = (s2.length : Int))) rfl (fun c_1 => ?_) (fun c_1 => ?_)
 ·
  replace hM := hM.1 (nd_true c_1)
  refine HW.seq ?_
  refine HW.region ?_
  refine oA (.bool false) rfl rfl ?_
  refine HO.nil (thenQ_normal (?_))
  refine HW.ret (thenQ_ret (?_))
  refine ⟨.inr rfl, .bool false, res1 rfl (rt rfl), ?_⟩
  exact ⟨F, false, rfl, hK, hS, hL_s1, hL_s2, hM⟩
 ·
  replace hM := hM.2 (nd_false c_1)
  refine HW.skip (thenQ_normal (?_))
  refine HW.seq ?_
  refine HW.seq ?_
  refine HW.region ?_
  refine oM (vs1) rfl rfl ?_
  refine oV (.int .i64 (s1.length : Int)) (q_len ts_44 (shp hL_s1.is) rfl rfl) rfl ?_
  refine oM (.int .i64 0) rfl rfl ?_
  refine HO.nil (thenQ_normal (?_))
  refine HW.block ?_
  obtain ⟨I_1, m_1, hI_1, hR_1⟩ := hM
  refine HW.loop (S := Int) (fun n_1 f h => ∃ (F' : Fz), f 0 = vs1 ∧ f 1 = vs2 ∧ f 4 = .bool false ∧ f 12 = .int .i64 (s1.length : Int) ∧ f 13 = .int .i64 n_1 ∧ Kp F h0 F' h ∧ St F' (fr) h ∧ (SliceF F' h 2 e_api_Branch vs1 s1) ∧ (SliceF F' h 2 e_api_Branch vs2 s2) ∧ I_1 n_1) m_1 0 ⟨F, rfl, rfl, rfl, rfl, rfl, hK, hS, hL_s1, hL_s2, hI_1⟩ ?_
  rintro n_1 f_1 h_1 ⟨F_1, e0, e1, e4, e12, e13, hK, hS, hL_s1, hL_s2, hI0⟩
  obtain ⟨K_1, hKe_1⟩ : ∃ K : Int → Prop, K = fun n_1' => I_1 n_1' ∧ m_1 n_1' < m_1 n_1 := ⟨_, rfl⟩
  have hM : slices_Equal_s_api_Branch_api_Branch_l1 s1 s2 Q K_1 n_1 := by rw [hKe_1]; exact hR_1 n_1 hI0
  unfold slices_Equal_s_api_Branch_api_Branch_l1 at hM
  refine HW.fr [(0, vs1), (1, vs2), (4, .bool false), (12, .int .i64 (s1.length : Int)), (13, .int .i64 n_1)] ⟨e0, e1, e4, e12, e13, trivial⟩ ?_
  refine HW.seq ?_
  refine HW.region ?_
  refine oV (.bool (decide (n_1 < (s1.length : Int)))) (q_lss rfl rfl) rfl ?_
  refine HO.nil (thenQ_normal (?_))
  refine HW.seq ?_
  refine HW.cond (decide (n_1 < (s1.length : Int))) rfl (fun c_2 => ?_) (fun c_2 => ?_)
  ·
   replace hM := hM.1 (of_decide_eq_true c_2)
   refine HW.skip (thenQ_normal (?_))
   refine HW.seq ?_
   refine HW.block ?_
   refine HW.seq ?_
   refine HW.region ?_
   refine oM (.int .i64 n_1) rfl rfl ?_
   refine oA (.int .i64 n_1) rfl rfl ?_
   refine HO.nil (thenQ_normal (?_))
   refine HW.seq ?_
   refine HW.regionA 9 mixed (fun h => (SliceIs h 2 e_api_Branch vs1 s1) ∧ (SliceIs h 2 e_api_Branch vs2 s2)) [] (by kernel_rfl) ?_
   refine HA.val (k := 0) (v := vs1) rfl rfl (by kernel_rfl) (by kernel_rfl) (want_none) rfl (fun _ ⟨hL_s1, hL_s2⟩ => q_move rfl) ?_
   refine HA.val (k := 1) (v := .int .i64 n_1) rfl rfl (by kernel_rfl) (by kernel_rfl) (want_none) rfl (fun _ ⟨hL_s1, hL_s2⟩ => q_move rfl) ?_
   obtain ⟨ho_1, hM⟩ := hM
   refine HA.val (k := 2) (v := elemPtr 2 vs1 (n_1).toNat) rfl rfl (by kernel_rfl) (by kernel_rfl) (want_none) rfl (fun _ ⟨hL_s1, hL_s2⟩ => q_idx ts_44 hL_s1 rfl rfl ho_1) ?_
   refine HA.val (k := 3) (v := .agg #[.int .i64 ((gi s1 n_1).1), .int .i64 ((gi s1 n_1).2)]) rfl rfl (by kernel_rfl) (by kernel_rfl) (want_none) rfl (fun _ ⟨hL_s1, hL_s2⟩ => q_ldElemAgg (cs := [.int .i64 ((gi s1 n_1).1), .int .i64 ((gi s1 n_1).2)]) ta_67 hL_s1 rfl ho_1 rfl) ?_
   refine HA.val (k := 4) (v := vs2) rfl rfl (by kernel_rfl) (by kernel_rfl) (want_none) rfl (fun _ ⟨hL_s1, hL_s2⟩ => q_move rfl) ?_
   refine HA.val (k := 5) (v := .int .i64 n_1) rfl rfl (by kernel_rfl) (by kernel_rfl) (want_none) rfl (fun _ ⟨hL_s1, hL_s2⟩ => q_move rfl) ?_
   obtain ⟨ho_2, hM⟩ := hM
   refine HA.val (k := 6) (v := elemPtr 2 vs2 (n_1).toNat) rfl rfl (by kernel_rfl) (by kernel_rfl) (want_none) rfl (fun _ ⟨hL_s1, hL_s2⟩ => q_idx ts_44 hL_s2 rfl rfl ho_2) ?_
   refine HA.val (k := 7) (v := .agg #[.int .i64 ((gi s2 n_1).1), .int .i64 ((gi s2 n_1).2)]) rfl rfl (by kernel_rfl) (by kernel_rfl) (want_none) rfl (fun _ ⟨hL_s1, hL_s2⟩ => q_ldElemAgg (cs := [.int .i64 ((gi s2 n_1).1), .int .i64 ((gi s2 n_1).2)]) ta_67 hL_s2 rfl ho_2 rfl) ?_
   refine HA.val (k := 8) (v := .bool (!decide (((gi s1 n_1) : T_api_Branch) = (gi s2 n_1)))) rfl rfl (by kernel_rfl) (by kernel_rfl) (want_none) rfl (fun _ ⟨hL_s1, hL_s2⟩ => q_neqAgg (a := (gi s1 n_1)) (b := (gi s2 n_1)) (fun a b w => teq_67 9998 a b w) (by kernel_rfl) rfl rfl rfl rfl) ?_
   refine HA.nil ⟨⟨hL_s1.is, hL_s2.is⟩, (Go.Wk.at_nil _ _)⟩ (by kernel_rfl) (thenQ_normal (?_))
   refine HW.cond (!decide (((gi s1 n_1) : T_api_Branch) = (gi s2 n_1))) rfl (fun c_3 => ?_) (fun c_3 => ?_)
   ·
    replace hM := hM.1 (nd_true c_3)
    refine HW.seq ?_
    refine HW.region ?_
    refine oA (.bool false) rfl rfl ?_
    refine HO.nil (thenQ_normal (?_))
    refine HW.ret (blockQ_ret (thenQ_ret (thenQ_ret (blockQ_ret (thenQ_ret (?_))))))
    refine ⟨.inr rfl, .bool false, res1 rfl (rt rfl), ?_⟩
    exact ⟨F_1, false, rfl, hK, hS, hL_s1, hL_s2, hM⟩
   ·
    replace hM := hM.2 (nd_false c_3)
    refine HW.skip (blockQ_normal (thenQ_normal (?_)))
    refine HW.region ?_
    obtain ⟨ho_3, hM⟩ := hM
    refine oV (.int .i64 (n_1 + 1)) (q_addN _ rfl rfl rfl ho_3.1 ho_3.2) rfl ?_
    refine oM (.int .i64 (n_1 + 1)) rfl rfl ?_
    refine HO.nil (thenQ_normal (?_))
    rw [hKe_1] at hM
    exact ⟨n_1 + 1, ⟨F_1, rfl, rfl, rfl, rfl, rfl, hK, hS, hL_s1, hL_s2, hM.1⟩, hM.2⟩
  ·
   replace hM := hM.2 (of_decide_eq_false c_2)
   refine HW.exit (thenQ_exit (thenQ_exit (blockQ_exit (thenQ_normal (?_)))))
   refine HW.seq ?_
   refine HW.region ?_
   refine oA (.bool true) rfl rfl ?_
   refine HO.nil (thenQ_normal (?_))
   refine HW.ret (?_)
   refine ⟨.inr rfl, .bool true, res1 rfl (rt rfl), ?_⟩
   exact ⟨F_1, true, rfl, hK, hS, hL_s1, hL_s2, hM⟩

def tree_Same_W (a_Root : Int) (a_Links : List T_api_Branch) (b_Root : Int) (b_Links : List T_api_Branch) (Q : Bool → Prop) : Prop :=
 (a_Root = b_Root → slices_Equal_s_api_Branch_api_Branch_W a_Links b_Links (fun r_2 => Q r_2)) ∧ (¬ (a_Root = b_Root) → Q false)
set_option maxHeartbeats 40000000 in
set_option maxRecDepth 100000 in
theorem tree_Same_walk {F : Fz} {fr : List Ow} {h0 : Heap} (a_Root : Int) (a_Links : List T_api_Branch) (b_Root : Int) (b_Links : List T_api_Branch) (va_Links : Value) (vb_Links : Value) (hS : St F (fr) h0) (hL_a_Links : SliceF F h0 2 e_api_Branch va_Links a_Links) (hL_b_Links : SliceF F h0 2 e_api_Branch vb_Links b_Links) {Q : Bool → Prop} (hM : tree_Same_W a_Root a_Links b_Root b_Links Q) :
  HC Try.prog 50 #[.agg #[.int .i64 a_Root, va_Links], .agg #[.int .i64 b_Root, vb_Links]] h0 fun u h' => ∃ (F' : Fz) (r_1 : Bool), u = .bool r_1 ∧ Kp F h0 F' h' ∧ St F' (fr) h' ∧ (SliceF F' h' 2 e_api_Branch va_Links a_Links) ∧ (SliceF F' h' 2 e_api_Branch vb_Links b_Links) ∧ Q r_1 := by
 unfold tree_Same_W at hM
 have hK := Kp.refl F h0
 refine HC.of_HW (n := 17) Try.func50 rfl rfl (Nat.le_of_ble_eq_true rfl) ?_
 refine HW.seq ?_
 refine HW.region ?_
 refine HO.eff (want_none) rfl (st_box (c := #[.int .i64 a_Root, va_Links]) (k' := 2) hS rfl rfl) ?_
 rintro _ h_1 ⟨b_1, rfl, hS, hk⟩
 replace hK := hK.trans hk
 replace hL_a_Links := hL_a_Links.kp hk
 replace hL_b_Links := hL_b_Links.kp hk
 refine HO.eff (want_none) rfl (st_box (c := #[.int .i64 b_Root, vb_Links]) (k' := 2) hS rfl rfl) ?_
 rintro _ h_2 ⟨b_2, rfl, hS, hk⟩
 replace hK := hK.trans hk
 replace hL_a_Links := hL_a_Links.kp hk
 replace hL_b_Links := hL_b_Links.kp hk
 refine oA (.bool false) rfl rfl ?_
 refine HO.nil (thenQ_normal (?_))
 refine HW.seq ?_
 refine HW.region ?_
 refine oV (.pointer (some ⟨b_1, 0, none⟩)) (q_fieldAddr fa_46_0 rfl rfl) rfl ?_
 refine oV (.int .i64 a_Root) (q_load to_3 rfl (Blk.cell (hS.box 1 rfl) rfl)) rfl ?_
 refine oV (.pointer (some ⟨b_2, 0, none⟩)) (q_fieldAddr fa_46_0 rfl rfl) rfl ?_
 refine oV (.int .i64 b_Root) (q_load to_3 rfl (Blk.cell (hS.box 0 rfl) rfl)) rfl ?_
 refine oV (.bool (decide (a_Root = b_Root))) (q_eql rfl rfl) rfl ?_
 refine oM (.bool (decide (a_Root = b_Root))) rfl rfl ?_
 rcases Bool.eq_false_or_eq_true (decide (a_Root = b_Root)) with c_1 | c_1
 ·
  replace hM := hM.1 (of_decide_eq_true c_1)
  refine HO.val (v := .pointer (some ⟨b_1, 1, none⟩)) (want_by rfl rfl c_1) rfl (q_fieldAddr fa_46_1 rfl rfl) ?_
  refine HO.val (v := va_Links) (want_by rfl rfl c_1) rfl (q_load to_44 rfl (Blk.cell (hS.box 1 rfl) rfl)) ?_
  refine HO.val (v := .pointer (some ⟨b_2, 1, none⟩)) (want_by rfl rfl c_1) rfl (q_fieldAddr fa_46_1 rfl rfl) ?_
  refine HO.val (v := vb_Links) (want_by rfl rfl c_1) rfl (q_load to_44 rfl (Blk.cell (hS.box 0 rfl) rfl)) ?_
  refine HO.call (want_by rfl rfl c_1) rfl (ec en_76 rfl rfl) (slices_Equal_s_api_Branch_api_Branch_walk (fr := (Ow.box b_2 46 #[.int .i64 b_Root, vb_Links] :: Ow.box b_1 46 #[.int .i64 a_Root, va_Links] :: fr)) a_Links b_Links va_Links vb_Links hS hL_a_Links hL_b_Links hM) ?_
  rintro _ h_3 ⟨F_1, r_2, rfl, hk, hS, _, _, hM⟩
  replace hK := hK.trans hk
  replace hL_a_Links := hL_a_Links.kp hk
  replace hL_b_Links := hL_b_Links.kp hk
  refine oV (.bool r_2) (q_pickK true rfl c_1 rfl) rfl ?_
  refine oA (.bool r_2) rfl rfl ?_
  refine HO.nil (thenQ_normal (?_))
  refine HW.ret (?_)
  refine ⟨.inr rfl, .bool r_2, res1 rfl (rt rfl), ?_⟩
  replace hS : St F_1 (fr) h_3 := hS.perm2 [] 2 rfl rfl
  exact ⟨F_1, r_2, rfl, hK, hS, hL_a_Links, hL_b_Links, hM⟩
 ·
  replace hM := hM.2 (of_decide_eq_false c_1)
  refine HO.past (past_by rfl rfl c_1) rfl ?_
  refine HO.past (past_by rfl rfl c_1) rfl ?_
  refine HO.past (past_by rfl rfl c_1) rfl ?_
  refine HO.past (past_by rfl rfl c_1) rfl ?_
  refine HO.past (past_by rfl rfl c_1) rfl ?_
  refine oV (.bool false) (q_pickK false rfl c_1 rfl) rfl ?_
  refine oA (.bool false) rfl rfl ?_
  refine HO.nil (thenQ_normal (?_))
  refine HW.ret (?_)
  refine ⟨.inr rfl, .bool false, res1 rfl (rt rfl), ?_⟩
  replace hS : St F (fr) h_2 := hS.perm2 [] 2 rfl rfl
  exact ⟨F, false, rfl, hK, hS, hL_a_Links, hL_b_Links, hM⟩

def plan_Valid_l1 (t_Root : Int) (t_Links : List T_api_Branch) (root : Int) (members : List Int) (services : List Int) (fan : Int) (Q : Bool → Prop) (K_1 : Int → Prop) (n_1 : Int) : Prop :=
 (n_1 < (t_Links.length : Int) → ((0 : Int) ≤ n_1 ∧ n_1 < (t_Links.length : Int)) ∧ (slices_BinarySearch_s_int_int_W services ((gi t_Links n_1).1) (fun r0_1 r1_1 => (¬ (((gi t_Links n_1).1) = root) → ((!r1_1) = true → Q false) ∧ ((!r1_1) = false → (I64 (n_1 + 1)) ∧ (K_1 (n_1 + 1)))) ∧ (((gi t_Links n_1).1) = root → (I64 (n_1 + 1)) ∧ (K_1 (n_1 + 1)))))) ∧ (¬ (n_1 < (t_Links.length : Int)) → tree_Fan_W t_Root t_Links (fun r_7 => (r_7 ≤ fan → Q true) ∧ (¬ (r_7 ≤ fan) → plan_fits_W (members.length : Int) (services.length : Int) fan (fun r_8 => ((!r_8) = true → plan_star_W root members (fun r_0_1 r_1_1 => tree_Same_W t_Root t_Links r_0_1 r_1_1 (fun r_9 => Q r_9))) ∧ ((!r_8) = false → Q false)))))
def plan_Valid_j1 (t_Root : Int) (t_Links : List T_api_Branch) (root : Int) (members : List Int) (services : List Int) (fan : Int) (Q : Bool → Prop) (b_2 : Bool) : Prop :=
 (b_2 = true → Q false) ∧ (b_2 = false → loopW (fun (K_1 : Int → Prop) (s : Int) => plan_Valid_l1 t_Root t_Links root members services fan Q K_1 s) 0)
def plan_Valid_W (t_Root : Int) (t_Links : List T_api_Branch) (root : Int) (members : List Int) (services : List Int) (fan : Int) (Q : Bool → Prop) : Prop :=
 tree_Good_W t_Root t_Links (fun r_2 => ((!r_2) = true → plan_Valid_j1 t_Root t_Links root members services fan Q true) ∧ ((!r_2) = false → (¬ (t_Root = root) → plan_Valid_j1 t_Root t_Links root members services fan Q true) ∧ (t_Root = root → plan_rising_W members (fun r_3 => ((!r_3) = true → plan_Valid_j1 t_Root t_Links root members services fan Q true) ∧ ((!r_3) = false → plan_rising_W services (fun r_4 => ((!r_4) = true → plan_Valid_j1 t_Root t_Links root members services fan Q true) ∧ ((!r_4) = false → tree_Leaves_W t_Root t_Links (fun r_5 => slices_Equal_s_int_int_W r_5 members (fun r_6 => plan_Valid_j1 t_Root t_Links root members services fan Q (!r_6))))))))))
set_option maxHeartbeats 40000000 in
set_option maxRecDepth 100000 in
theorem plan_Valid_walk {F : Fz} {fr : List Ow} {h0 : Heap} (t_Root : Int) (t_Links : List T_api_Branch) (root : Int) (members : List Int) (services : List Int) (fan : Int) (vt_Links : Value) (vmembers : Value) (vservices : Value) (hS : St F (fr) h0) (hL_t_Links : SliceF F h0 2 e_api_Branch vt_Links t_Links) (hL_members : SliceF F h0 1 encI vmembers members) (hL_services : SliceF F h0 1 encI vservices services) {Q : Bool → Prop} (hM : plan_Valid_W t_Root t_Links root members services fan Q) :
  HC Try.prog 22 #[.agg #[.int .i64 t_Root, vt_Links], .int .i64 root, vmembers, vservices, .int .i64 fan] h0 fun u h' => ∃ (F' : Fz) (r_1 : Bool), u = .bool r_1 ∧ Kp F h0 F' h' ∧ St F' (fr) h' ∧ (SliceF F' h' 2 e_api_Branch vt_Links t_Links) ∧ (SliceF F' h' 1 encI vmembers members) ∧ (SliceF F' h' 1 encI vservices services) ∧ Q r_1 := by
 unfold plan_Valid_W at hM
 have hK := Kp.refl F h0
 refine HC.of_HW (n := 84) Try.func22 rfl rfl (Nat.le_of_ble_eq_true rfl) ?_
 refine HW.seq ?_
 refine HW.region ?_
 refine HO.eff (want_none) rfl (st_box (c := #[.int .i64 t_Root, vt_Links]) (k' := 2) hS rfl rfl) ?_
 rintro _ h_1 ⟨b_1, rfl, hS, hk⟩
 replace hK := hK.trans hk
 replace hL_t_Links := hL_t_Links.kp hk
 replace hL_members := hL_members.kp hk
 replace hL_services := hL_services.kp hk
 refine oA (.bool false) rfl rfl ?_
 refine HO.nil (thenQ_normal (?_))
 refine HW.seq ?_
 refine HW.seq_mid (fun f h => ∃ (F' : Fz) (b_2 : Bool), f 1 = .int .i64 root ∧ f 2 = vmembers ∧ f 3 = vservices ∧ f 4 = .int .i64 fan ∧ f 5 = .pointer (some ⟨b_1, 0, none⟩) ∧ f 10 = .bool false ∧ f 40 = .bool b_2 ∧ Kp F h0 F' h ∧ St F' (Ow.box b_1 46 #[.int .i64 t_Root, vt_Links] :: fr) h ∧ (SliceF F' h 2 e_api_Branch vt_Links t_Links) ∧ (SliceF F' h 1 encI vmembers members) ∧ (SliceF F' h 1 encI vservices services) ∧ plan_Valid_j1 t_Root t_Links root members services fan Q b_2) ?_ ?_
 ·
  refine HW.region ?_
  refine oV (.agg #[.int .i64 t_Root, vt_Links]) (q_loadAgg (cs := [.int .i64 t_Root, vt_Links]) ta_46 rfl rfl (Blk.cells (k := 2) (hS.box 0 rfl) rfl)) rfl ?_
  refine HO.call (want_none) rfl (ec en_44 rfl rfl) (tree_Good_walk (fr := (Ow.box b_1 46 #[.int .i64 t_Root, vt_Links] :: fr)) t_Root t_Links vt_Links hS hL_t_Links hM) ?_
  rintro _ h_2 ⟨F_1, r_2, rfl, hk, hS, _, hM⟩
  replace hK := hK.trans hk
  replace hL_t_Links := hL_t_Links.kp hk
  replace hL_members := hL_members.kp hk
  replace hL_services := hL_services.kp hk
  refine oV (.bool (!r_2)) (q_not rfl) rfl ?_
  refine oM (.bool (!r_2)) rfl rfl ?_
  rcases Bool.eq_false_or_eq_true (!r_2) with c_1 | c_1
  ·
   replace hM := hM.1 c_1
   refine HO.past (past_by rfl rfl c_1) rfl ?_
   refine HO.past (past_by rfl rfl c_1) rfl ?_
   refine HO.past (past_by rfl rfl c_1) rfl ?_
   refine HO.past (past_by rfl rfl c_1) rfl ?_
   refine oV (.bool true) (q_pickK true rfl c_1 rfl) rfl ?_
   refine oM (.bool true) rfl rfl ?_
   refine HO.past (past_some rfl rfl) rfl ?_
   refine HO.past (past_some rfl rfl) rfl ?_
   refine HO.past (past_some rfl rfl) rfl ?_
   refine oV (.bool true) (q_pick rfl rfl) rfl ?_
   refine oM (.bool true) rfl rfl ?_
   refine HO.past (past_some rfl rfl) rfl ?_
   refine HO.past (past_some rfl rfl) rfl ?_
   refine HO.past (past_some rfl rfl) rfl ?_
   refine oV (.bool true) (q_pick rfl rfl) rfl ?_
   refine oM (.bool true) rfl rfl ?_
   refine HO.past (past_some rfl rfl) rfl ?_
   refine HO.past (past_some rfl rfl) rfl ?_
   refine HO.past (past_some rfl rfl) rfl ?_
   refine HO.past (past_some rfl rfl) rfl ?_
   refine HO.past (past_some rfl rfl) rfl ?_
   refine oV (.bool true) (q_pick rfl rfl) rfl ?_
   refine HO.nil (thenQ_normal (?_))
   exact ⟨F_1, true, rfl, rfl, rfl, rfl, rfl, rfl, rfl, hK, hS, hL_t_Links, hL_members, hL_services, hM⟩
  ·
   replace hM := hM.2 c_1
   refine HO.val (v := .pointer (some ⟨b_1, 0, none⟩)) (want_by rfl rfl c_1) rfl (q_fieldAddr fa_46_0 rfl rfl) ?_
   refine HO.val (v := .int .i64 t_Root) (want_by rfl rfl c_1) rfl (q_load to_3 rfl (Blk.cell (hS.box 0 rfl) rfl)) ?_
   refine HO.val (v := .int .i64 root) (want_by rfl rfl c_1) rfl (q_move rfl) ?_
   refine HO.val (v := .bool (!decide (t_Root = root))) (want_by rfl rfl c_1) rfl (q_neq rfl rfl) ?_
   refine oV (.bool (!decide (t_Root = root))) (q_pickK false rfl c_1 rfl) rfl ?_
   refine oM (.bool (!decide (t_Root = root))) rfl rfl ?_
   rcases Bool.eq_false_or_eq_true (!decide (t_Root = root)) with c_2 | c_2
   ·
    replace hM := hM.1 (nd_true c_2)
    refine HO.past (past_by rfl rfl c_2) rfl ?_
    refine HO.past (past_by rfl rfl c_2) rfl ?_
    refine HO.past (past_by rfl rfl c_2) rfl ?_
    refine oV (.bool true) (q_pickK true rfl c_2 rfl) rfl ?_
    refine oM (.bool true) rfl rfl ?_
    refine HO.past (past_some rfl rfl) rfl ?_
    refine HO.past (past_some rfl rfl) rfl ?_
    refine HO.past (past_some rfl rfl) rfl ?_
    refine oV (.bool true) (q_pick rfl rfl) rfl ?_
    refine oM (.bool true) rfl rfl ?_
    refine HO.past (past_some rfl rfl) rfl ?_
    refine HO.past (past_some rfl rfl) rfl ?_
    refine HO.past (past_some rfl rfl) rfl ?_
    refine HO.past (past_some rfl rfl) rfl ?_
    refine HO.past (past_some rfl rfl) rfl ?_
    refine oV (.bool true) (q_pick rfl rfl) rfl ?_
    refine HO.nil (thenQ_normal (?_))
    exact ⟨F_1, true, rfl, rfl, rfl, rfl, rfl, rfl, rfl, hK, hS, hL_t_Links, hL_members, hL_services, hM⟩
   ·
    replace hM := hM.2 (nd_false c_2)
    refine HO.val (v := vmembers) (want_by rfl rfl c_2) rfl (q_move rfl) ?_
    refine HO.call (want_by rfl rfl c_2) rfl (ec en_45 rfl rfl) (plan_rising_walk (fr := (Ow.box b_1 46 #[.int .i64 t_Root, vt_Links] :: fr)) members vmembers hS hL_members hM) ?_
    rintro _ h_3 ⟨F_2, r_3, rfl, hk, hS, _, hM⟩
    replace hK := hK.trans hk
    replace hL_t_Links := hL_t_Links.kp hk
    replace hL_members := hL_members.kp hk
    replace hL_services := hL_services.kp hk
    refine HO.val (v := .bool (!r_3)) (want_by rfl rfl c_2) rfl (q_not rfl) ?_
    refine oV (.bool (!r_3)) (q_pickK false rfl c_2 rfl) rfl ?_
    refine oM (.bool (!r_3)) rfl rfl ?_
    rcases Bool.eq_false_or_eq_true (!r_3) with c_3 | c_3
    ·
     replace hM := hM.1 c_3
     refine HO.past (past_by rfl rfl c_3) rfl ?_
     refine HO.past (past_by rfl rfl c_3) rfl ?_
     refine HO.past (past_by rfl rfl c_3) rfl ?_
     refine oV (.bool true) (q_pickK true rfl c_3 rfl) rfl ?_
     refine oM (.bool true) rfl rfl ?_
     refine HO.past (past_some rfl rfl) rfl ?_
     refine HO.past (past_some rfl rfl) rfl ?_
     refine HO.past (past_some rfl rfl) rfl ?_
     refine HO.past (past_some rfl rfl) rfl ?_
     refine HO.past (past_some rfl rfl) rfl ?_
     refine oV (.bool true) (q_pick rfl rfl) rfl ?_
     refine HO.nil (thenQ_normal (?_))
     exact ⟨F_2, true, rfl, rfl, rfl, rfl, rfl, rfl, rfl, hK, hS, hL_t_Links, hL_members, hL_services, hM⟩
    ·
     replace hM := hM.2 c_3
     refine HO.val (v := vservices) (want_by rfl rfl c_3) rfl (q_move rfl) ?_
     refine HO.call (want_by rfl rfl c_3) rfl (ec en_45 rfl rfl) (plan_rising_walk (fr := (Ow.box b_1 46 #[.int .i64 t_Root, vt_Links] :: fr)) services vservices hS hL_services hM) ?_
     rintro _ h_4 ⟨F_3, r_4, rfl, hk, hS, _, hM⟩
     replace hK := hK.trans hk
     replace hL_t_Links := hL_t_Links.kp hk
     replace hL_members := hL_members.kp hk
     replace hL_services := hL_services.kp hk
     refine HO.val (v := .bool (!r_4)) (want_by rfl rfl c_3) rfl (q_not rfl) ?_
     refine oV (.bool (!r_4)) (q_pickK false rfl c_3 rfl) rfl ?_
     refine oM (.bool (!r_4)) rfl rfl ?_
     rcases Bool.eq_false_or_eq_true (!r_4) with c_4 | c_4
     ·
      replace hM := hM.1 c_4
      refine HO.past (past_by rfl rfl c_4) rfl ?_
      refine HO.past (past_by rfl rfl c_4) rfl ?_
      refine HO.past (past_by rfl rfl c_4) rfl ?_
      refine HO.past (past_by rfl rfl c_4) rfl ?_
      refine HO.past (past_by rfl rfl c_4) rfl ?_
      refine oV (.bool true) (q_pickK true rfl c_4 rfl) rfl ?_
      refine HO.nil (thenQ_normal (?_))
      exact ⟨F_3, true, rfl, rfl, rfl, rfl, rfl, rfl, rfl, hK, hS, hL_t_Links, hL_members, hL_services, hM⟩
     ·
      replace hM := hM.2 c_4
      refine HO.val (v := .agg #[.int .i64 t_Root, vt_Links]) (want_by rfl rfl c_4) rfl (q_loadAgg (cs := [.int .i64 t_Root, vt_Links]) ta_46 rfl rfl (Blk.cells (k := 2) (hS.box 0 rfl) rfl)) ?_
      refine HO.call (want_by rfl rfl c_4) rfl (ec en_47 rfl rfl) (tree_Leaves_walk (fr := (Ow.box b_1 46 #[.int .i64 t_Root, vt_Links] :: fr)) t_Root t_Links vt_Links hS hL_t_Links hM) ?_
      rintro vr_1 h_5 ⟨F_4, r_5, _, rfl, hk, hS, _, hM⟩
      replace hK := hK.trans hk
      replace hL_t_Links := hL_t_Links.kp hk
      replace hL_members := hL_members.kp hk
      replace hL_services := hL_services.kp hk
      refine HO.val (v := vmembers) (want_by rfl rfl c_4) rfl (q_move rfl) ?_
      have hZ_1 := hS
      have hkz_1 := (hS.freeze).2
      replace hS := hS.freeze.1
      have hL_1 : SliceF (fun bz_ => F_4 bz_ ∨ (Ow.own 3 1 encI vr_1 r_5).foot bz_) h_5 1 encI vr_1 r_5 := ⟨(hZ_1.own 0 rfl).slice, fun _ b hb => .inr hb⟩
      refine HO.call (want_by rfl rfl c_4) rfl (ec en_46 rfl rfl) (slices_Equal_s_int_int_walk (fr := (Ow.box b_1 46 #[.int .i64 t_Root, vt_Links] :: fr)) r_5 members vr_1 vmembers hS hL_1 (hL_members.kp hkz_1) hM) ?_
      rintro _ h_6 ⟨F_5, r_6, rfl, hk, hS, _, _, hM⟩
      obtain ⟨hS, hk⟩ := hZ_1.back hk hS
      generalize (fun bz_ => F_5 bz_ ∧ ¬ (Ow.own 3 1 encI vr_1 r_5).foot bz_) = F_6 at hS hk
      replace hK := hK.trans hk
      replace hL_t_Links := hL_t_Links.kp hk
      replace hL_members := hL_members.kp hk
      replace hL_services := hL_services.kp hk
      refine HO.val (v := .bool (!r_6)) (want_by rfl rfl c_4) rfl (q_not rfl) ?_
      refine oV (.bool (!r_6)) (q_pickK false rfl c_4 rfl) rfl ?_
      refine HO.nil (thenQ_normal (?_))
      replace hS : St F_6 (Ow.box b_1 46 #[.int .i64 t_Root, vt_Links] :: fr) h_6 := hS.perm2 [1] 2 rfl rfl
      exact ⟨F_6, !r_6, rfl, rfl, rfl, rfl, rfl, rfl, rfl, hK, hS, hL_t_Links, hL_members, hL_services, hM⟩
 ·
  rintro f_1 h_7 ⟨F_7, b_2, e1, e2, e3, e4, e5, e10, e40, hK, hS, hL_t_Links, hL_members, hL_services, hM⟩
  unfold plan_Valid_j1 at hM
  refine HW.fr [(1, .int .i64 root), (2, vmembers), (3, vservices), (4, .int .i64 fan), (5, .pointer (some ⟨b_1, 0, none⟩)), (10, .bool false), (40, .bool b_2)] ⟨e1, e2, e3, e4, e5, e10, e40, trivial⟩ ?_
  refine HW.cond b_2 rfl (fun c_5 => ?_) (fun c_5 => ?_)
  ·
   replace hM := hM.1 c_5
   refine HW.seq ?_
   refine HW.region ?_
   refine oA (.bool false) rfl rfl ?_
   refine HO.nil (thenQ_normal (?_))
   refine HW.ret (thenQ_ret (?_))
   refine ⟨.inr rfl, .bool false, res1 rfl (rt rfl), ?_⟩
   replace hS : St F_7 (fr) h_7 := hS.perm2 [] 1 rfl rfl
   exact ⟨F_7, false, rfl, hK, hS, hL_t_Links, hL_members, hL_services, hM⟩
  ·
   replace hM := hM.2 c_5
   refine HW.skip (thenQ_normal (?_))
   refine HW.seq ?_
   refine HW.seq ?_
   refine HW.region ?_
   refine oV (.pointer (some ⟨b_1, 1, none⟩)) (q_fieldAddr fa_46_1 rfl rfl) rfl ?_
   refine oV (vt_Links) (q_load to_44 rfl (Blk.cell (hS.box 0 rfl) rfl)) rfl ?_
   refine oV (.int .i64 (t_Links.length : Int)) (q_len ts_44 (shp hL_t_Links.is) rfl rfl) rfl ?_
   refine oM (.int .i64 0) rfl rfl ?_
   refine HO.nil (thenQ_normal (?_))
   refine HW.block ?_
   obtain ⟨I_1, m_1, hI_1, hR_1⟩ := hM
   refine HW.loop (S := Int) (fun n_1 f h => ∃ (F' : Fz), f 1 = .int .i64 root ∧ f 2 = vmembers ∧ f 3 = vservices ∧ f 4 = .int .i64 fan ∧ f 5 = .pointer (some ⟨b_1, 0, none⟩) ∧ f 10 = .bool false ∧ f 42 = vt_Links ∧ f 43 = .int .i64 (t_Links.length : Int) ∧ f 44 = .int .i64 n_1 ∧ Kp F h0 F' h ∧ St F' (Ow.box b_1 46 #[.int .i64 t_Root, vt_Links] :: fr) h ∧ (SliceF F' h 2 e_api_Branch vt_Links t_Links) ∧ (SliceF F' h 1 encI vmembers members) ∧ (SliceF F' h 1 encI vservices services) ∧ I_1 n_1) m_1 0 ⟨F_7, rfl, rfl, rfl, rfl, rfl, rfl, rfl, rfl, rfl, hK, hS, hL_t_Links, hL_members, hL_services, hI_1⟩ ?_
   rintro n_1 f_2 h_8 ⟨F_8, e1, e2, e3, e4, e5, e10, e42, e43, e44, hK, hS, hL_t_Links, hL_members, hL_services, hI0⟩
   obtain ⟨K_1, hKe_1⟩ : ∃ K : Int → Prop, K = fun n_1' => I_1 n_1' ∧ m_1 n_1' < m_1 n_1 := ⟨_, rfl⟩
   have hM : plan_Valid_l1 t_Root t_Links root members services fan Q K_1 n_1 := by rw [hKe_1]; exact hR_1 n_1 hI0
   unfold plan_Valid_l1 at hM
   refine HW.fr [(1, .int .i64 root), (2, vmembers), (3, vservices), (4, .int .i64 fan), (5, .pointer (some ⟨b_1, 0, none⟩)), (10, .bool false), (42, vt_Links), (43, .int .i64 (t_Links.length : Int)), (44, .int .i64 n_1)] ⟨e1, e2, e3, e4, e5, e10, e42, e43, e44, trivial⟩ ?_
   refine HW.seq ?_
   refine HW.region ?_
   refine oV (.bool (decide (n_1 < (t_Links.length : Int)))) (q_lss rfl rfl) rfl ?_
   refine HO.nil (thenQ_normal (?_))
   refine HW.seq ?_
   refine HW.cond (decide (n_1 < (t_Links.length : Int))) rfl (fun c_6 => ?_) (fun c_6 => ?_)
   ·
    replace hM := hM.1 (of_decide_eq_true c_6)
    refine HW.skip (thenQ_normal (?_))
    refine HW.seq ?_
    refine HW.block ?_
    refine HW.seq ?_
    refine HW.region ?_
    obtain ⟨ho_1, hM⟩ := hM
    refine oV (elemPtr 2 vt_Links (n_1).toNat) (q_idx ts_44 hL_t_Links.is rfl rfl ho_1) rfl ?_
    refine oV (.agg #[.int .i64 ((gi t_Links n_1).1), .int .i64 ((gi t_Links n_1).2)]) (q_ldElemAgg (cs := [.int .i64 ((gi t_Links n_1).1), .int .i64 ((gi t_Links n_1).2)]) ta_67 hL_t_Links.is rfl ho_1 rfl) rfl ?_
    refine HO.eff (want_none) rfl (st_alloc (c := #[.int .i64 0, .int .i64 0]) hS tz_67 rfl) ?_
    rintro _ h_9 ⟨b_3, rfl, hS, hk⟩
    replace hK := hK.trans hk
    replace hL_t_Links := hL_t_Links.kp hk
    replace hL_members := hL_members.kp hk
    replace hL_services := hL_services.kp hk
    refine HO.sto (want_none) rfl (st_storeAgg (c' := #[.int .i64 ((gi t_Links n_1).1), .int .i64 ((gi t_Links n_1).2)]) hS (i := 0) rfl ta_67 rfl rfl rfl (by simp [Value.oneCell']) (Nat.le_of_ble_eq_true rfl) rfl) ?_
    rintro h_10 ⟨hS, hk⟩
    replace hS : St F_8 (Ow.box b_3 67 #[.int .i64 ((gi t_Links n_1).1), .int .i64 ((gi t_Links n_1).2)] :: Ow.box b_1 46 #[.int .i64 t_Root, vt_Links] :: fr) h_10 := hS
    replace hK := hK.trans hk
    replace hL_t_Links := hL_t_Links.kp hk
    replace hL_members := hL_members.kp hk
    replace hL_services := hL_services.kp hk
    refine HO.nil (thenQ_normal (?_))
    refine HW.seq ?_
    refine HW.region ?_
    refine oM (vservices) rfl rfl ?_
    refine oV (.pointer (some ⟨b_3, 0, none⟩)) (q_fieldAddr fa_67_0 rfl rfl) rfl ?_
    refine oV (.int .i64 ((gi t_Links n_1).1)) (q_load to_3 rfl (Blk.cell (hS.box 0 rfl) rfl)) rfl ?_
    refine HO.call (want_none) rfl (ec en_48 rfl rfl) (slices_BinarySearch_s_int_int_walk (fr := (Ow.box b_3 67 #[.int .i64 ((gi t_Links n_1).1), .int .i64 ((gi t_Links n_1).2)] :: Ow.box b_1 46 #[.int .i64 t_Root, vt_Links] :: fr)) services ((gi t_Links n_1).1) vservices hS hL_services hM) ?_
    rintro _ h_11 ⟨F_9, r0_1, r1_1, rfl, hk, hS, _, hM⟩
    replace hK := hK.trans hk
    replace hL_t_Links := hL_t_Links.kp hk
    replace hL_members := hL_members.kp hk
    replace hL_services := hL_services.kp hk
    refine oM (.tuple #[.int .i64 r0_1, .bool r1_1]) rfl rfl ?_
    refine oV (.int .i64 r0_1) (q_extract rfl rfl) rfl ?_
    refine oV (.bool r1_1) (q_extract rfl rfl) rfl ?_
    refine oA (.int .i64 r0_1) rfl rfl ?_
    refine oA (.bool r1_1) rfl rfl ?_
    refine HO.nil (thenQ_normal (?_))
    refine HW.seq ?_
    refine HW.region ?_
    refine oV (.pointer (some ⟨b_3, 0, none⟩)) (q_fieldAddr fa_67_0 rfl rfl) rfl ?_
    refine oV (.int .i64 ((gi t_Links n_1).1)) (q_load to_3 rfl (Blk.cell (hS.box 0 rfl) rfl)) rfl ?_
    refine oM (.int .i64 root) rfl rfl ?_
    refine oV (.bool (!decide (((gi t_Links n_1).1) = root))) (q_neq rfl rfl) rfl ?_
    refine oM (.bool (!decide (((gi t_Links n_1).1) = root))) rfl rfl ?_
    rcases Bool.eq_false_or_eq_true (!decide (((gi t_Links n_1).1) = root)) with c_7 | c_7
    ·
     replace hM := hM.1 (nd_true c_7)
     refine HO.val (v := .bool r1_1) (want_by rfl rfl c_7) rfl (q_move rfl) ?_
     refine HO.val (v := .bool (!r1_1)) (want_by rfl rfl c_7) rfl (q_not rfl) ?_
     refine oV (.bool (!r1_1)) (q_pickK true rfl c_7 rfl) rfl ?_
     refine HO.nil (thenQ_normal (?_))
     refine HW.cond (!r1_1) rfl (fun c_8 => ?_) (fun c_8 => ?_)
     ·
      replace hM := hM.1 c_8
      refine HW.seq ?_
      refine HW.region ?_
      refine oA (.bool false) rfl rfl ?_
      refine HO.nil (thenQ_normal (?_))
      refine HW.ret (blockQ_ret (thenQ_ret (thenQ_ret (blockQ_ret (thenQ_ret (?_))))))
      refine ⟨.inr rfl, .bool false, res1 rfl (rt rfl), ?_⟩
      replace hS : St F_9 (fr) h_11 := hS.perm2 [] 2 rfl rfl
      exact ⟨F_9, false, rfl, hK, hS, hL_t_Links, hL_members, hL_services, hM⟩
     ·
      replace hM := hM.2 c_8
      refine HW.skip (blockQ_normal (thenQ_normal (?_)))
      refine HW.region ?_
      obtain ⟨ho_2, hM⟩ := hM
      refine oV (.int .i64 (n_1 + 1)) (q_addN _ rfl rfl rfl ho_2.1 ho_2.2) rfl ?_
      refine oM (.int .i64 (n_1 + 1)) rfl rfl ?_
      refine HO.nil (thenQ_normal (?_))
      replace hS : St F_9 (Ow.box b_1 46 #[.int .i64 t_Root, vt_Links] :: fr) h_11 := hS.perm2 [1] 2 rfl rfl
      rw [hKe_1] at hM
      exact ⟨n_1 + 1, ⟨F_9, rfl, rfl, rfl, rfl, rfl, rfl, rfl, rfl, rfl, hK, hS, hL_t_Links, hL_members, hL_services, hM.1⟩, hM.2⟩
    ·
     replace hM := hM.2 (nd_false c_7)
     refine HO.past (past_by rfl rfl c_7) rfl ?_
     refine HO.past (past_by rfl rfl c_7) rfl ?_
     refine oV (.bool false) (q_pickK false rfl c_7 rfl) rfl ?_
     refine HO.nil (thenQ_normal (?_))
     refine HW.condF rfl ?_
     refine HW.skip (blockQ_normal (thenQ_normal (?_)))
     refine HW.region ?_
     obtain ⟨ho_3, hM⟩ := hM
     refine oV (.int .i64 (n_1 + 1)) (q_addN _ rfl rfl rfl ho_3.1 ho_3.2) rfl ?_
     refine oM (.int .i64 (n_1 + 1)) rfl rfl ?_
     refine HO.nil (thenQ_normal (?_))
     replace hS : St F_9 (Ow.box b_1 46 #[.int .i64 t_Root, vt_Links] :: fr) h_11 := hS.perm2 [1] 2 rfl rfl
     rw [hKe_1] at hM
     exact ⟨n_1 + 1, ⟨F_9, rfl, rfl, rfl, rfl, rfl, rfl, rfl, rfl, rfl, hK, hS, hL_t_Links, hL_members, hL_services, hM.1⟩, hM.2⟩
   ·
    replace hM := hM.2 (of_decide_eq_false c_6)
    refine HW.exit (thenQ_exit (thenQ_exit (blockQ_exit (thenQ_normal (?_)))))
    refine HW.seq ?_
    refine HW.regionA 21 mixed (fun h => (SliceIs h 1 encI vmembers members) ∧ (SliceIs h 1 encI vservices services) ∧ (Blk h b_1 (.cells #[.int .i64 t_Root, vt_Links] 46 (0, 0)))) [] (by kernel_rfl) ?_
    refine HA.val (k := 0) (v := .agg #[.int .i64 t_Root, vt_Links]) rfl rfl (by kernel_rfl) (by kernel_rfl) (want_none) rfl (fun _ ⟨hL_members, hL_services, c303⟩ => q_loadAgg (cs := [.int .i64 t_Root, vt_Links]) ta_46 rfl rfl (Blk.cells (k := 2) c303 rfl)) ?_
    refine HA.val (k := 2) (v := .int .i64 fan) rfl rfl (by kernel_rfl) (by kernel_rfl) (want_none) rfl (fun _ ⟨hL_members, hL_services, c303⟩ => q_move rfl) ?_
    refine HA.one (k := 1) ⟨⟨hL_members.is, hL_services.is, (hS.box 0 rfl)⟩, (Go.Wk.at_nil _ _)⟩ (by kernel_rfl) ?_
    refine HS.call rfl (want_none) rfl (ec en_49 rfl rfl) (tree_Fan_walk (fr := (Ow.box b_1 46 #[.int .i64 t_Root, vt_Links] :: fr)) t_Root t_Links vt_Links hS hL_t_Links hM) ?_
    rintro _ h_12 ⟨F_10, r_7, rfl, hk, hS, _, hM⟩
    replace hK := hK.trans hk
    replace hL_t_Links := hL_t_Links.kp hk
    replace hL_members := hL_members.kp hk
    replace hL_services := hL_services.kp hk
    refine HA.val (k := 3) (v := .bool (decide (r_7 ≤ fan))) rfl rfl (by kernel_rfl) (by kernel_rfl) (want_none) rfl (fun _ ⟨hL_members, hL_services, c303⟩ => q_leq rfl rfl) ?_
    refine HA.val (k := 4) (v := .bool (decide (r_7 ≤ fan))) rfl rfl (by kernel_rfl) (by kernel_rfl) (want_none) rfl (fun _ ⟨hL_members, hL_services, c303⟩ => q_move rfl) ?_
    rcases Bool.eq_false_or_eq_true (decide (r_7 ≤ fan)) with c_9 | c_9
    ·
     replace hM := hM.1 (of_decide_eq_true c_9)
     refine HA.past (k := 5) rfl rfl (by kernel_rfl) (by kernel_rfl) (past_by rfl rfl c_9) rfl ?_
     refine HA.past (k := 6) rfl rfl (by kernel_rfl) (by kernel_rfl) (past_by rfl rfl c_9) rfl ?_
     refine HA.past (k := 7) rfl rfl (by kernel_rfl) (by kernel_rfl) (past_by rfl rfl c_9) rfl ?_
     refine HA.past (k := 8) rfl rfl (by kernel_rfl) (by kernel_rfl) (past_by rfl rfl c_9) rfl ?_
     refine HA.past (k := 9) rfl rfl (by kernel_rfl) (by kernel_rfl) (past_by rfl rfl c_9) rfl ?_
     refine HA.one (k := 10) ⟨⟨hL_members.is, hL_services.is, (hS.box 0 rfl)⟩, (Go.Wk.at_nil _ _)⟩ (by kernel_rfl) ?_
     refine HS.past rfl (past_by rfl rfl c_9) rfl ?_
     refine HA.past (k := 11) rfl rfl (by kernel_rfl) (by kernel_rfl) (past_by rfl rfl c_9) rfl ?_
     refine HA.past (k := 12) rfl rfl (by kernel_rfl) (by kernel_rfl) (past_by rfl rfl c_9) rfl ?_
     refine HA.past (k := 13) rfl rfl (by kernel_rfl) (by kernel_rfl) (past_undef rfl rfl) rfl ?_
     refine HA.past (k := 14) rfl rfl (by kernel_rfl) (by kernel_rfl) (past_undef rfl rfl) rfl ?_
     refine HA.past (k := 15) rfl rfl (by kernel_rfl) (by kernel_rfl) (past_undef rfl rfl) rfl ?_
     refine HA.one (k := 16) ⟨⟨hL_members.is, hL_services.is, (hS.box 0 rfl)⟩, (Go.Wk.at_nil _ _)⟩ (by kernel_rfl) ?_
     refine HS.past rfl (past_undef rfl rfl) rfl ?_
     refine HA.one (k := 17) ⟨⟨hL_members.is, hL_services.is, (hS.box 0 rfl)⟩, (Go.Wk.at_nil _ _)⟩ (by kernel_rfl) ?_
     refine HS.past rfl (past_undef rfl rfl) rfl ?_
     refine HA.past (k := 18) rfl rfl (by kernel_rfl) (by kernel_rfl) (past_by rfl rfl c_9) rfl ?_
     refine HA.val (k := 19) (v := .bool true) rfl rfl (by kernel_rfl) (by kernel_rfl) (want_none) rfl (fun _ ⟨hL_members, hL_services, c303⟩ => q_pickK true rfl c_9 rfl) ?_
     refine HA.val (k := 20) (v := .bool true) rfl rfl (by kernel_rfl) (by kernel_rfl) (want_none) rfl (fun _ ⟨hL_members, hL_services, c303⟩ => q_assign rfl) ?_
     refine HA.nil ⟨⟨hL_members.is, hL_services.is, (hS.box 0 rfl)⟩, (Go.Wk.at_nil _ _)⟩ (by kernel_rfl) (thenQ_normal (?_))
     refine HW.ret (?_)
     refine ⟨.inr rfl, .bool true, res1 rfl (rt rfl), ?_⟩
     replace hS : St F_10 (fr) h_12 := hS.perm2 [] 1 rfl rfl
     exact ⟨F_10, true, rfl, hK, hS, hL_t_Links, hL_members, hL_services, hM⟩
    ·
     replace hM := hM.2 (of_decide_eq_false c_9)
     refine HA.val (k := 5) (v := vmembers) rfl rfl (by kernel_rfl) (by kernel_rfl) (want_by rfl rfl c_9) rfl (fun _ ⟨hL_members, hL_services, c303⟩ => q_move rfl) ?_
     refine HA.val (k := 6) (v := .int .i64 (members.length : Int)) rfl rfl (by kernel_rfl) (by kernel_rfl) (want_by rfl rfl c_9) rfl (fun _ ⟨hL_members, hL_services, c303⟩ => q_len ts_31 (shp hL_members) rfl rfl) ?_
     refine HA.val (k := 7) (v := vservices) rfl rfl (by kernel_rfl) (by kernel_rfl) (want_by rfl rfl c_9) rfl (fun _ ⟨hL_members, hL_services, c303⟩ => q_move rfl) ?_
     refine HA.val (k := 8) (v := .int .i64 (services.length : Int)) rfl rfl (by kernel_rfl) (by kernel_rfl) (want_by rfl rfl c_9) rfl (fun _ ⟨hL_members, hL_services, c303⟩ => q_len ts_31 (shp hL_services) rfl rfl) ?_
     refine HA.val (k := 9) (v := .int .i64 fan) rfl rfl (by kernel_rfl) (by kernel_rfl) (want_by rfl rfl c_9) rfl (fun _ ⟨hL_members, hL_services, c303⟩ => q_move rfl) ?_
     refine HA.one (k := 10) ⟨⟨hL_members.is, hL_services.is, (hS.box 0 rfl)⟩, (Go.Wk.at_nil _ _)⟩ (by kernel_rfl) ?_
     refine HS.call rfl (want_by rfl rfl c_9) rfl (ec en_30 rfl rfl) (plan_fits_walk (fr := (Ow.box b_1 46 #[.int .i64 t_Root, vt_Links] :: fr)) (members.length : Int) (services.length : Int) fan hS hM) ?_
     rintro _ h_13 ⟨F_11, r_8, rfl, hk, hS, hM⟩
     replace hK := hK.trans hk
     replace hL_t_Links := hL_t_Links.kp hk
     replace hL_members := hL_members.kp hk
     replace hL_services := hL_services.kp hk
     refine HA.val (k := 11) (v := .bool (!r_8)) rfl rfl (by kernel_rfl) (by kernel_rfl) (want_by rfl rfl c_9) rfl (fun _ ⟨hL_members, hL_services, c303⟩ => q_not rfl) ?_
     refine HA.val (k := 12) (v := .bool (!r_8)) rfl rfl (by kernel_rfl) (by kernel_rfl) (want_by rfl rfl c_9) rfl (fun _ ⟨hL_members, hL_services, c303⟩ => q_move rfl) ?_
     rcases Bool.eq_false_or_eq_true (!r_8) with c_10 | c_10
     ·
      replace hM := hM.1 c_10
      refine HA.val (k := 13) (v := .agg #[.int .i64 t_Root, vt_Links]) rfl rfl (by kernel_rfl) (by kernel_rfl) (want_by rfl rfl c_10) rfl (fun _ ⟨hL_members, hL_services, c303⟩ => q_loadAgg (cs := [.int .i64 t_Root, vt_Links]) ta_46 rfl rfl (Blk.cells (k := 2) c303 rfl)) ?_
      refine HA.val (k := 14) (v := .int .i64 root) rfl rfl (by kernel_rfl) (by kernel_rfl) (want_by rfl rfl c_10) rfl (fun _ ⟨hL_members, hL_services, c303⟩ => q_move rfl) ?_
      refine HA.val (k := 15) (v := vmembers) rfl rfl (by kernel_rfl) (by kernel_rfl) (want_by rfl rfl c_10) rfl (fun _ ⟨hL_members, hL_services, c303⟩ => q_move rfl) ?_
      refine HA.one (k := 16) ⟨⟨hL_members.is, hL_services.is, (hS.box 0 rfl)⟩, (Go.Wk.at_nil _ _)⟩ (by kernel_rfl) ?_
      refine HS.call rfl (want_by rfl rfl c_10) rfl (ec en_40 rfl rfl) (plan_star_walk (fr := (Ow.box b_1 46 #[.int .i64 t_Root, vt_Links] :: fr)) root members vmembers hS hL_members hM) ?_
      rintro _ h_14 ⟨F_12, r_0_1, r_1_1, vr_1_1, rfl, hk, hS, _, hM⟩
      replace hK := hK.trans hk
      replace hL_t_Links := hL_t_Links.kp hk
      replace hL_members := hL_members.kp hk
      replace hL_services := hL_services.kp hk
      refine HA.one (k := 17) ⟨⟨hL_members.is, hL_services.is, (hS.box 1 rfl)⟩, (Go.Wk.at_nil _ _)⟩ (by kernel_rfl) ?_
      have hZ_2 := hS
      have hkz_2 := (hS.freeze).2
      replace hS := hS.freeze.1
      have hL_2 : SliceF (fun bz_ => F_12 bz_ ∨ (Ow.own 67 2 e_api_Branch vr_1_1 r_1_1).foot bz_) h_14 2 e_api_Branch vr_1_1 r_1_1 := ⟨(hZ_2.own 0 rfl).slice, fun _ b hb => .inr hb⟩
      refine HS.call rfl (want_by rfl rfl c_10) rfl (ec en_50 rfl rfl) (tree_Same_walk (fr := (Ow.box b_1 46 #[.int .i64 t_Root, vt_Links] :: fr)) t_Root t_Links r_0_1 r_1_1 vt_Links vr_1_1 hS (hL_t_Links.kp hkz_2) hL_2 hM) ?_
      rintro _ h_15 ⟨F_13, r_9, rfl, hk, hS, _, _, hM⟩
      obtain ⟨hS, hk⟩ := hZ_2.back hk hS
      generalize (fun bz_ => F_13 bz_ ∧ ¬ (Ow.own 67 2 e_api_Branch vr_1_1 r_1_1).foot bz_) = F_14 at hS hk
      replace hK := hK.trans hk
      replace hL_t_Links := hL_t_Links.kp hk
      replace hL_members := hL_members.kp hk
      replace hL_services := hL_services.kp hk
      refine HA.val (k := 18) (v := .bool r_9) rfl rfl (by kernel_rfl) (by kernel_rfl) (want_by rfl rfl c_9) rfl (fun _ ⟨hL_members, hL_services, c303⟩ => q_pickK true rfl c_10 rfl) ?_
      refine HA.val (k := 19) (v := .bool r_9) rfl rfl (by kernel_rfl) (by kernel_rfl) (want_none) rfl (fun _ ⟨hL_members, hL_services, c303⟩ => q_pickK false rfl c_9 rfl) ?_
      refine HA.val (k := 20) (v := .bool r_9) rfl rfl (by kernel_rfl) (by kernel_rfl) (want_none) rfl (fun _ ⟨hL_members, hL_services, c303⟩ => q_assign rfl) ?_
      refine HA.nil ⟨⟨hL_members.is, hL_services.is, (hS.box 1 rfl)⟩, (Go.Wk.at_nil _ _)⟩ (by kernel_rfl) (thenQ_normal (?_))
      refine HW.ret (?_)
      refine ⟨.inr rfl, .bool r_9, res1 rfl (rt rfl), ?_⟩
      replace hS : St F_14 (fr) h_15 := hS.perm2 [] 2 rfl rfl
      exact ⟨F_14, r_9, rfl, hK, hS, hL_t_Links, hL_members, hL_services, hM⟩
     ·
      replace hM := hM.2 c_10
      refine HA.past (k := 13) rfl rfl (by kernel_rfl) (by kernel_rfl) (past_by rfl rfl c_10) rfl ?_
      refine HA.past (k := 14) rfl rfl (by kernel_rfl) (by kernel_rfl) (past_by rfl rfl c_10) rfl ?_
      refine HA.past (k := 15) rfl rfl (by kernel_rfl) (by kernel_rfl) (past_by rfl rfl c_10) rfl ?_
      refine HA.one (k := 16) ⟨⟨hL_members.is, hL_services.is, (hS.box 0 rfl)⟩, (Go.Wk.at_nil _ _)⟩ (by kernel_rfl) ?_
      refine HS.past rfl (past_by rfl rfl c_10) rfl ?_
      refine HA.one (k := 17) ⟨⟨hL_members.is, hL_services.is, (hS.box 0 rfl)⟩, (Go.Wk.at_nil _ _)⟩ (by kernel_rfl) ?_
      refine HS.past rfl (past_by rfl rfl c_10) rfl ?_
      refine HA.val (k := 18) (v := .bool false) rfl rfl (by kernel_rfl) (by kernel_rfl) (want_by rfl rfl c_9) rfl (fun _ ⟨hL_members, hL_services, c303⟩ => q_pickK false rfl c_10 rfl) ?_
      refine HA.val (k := 19) (v := .bool false) rfl rfl (by kernel_rfl) (by kernel_rfl) (want_none) rfl (fun _ ⟨hL_members, hL_services, c303⟩ => q_pickK false rfl c_9 rfl) ?_
      refine HA.val (k := 20) (v := .bool false) rfl rfl (by kernel_rfl) (by kernel_rfl) (want_none) rfl (fun _ ⟨hL_members, hL_services, c303⟩ => q_assign rfl) ?_
      refine HA.nil ⟨⟨hL_members.is, hL_services.is, (hS.box 0 rfl)⟩, (Go.Wk.at_nil _ _)⟩ (by kernel_rfl) (thenQ_normal (?_))
      refine HW.ret (?_)
      refine ⟨.inr rfl, .bool false, res1 rfl (rt rfl), ?_⟩
      replace hS : St F_11 (fr) h_13 := hS.perm2 [] 1 rfl rfl
      exact ⟨F_11, false, rfl, hK, hS, hL_t_Links, hL_members, hL_services, hM⟩

def ref32_Below_l2 (t_Links : List T_api_Branch) (k_1 : Int) (K_1 : (List Int) → Int → Prop) (K_2 : (List Int) → Int → Prop) (out_2 : List Int) (i_1 : Int) : Prop :=
 (i_1 < (t_Links.length : Int) → ((0 : Int) ≤ i_1 ∧ i_1 < (t_Links.length : Int)) ∧ (ref32_Has_W out_2 ((gi t_Links i_1).1) (fun r_2 => (r_2 = true → ref32_Add_W out_2 ((gi t_Links i_1).2) (fun r_3 => (I64 (i_1 + 1)) ∧ (K_2 r_3 (i_1 + 1)))) ∧ (r_2 = false → (I64 (i_1 + 1)) ∧ (K_2 out_2 (i_1 + 1)))))) ∧ (¬ (i_1 < (t_Links.length : Int)) → (I64 (k_1 + 1)) ∧ (K_1 out_2 (k_1 + 1)))
def ref32_Below_l1 (t_Links : List T_api_Branch) (Q : (List Int) → Prop) (K_1 : (List Int) → Int → Prop) (out_1 : List Int) (k_1 : Int) : Prop :=
 (k_1 ≤ (t_Links.length : Int) → loopW (fun (K_2 : (List Int × Int) → Prop) (s : List Int × Int) => ref32_Below_l2 t_Links k_1 K_1 (fun out_2 i_1 => K_2 (out_2, i_1)) s.1 s.2) (out_1, 0)) ∧ (¬ (k_1 ≤ (t_Links.length : Int)) → Q out_1)
def ref32_Below_W (t_Root : Int) (t_Links : List T_api_Branch) (n : Int) (Q : (List Int) → Prop) : Prop :=
 loopW (fun (K_1 : (List Int × Int) → Prop) (s : List Int × Int) => ref32_Below_l1 t_Links Q (fun out_1 k_1 => K_1 (out_1, k_1)) s.1 s.2) (([n] : List Int), 0)
set_option maxHeartbeats 40000000 in
set_option maxRecDepth 100000 in
theorem ref32_Below_walk {F : Fz} {fr : List Ow} {h0 : Heap} (t_Root : Int) (t_Links : List T_api_Branch) (n : Int) (vt_Links : Value) (hS : St F (fr) h0) (hL_t_Links : SliceF F h0 2 e_api_Branch vt_Links t_Links) {Q : (List Int) → Prop} (hM : ref32_Below_W t_Root t_Links n Q) :
  HC Try.prog 77 #[.agg #[.int .i64 t_Root, vt_Links], .int .i64 n] h0 fun u h' => ∃ (F' : Fz) (r_1 : List Int) (vr_1 : Value), u = vr_1 ∧ Kp F h0 F' h' ∧ St F' (Ow.own 3 1 encI vr_1 r_1 :: fr) h' ∧ (SliceF F' h' 2 e_api_Branch vt_Links t_Links) ∧ Q r_1 := by
 unfold ref32_Below_W at hM
 have hK := Kp.refl F h0
 refine HC.of_HW (n := 41) Try.func77 rfl rfl (Nat.le_of_ble_eq_true rfl) ?_
 refine HW.seq ?_
 refine HW.region ?_
 refine HO.eff (want_none) rfl (st_box (c := #[.int .i64 t_Root, vt_Links]) (k' := 2) hS rfl rfl) ?_
 rintro _ h_1 ⟨b_1, rfl, hS, hk⟩
 replace hK := hK.trans hk
 replace hL_t_Links := hL_t_Links.kp hk
 refine oA (.slice none 0 0) rfl rfl ?_
 refine HO.nil (thenQ_normal (?_))
 refine HW.seq ?_
 refine HW.region ?_
 refine oM (.int .i64 n) rfl rfl ?_
 refine HO.eff (want_none) rfl (st_lit (enc := encI) (cells := #[.int .i64 n]) #[.int .i64 0] ([n] : List Int) hS tl_31 (by decide) (by decide) (by kernel_rfl) (by kernel_rfl) rfl (by intro x hx; rfl) rfl) ?_
 rintro _ h_2 ⟨b_2, rfl, hS, hk⟩
 replace hK := hK.trans hk
 replace hL_t_Links := hL_t_Links.kp hk
 refine oA (.slice (some ⟨b_2, 0, none⟩) 1 1) rfl rfl ?_
 refine HO.nil (thenQ_normal (?_))
 refine HW.seq ?_
 refine HW.seq ?_
 refine HW.region ?_
 refine oA (.int .i64 0) rfl rfl ?_
 refine HO.nil (thenQ_normal (?_))
 refine HW.block ?_
 obtain ⟨I_1, m_1, hI_1, hR_1⟩ := hM
 replace hS : St F (Ow.box b_1 46 #[.int .i64 t_Root, vt_Links] :: Ow.own 3 1 encI (.slice (some ⟨b_2, 0, none⟩) 1 1) ([n] : List Int) :: fr) h_2 := hS.perm2 [1, 0] 2 rfl rfl
 refine HW.loop (S := List Int × Int) (fun s f h => match s with | (out_1, k_1) => ∃ (F' : Fz) (vout_1 : Value), f 2 = .pointer (some ⟨b_1, 0, none⟩) ∧ f 4 = .slice none 0 0 ∧ f 5 = vout_1 ∧ f 6 = .int .i64 k_1 ∧ Kp F h0 F' h ∧ St F' (Ow.box b_1 46 #[.int .i64 t_Root, vt_Links] :: Ow.own 3 1 encI vout_1 out_1 :: fr) h ∧ (SliceF F' h 2 e_api_Branch vt_Links t_Links) ∧ I_1 (out_1, k_1)) m_1 (([n] : List Int), 0) ⟨F, .slice (some ⟨b_2, 0, none⟩) 1 1, rfl, rfl, rfl, rfl, hK, hS, hL_t_Links, hI_1⟩ ?_
 rintro ⟨out_1, k_1⟩ f_1 h_3 ⟨F_1, vout_1, e2, e4, e5, e6, hK, hS, hL_t_Links, hI0⟩
 obtain ⟨K_1, hKe_1⟩ : ∃ K : (List Int) → Int → Prop, K = fun out_1' k_1' => I_1 (out_1', k_1') ∧ m_1 (out_1', k_1') < m_1 (out_1, k_1) := ⟨_, rfl⟩
 have hM : ref32_Below_l1 t_Links Q K_1 out_1 k_1 := by rw [hKe_1]; exact hR_1 (out_1, k_1) hI0
 unfold ref32_Below_l1 at hM
 refine HW.fr [(2, .pointer (some ⟨b_1, 0, none⟩)), (4, .slice none 0 0), (5, vout_1), (6, .int .i64 k_1)] ⟨e2, e4, e5, e6, trivial⟩ ?_
 refine HW.seq ?_
 refine HW.seq ?_
 refine HW.region ?_
 refine oM (.int .i64 k_1) rfl rfl ?_
 refine oV (.pointer (some ⟨b_1, 1, none⟩)) (q_fieldAddr fa_46_1 rfl rfl) rfl ?_
 refine oV (vt_Links) (q_load to_44 rfl (Blk.cell (hS.box 0 rfl) rfl)) rfl ?_
 refine oV (.int .i64 (t_Links.length : Int)) (q_len ts_44 (shp hL_t_Links.is) rfl rfl) rfl ?_
 refine oV (.bool (decide (k_1 ≤ (t_Links.length : Int)))) (q_leq rfl rfl) rfl ?_
 refine HO.nil (thenQ_normal (?_))
 refine HW.cond (decide (k_1 ≤ (t_Links.length : Int))) rfl (fun c_1 => ?_) (fun c_1 => ?_)
 ·
  replace hM := hM.1 (of_decide_eq_true c_1)
  refine HW.skip (thenQ_normal (?_))
  refine HW.seq ?_
  refine HW.block ?_
  refine HW.seq ?_
  refine HW.region ?_
  refine oA (.int .i64 0) rfl rfl ?_
  refine HO.nil (thenQ_normal (?_))
  refine HW.block ?_
  obtain ⟨I_2, m_2, hI_2, hR_2⟩ := hM
  refine HW.loop (S := List Int × Int) (fun s f h => match s with | (out_2, i_1) => ∃ (F' : Fz) (vout_2 : Value), f 2 = .pointer (some ⟨b_1, 0, none⟩) ∧ f 4 = .slice none 0 0 ∧ f 5 = vout_2 ∧ f 6 = .int .i64 k_1 ∧ f 7 = .int .i64 i_1 ∧ Kp F h0 F' h ∧ St F' (Ow.box b_1 46 #[.int .i64 t_Root, vt_Links] :: Ow.own 3 1 encI vout_2 out_2 :: fr) h ∧ (SliceF F' h 2 e_api_Branch vt_Links t_Links) ∧ I_2 (out_2, i_1)) m_2 (out_1, 0) ⟨F_1, vout_1, rfl, rfl, rfl, rfl, rfl, hK, hS, hL_t_Links, hI_2⟩ ?_
  rintro ⟨out_2, i_1⟩ f_2 h_4 ⟨F_2, vout_2, e2, e4, e5, e6, e7, hK, hS, hL_t_Links, hI0⟩
  obtain ⟨K_2, hKe_2⟩ : ∃ K : (List Int) → Int → Prop, K = fun out_2' i_1' => I_2 (out_2', i_1') ∧ m_2 (out_2', i_1') < m_2 (out_2, i_1) := ⟨_, rfl⟩
  have hM : ref32_Below_l2 t_Links k_1 K_1 K_2 out_2 i_1 := by rw [hKe_2]; exact hR_2 (out_2, i_1) hI0
  unfold ref32_Below_l2 at hM
  refine HW.fr [(2, .pointer (some ⟨b_1, 0, none⟩)), (4, .slice none 0 0), (5, vout_2), (6, .int .i64 k_1), (7, .int .i64 i_1)] ⟨e2, e4, e5, e6, e7, trivial⟩ ?_
  refine HW.seq ?_
  refine HW.seq ?_
  refine HW.region ?_
  refine oM (.int .i64 i_1) rfl rfl ?_
  refine oV (.pointer (some ⟨b_1, 1, none⟩)) (q_fieldAddr fa_46_1 rfl rfl) rfl ?_
  refine oV (vt_Links) (q_load to_44 rfl (Blk.cell (hS.box 0 rfl) rfl)) rfl ?_
  refine oV (.int .i64 (t_Links.length : Int)) (q_len ts_44 (shp hL_t_Links.is) rfl rfl) rfl ?_
  refine oV (.bool (decide (i_1 < (t_Links.length : Int)))) (q_lss rfl rfl) rfl ?_
  refine HO.nil (thenQ_normal (?_))
  refine HW.cond (decide (i_1 < (t_Links.length : Int))) rfl (fun c_2 => ?_) (fun c_2 => ?_)
  ·
   replace hM := hM.1 (of_decide_eq_true c_2)
   refine HW.skip (thenQ_normal (?_))
   refine HW.seq ?_
   refine HW.block ?_
   refine HW.seq ?_
   refine HW.region ?_
   refine oM (vout_2) rfl rfl ?_
   refine oV (.pointer (some ⟨b_1, 1, none⟩)) (q_fieldAddr fa_46_1 rfl rfl) rfl ?_
   refine oV (vt_Links) (q_load to_44 rfl (Blk.cell (hS.box 0 rfl) rfl)) rfl ?_
   refine oM (.int .i64 i_1) rfl rfl ?_
   obtain ⟨ho_1, hM⟩ := hM
   refine oV (elemPtr 2 vt_Links (i_1).toNat) (q_idx ts_44 hL_t_Links.is rfl rfl ho_1) rfl ?_
   refine oV (fieldPtr 2 vt_Links (i_1).toNat 0) (q_fldElem fa_67_0 hL_t_Links.is rfl ho_1) rfl ?_
   refine oV (.int .i64 ((gi t_Links i_1).1)) (q_ldField to_3 hL_t_Links.is rfl ho_1 (by decide) rfl) rfl ?_
   replace hS : St F_2 (Ow.own 3 1 encI vout_2 out_2 :: Ow.box b_1 46 #[.int .i64 t_Root, vt_Links] :: fr) h_4 := hS.perm2 [1, 0] 2 rfl rfl
   have hZ_1 := hS
   have hkz_1 := (hS.freeze).2
   replace hS := hS.freeze.1
   have hL_1 : SliceF (fun bz_ => F_2 bz_ ∨ (Ow.own 3 1 encI vout_2 out_2).foot bz_) h_4 1 encI vout_2 out_2 := ⟨(hZ_1.own 0 rfl).slice, fun _ b hb => .inr hb⟩
   refine HO.call (want_none) rfl (ec en_12 rfl rfl) (ref32_Has_walk (fr := (Ow.box b_1 46 #[.int .i64 t_Root, vt_Links] :: fr)) out_2 ((gi t_Links i_1).1) vout_2 hS hL_1 hM) ?_
   rintro _ h_5 ⟨F_3, r_2, rfl, hk, hS, _, hM⟩
   obtain ⟨hS, hk⟩ := hZ_1.back hk hS
   generalize (fun bz_ => F_3 bz_ ∧ ¬ (Ow.own 3 1 encI vout_2 out_2).foot bz_) = F_4 at hS hk
   replace hK := hK.trans hk
   replace hL_t_Links := hL_t_Links.kp hk
   refine HO.nil (thenQ_normal (?_))
   refine HW.cond r_2 rfl (fun c_3 => ?_) (fun c_3 => ?_)
   ·
    replace hM := hM.1 c_3
    refine HW.region ?_
    refine oM (vout_2) rfl rfl ?_
    refine oV (.pointer (some ⟨b_1, 1, none⟩)) (q_fieldAddr fa_46_1 rfl rfl) rfl ?_
    refine oV (vt_Links) (q_load to_44 rfl (Blk.cell (hS.box 1 rfl) rfl)) rfl ?_
    refine oM (.int .i64 i_1) rfl rfl ?_
    refine oV (elemPtr 2 vt_Links (i_1).toNat) (q_idx ts_44 hL_t_Links.is rfl rfl ho_1) rfl ?_
    refine oV (fieldPtr 2 vt_Links (i_1).toNat 1) (q_fldElem fa_67_1 hL_t_Links.is rfl ho_1) rfl ?_
    refine oV (.int .i64 ((gi t_Links i_1).2)) (q_ldField to_3 hL_t_Links.is rfl ho_1 (by decide) rfl) rfl ?_
    refine HO.call (want_none) rfl (ec en_13 rfl rfl) (ref32_Add_walk (fr := (Ow.box b_1 46 #[.int .i64 t_Root, vt_Links] :: fr)) out_2 ((gi t_Links i_1).2) vout_2 hS hM) ?_
    rintro vr_2 h_6 ⟨F_5, r_3, _, rfl, hk, hS, hM⟩
    replace hK := hK.trans hk
    replace hL_t_Links := hL_t_Links.kp hk
    refine oA (vr_2) rfl rfl ?_
    refine HO.nil (blockQ_normal (thenQ_normal (?_)))
    refine HW.region ?_
    refine oM (.int .i64 i_1) rfl rfl ?_
    obtain ⟨ho_2, hM⟩ := hM
    refine oV (.int .i64 (i_1 + 1)) (q_addN _ rfl rfl rfl ho_2.1 ho_2.2) rfl ?_
    refine oA (.int .i64 (i_1 + 1)) rfl rfl ?_
    refine HO.nil (thenQ_normal (?_))
    replace hS : St F_5 (Ow.box b_1 46 #[.int .i64 t_Root, vt_Links] :: Ow.own 3 1 encI vr_2 r_3 :: fr) h_6 := hS.perm2 [1, 0] 2 rfl rfl
    rw [hKe_2] at hM
    exact ⟨(r_3, i_1 + 1), ⟨F_5, vr_2, rfl, rfl, rfl, rfl, rfl, hK, hS, hL_t_Links, hM.1⟩, hM.2⟩
   ·
    replace hM := hM.2 c_3
    refine HW.skip (blockQ_normal (thenQ_normal (?_)))
    refine HW.region ?_
    refine oM (.int .i64 i_1) rfl rfl ?_
    obtain ⟨ho_3, hM⟩ := hM
    refine oV (.int .i64 (i_1 + 1)) (q_addN _ rfl rfl rfl ho_3.1 ho_3.2) rfl ?_
    refine oA (.int .i64 (i_1 + 1)) rfl rfl ?_
    refine HO.nil (thenQ_normal (?_))
    replace hS : St F_4 (Ow.box b_1 46 #[.int .i64 t_Root, vt_Links] :: Ow.own 3 1 encI vout_2 out_2 :: fr) h_5 := hS.perm2 [1, 0] 2 rfl rfl
    rw [hKe_2] at hM
    exact ⟨(out_2, i_1 + 1), ⟨F_4, vout_2, rfl, rfl, rfl, rfl, rfl, hK, hS, hL_t_Links, hM.1⟩, hM.2⟩
  ·
   replace hM := hM.2 (of_decide_eq_false c_2)
   refine HW.exit (thenQ_exit (thenQ_exit (blockQ_exit (blockQ_normal (thenQ_normal (?_))))))
   refine HW.region ?_
   refine oM (.int .i64 k_1) rfl rfl ?_
   obtain ⟨ho_4, hM⟩ := hM
   refine oV (.int .i64 (k_1 + 1)) (q_addN _ rfl rfl rfl ho_4.1 ho_4.2) rfl ?_
   refine oA (.int .i64 (k_1 + 1)) rfl rfl ?_
   refine HO.nil (thenQ_normal (?_))
   rw [hKe_1] at hM
   exact ⟨(out_2, k_1 + 1), ⟨F_2, vout_2, rfl, rfl, rfl, rfl, hK, hS, hL_t_Links, hM.1⟩, hM.2⟩
 ·
  replace hM := hM.2 (of_decide_eq_false c_1)
  refine HW.exit (thenQ_exit (thenQ_exit (blockQ_exit (thenQ_normal (?_)))))
  refine HW.seq ?_
  refine HW.region ?_
  refine oM (vout_1) rfl rfl ?_
  refine oA (vout_1) rfl rfl ?_
  refine HO.nil (thenQ_normal (?_))
  refine HW.ret (?_)
  refine ⟨.inr rfl, vout_1, res1 rfl (rt rfl), ?_⟩
  replace hS : St F_1 (Ow.own 3 1 encI vout_1 out_1 :: fr) h_3 := hS.perm2 [1] 2 rfl rfl
  exact ⟨F_1, out_1, vout_1, rfl, hK, hS, hL_t_Links, hM⟩

def ref32_Good_l2 (t_Links : List T_api_Branch) (Q : Bool → Prop) (i_1 : Int) (K_1 : Int → Prop) (K_2 : Int → Prop) (k_1 : Int) : Prop :=
 (k_1 < i_1 → ((0 : Int) ≤ k_1 ∧ k_1 < (t_Links.length : Int)) ∧ (((0 : Int) ≤ i_1 ∧ i_1 < (t_Links.length : Int)) ∧ ((((gi t_Links k_1).2) = ((gi t_Links i_1).2) → Q false) ∧ (¬ (((gi t_Links k_1).2) = ((gi t_Links i_1).2)) → (I64 (k_1 + 1)) ∧ (K_2 (k_1 + 1)))))) ∧ (¬ (k_1 < i_1) → (I64 (i_1 + 1)) ∧ (K_1 (i_1 + 1)))
def ref32_Good_j1 (t_Links : List T_api_Branch) (Q : Bool → Prop) (i_1 : Int) (K_1 : Int → Prop) : Prop :=
 loopW (fun (K_2 : Int → Prop) (s : Int) => ref32_Good_l2 t_Links Q i_1 K_1 K_2 s) 0
def ref32_Good_l1 (t_Root : Int) (t_Links : List T_api_Branch) (Q : Bool → Prop) (K_1 : Int → Prop) (i_1 : Int) : Prop :=
 (i_1 < (t_Links.length : Int) → ((0 : Int) ≤ i_1 ∧ i_1 < (t_Links.length : Int)) ∧ ((((gi t_Links i_1).2) = t_Root → Q false) ∧ (¬ (((gi t_Links i_1).2) = t_Root) → (0 < i_1 → (I64 (i_1 - 1)) ∧ (((0 : Int) ≤ i_1 - 1 ∧ i_1 - 1 < (t_Links.length : Int)) ∧ (ref32_less_W (gi t_Links (i_1 - 1)) (gi t_Links i_1) (fun r_2 => ((!r_2) = true → Q false) ∧ ((!r_2) = false → ref32_Good_j1 t_Links Q i_1 K_1))))) ∧ (¬ (0 < i_1) → ref32_Good_j1 t_Links Q i_1 K_1)))) ∧ (¬ (i_1 < (t_Links.length : Int)) → ((t_Links.length : Int) < 256 → (I64 ((t_Links.length : Int) + 1)) ∧ (ref32_Below_W t_Root t_Links t_Root (fun r_3 => Q (decide ((r_3.length : Int) = ((t_Links.length : Int) + 1)))))) ∧ (¬ ((t_Links.length : Int) < 256) → Q false))
def ref32_Good_W (t_Root : Int) (t_Links : List T_api_Branch) (Q : Bool → Prop) : Prop :=
 loopW (fun (K_1 : Int → Prop) (s : Int) => ref32_Good_l1 t_Root t_Links Q K_1 s) 0
set_option maxHeartbeats 40000000 in
set_option maxRecDepth 100000 in
theorem ref32_Good_walk {F : Fz} {fr : List Ow} {h0 : Heap} (t_Root : Int) (t_Links : List T_api_Branch) (vt_Links : Value) (hS : St F (fr) h0) (hL_t_Links : SliceF F h0 2 e_api_Branch vt_Links t_Links) {Q : Bool → Prop} (hM : ref32_Good_W t_Root t_Links Q) :
  HC Try.prog 52 #[.agg #[.int .i64 t_Root, vt_Links]] h0 fun u h' => ∃ (F' : Fz) (r_1 : Bool), u = .bool r_1 ∧ Kp F h0 F' h' ∧ St F' (fr) h' ∧ (SliceF F' h' 2 e_api_Branch vt_Links t_Links) ∧ Q r_1 := by
 unfold ref32_Good_W at hM
 have hK := Kp.refl F h0
 refine HC.of_HW (n := 74) Try.func52 rfl rfl (Nat.le_of_ble_eq_true rfl) ?_
 refine HW.seq ?_
 refine HW.region ?_
 refine HO.eff (want_none) rfl (st_box (c := #[.int .i64 t_Root, vt_Links]) (k' := 2) hS rfl rfl) ?_
 rintro _ h_1 ⟨b_1, rfl, hS, hk⟩
 replace hK := hK.trans hk
 replace hL_t_Links := hL_t_Links.kp hk
 refine oA (.bool false) rfl rfl ?_
 refine HO.nil (thenQ_normal (?_))
 refine HW.seq ?_
 refine HW.seq ?_
 refine HW.region ?_
 refine oA (.int .i64 0) rfl rfl ?_
 refine HO.nil (thenQ_normal (?_))
 refine HW.block ?_
 obtain ⟨I_1, m_1, hI_1, hR_1⟩ := hM
 refine HW.loop (S := Int) (fun i_1 f h => ∃ (F' : Fz), f 1 = .pointer (some ⟨b_1, 0, none⟩) ∧ f 2 = .bool false ∧ f 3 = .int .i64 i_1 ∧ Kp F h0 F' h ∧ St F' (Ow.box b_1 46 #[.int .i64 t_Root, vt_Links] :: fr) h ∧ (SliceF F' h 2 e_api_Branch vt_Links t_Links) ∧ I_1 i_1) m_1 0 ⟨F, rfl, rfl, rfl, hK, hS, hL_t_Links, hI_1⟩ ?_
 rintro i_1 f_1 h_2 ⟨F_1, e1, e2, e3, hK, hS, hL_t_Links, hI0⟩
 obtain ⟨K_1, hKe_1⟩ : ∃ K : Int → Prop, K = fun i_1' => I_1 i_1' ∧ m_1 i_1' < m_1 i_1 := ⟨_, rfl⟩
 have hM : ref32_Good_l1 t_Root t_Links Q K_1 i_1 := by rw [hKe_1]; exact hR_1 i_1 hI0
 unfold ref32_Good_l1 at hM
 refine HW.fr [(1, .pointer (some ⟨b_1, 0, none⟩)), (2, .bool false), (3, .int .i64 i_1)] ⟨e1, e2, e3, trivial⟩ ?_
 refine HW.seq ?_
 refine HW.seq ?_
 refine HW.region ?_
 refine oM (.int .i64 i_1) rfl rfl ?_
 refine oV (.pointer (some ⟨b_1, 1, none⟩)) (q_fieldAddr fa_46_1 rfl rfl) rfl ?_
 refine oV (vt_Links) (q_load to_44 rfl (Blk.cell (hS.box 0 rfl) rfl)) rfl ?_
 refine oV (.int .i64 (t_Links.length : Int)) (q_len ts_44 (shp hL_t_Links.is) rfl rfl) rfl ?_
 refine oV (.bool (decide (i_1 < (t_Links.length : Int)))) (q_lss rfl rfl) rfl ?_
 refine HO.nil (thenQ_normal (?_))
 refine HW.cond (decide (i_1 < (t_Links.length : Int))) rfl (fun c_1 => ?_) (fun c_1 => ?_)
 ·
  replace hM := hM.1 (of_decide_eq_true c_1)
  refine HW.skip (thenQ_normal (?_))
  refine HW.seq ?_
  refine HW.block ?_
  refine HW.seq_mid (fun f h => ∃ (F' : Fz), f 1 = .pointer (some ⟨b_1, 0, none⟩) ∧ f 2 = .bool false ∧ f 3 = .int .i64 i_1 ∧ Kp F h0 F' h ∧ St F' (Ow.box b_1 46 #[.int .i64 t_Root, vt_Links] :: fr) h ∧ (SliceF F' h 2 e_api_Branch vt_Links t_Links) ∧ ref32_Good_j1 t_Links Q i_1 K_1) ?_ ?_
  ·
   refine HW.seq ?_
   refine HW.regionA 28 mixed (fun h => (SliceIs h 2 e_api_Branch vt_Links t_Links) ∧ (Blk h b_1 (.cells #[.int .i64 t_Root, vt_Links] 46 (0, 0)))) [] (by kernel_rfl) ?_
   refine HA.val (k := 0) (v := .pointer (some ⟨b_1, 1, none⟩)) rfl rfl (by kernel_rfl) (by kernel_rfl) (want_none) rfl (fun _ ⟨hL_t_Links, c302⟩ => q_fieldAddr fa_46_1 rfl rfl) ?_
   refine HA.val (k := 1) (v := vt_Links) rfl rfl (by kernel_rfl) (by kernel_rfl) (want_none) rfl (fun _ ⟨hL_t_Links, c302⟩ => q_load to_44 rfl (Blk.cell c302 rfl)) ?_
   refine HA.val (k := 2) (v := .int .i64 i_1) rfl rfl (by kernel_rfl) (by kernel_rfl) (want_none) rfl (fun _ ⟨hL_t_Links, c302⟩ => q_move rfl) ?_
   obtain ⟨ho_1, hM⟩ := hM
   refine HA.val (k := 3) (v := elemPtr 2 vt_Links (i_1).toNat) rfl rfl (by kernel_rfl) (by kernel_rfl) (want_none) rfl (fun _ ⟨hL_t_Links, c302⟩ => q_idx ts_44 hL_t_Links rfl rfl ho_1) ?_
   refine HA.val (k := 4) (v := fieldPtr 2 vt_Links (i_1).toNat 1) rfl rfl (by kernel_rfl) (by kernel_rfl) (want_none) rfl (fun _ ⟨hL_t_Links, c302⟩ => q_fldElem fa_67_1 hL_t_Links rfl ho_1) ?_
   refine HA.val (k := 5) (v := .int .i64 ((gi t_Links i_1).2)) rfl rfl (by kernel_rfl) (by kernel_rfl) (want_none) rfl (fun _ ⟨hL_t_Links, c302⟩ => q_ldField to_3 hL_t_Links rfl ho_1 (by decide) rfl) ?_
   refine HA.val (k := 6) (v := .pointer (some ⟨b_1, 0, none⟩)) rfl rfl (by kernel_rfl) (by kernel_rfl) (want_none) rfl (fun _ ⟨hL_t_Links, c302⟩ => q_fieldAddr fa_46_0 rfl rfl) ?_
   refine HA.val (k := 7) (v := .int .i64 t_Root) rfl rfl (by kernel_rfl) (by kernel_rfl) (want_none) rfl (fun _ ⟨hL_t_Links, c302⟩ => q_load to_3 rfl (Blk.cell c302 rfl)) ?_
   refine HA.val (k := 8) (v := .bool (decide (((gi t_Links i_1).2) = t_Root))) rfl rfl (by kernel_rfl) (by kernel_rfl) (want_none) rfl (fun _ ⟨hL_t_Links, c302⟩ => q_eql rfl rfl) ?_
   refine HA.val (k := 9) (v := .bool (decide (((gi t_Links i_1).2) = t_Root))) rfl rfl (by kernel_rfl) (by kernel_rfl) (want_none) rfl (fun _ ⟨hL_t_Links, c302⟩ => q_move rfl) ?_
   rcases Bool.eq_false_or_eq_true (decide (((gi t_Links i_1).2) = t_Root)) with c_2 | c_2
   ·
    replace hM := hM.1 (of_decide_eq_true c_2)
    refine HA.past (k := 10) rfl rfl (by kernel_rfl) (by kernel_rfl) (past_by rfl rfl c_2) rfl ?_
    refine HA.past (k := 11) rfl rfl (by kernel_rfl) (by kernel_rfl) (past_by rfl rfl c_2) rfl ?_
    refine HA.past (k := 12) rfl rfl (by kernel_rfl) (by kernel_rfl) (past_by rfl rfl c_2) rfl ?_
    refine HA.past (k := 13) rfl rfl (by kernel_rfl) (by kernel_rfl) (past_undef rfl rfl) rfl ?_
    refine HA.past (k := 14) rfl rfl (by kernel_rfl) (by kernel_rfl) (past_undef rfl rfl) rfl ?_
    refine HA.past (k := 15) rfl rfl (by kernel_rfl) (by kernel_rfl) (past_undef rfl rfl) rfl ?_
    refine HA.past (k := 16) rfl rfl (by kernel_rfl) (by kernel_rfl) (past_undef rfl rfl) rfl ?_
    refine HA.past (k := 17) rfl rfl (by kernel_rfl) (by kernel_rfl) (past_undef rfl rfl) rfl ?_
    refine HA.past (k := 18) rfl rfl (by kernel_rfl) (by kernel_rfl) (past_undef rfl rfl) rfl ?_
    refine HA.past (k := 19) rfl rfl (by kernel_rfl) (by kernel_rfl) (past_undef rfl rfl) rfl ?_
    refine HA.past (k := 20) rfl rfl (by kernel_rfl) (by kernel_rfl) (past_undef rfl rfl) rfl ?_
    refine HA.past (k := 21) rfl rfl (by kernel_rfl) (by kernel_rfl) (past_undef rfl rfl) rfl ?_
    refine HA.past (k := 22) rfl rfl (by kernel_rfl) (by kernel_rfl) (past_undef rfl rfl) rfl ?_
    refine HA.past (k := 23) rfl rfl (by kernel_rfl) (by kernel_rfl) (past_undef rfl rfl) rfl ?_
    refine HA.one (k := 24) ⟨⟨hL_t_Links.is, (hS.box 0 rfl)⟩, (Go.Wk.at_nil _ _)⟩ (by kernel_rfl) ?_
    refine HS.past rfl (past_undef rfl rfl) rfl ?_
    refine HA.past (k := 25) rfl rfl (by kernel_rfl) (by kernel_rfl) (past_undef rfl rfl) rfl ?_
    refine HA.past (k := 26) rfl rfl (by kernel_rfl) (by kernel_rfl) (past_by rfl rfl c_2) rfl ?_
    refine HA.val (k := 27) (v := .bool true) rfl rfl (by kernel_rfl) (by kernel_rfl) (want_none) rfl (fun _ ⟨hL_t_Links, c302⟩ => q_pickK true rfl c_2 rfl) ?_
    refine HA.nil ⟨⟨hL_t_Links.is, (hS.box 0 rfl)⟩, (Go.Wk.at_nil _ _)⟩ (by kernel_rfl) (thenQ_normal (?_))
    refine HW.condT rfl ?_
    refine HW.seq ?_
    refine HW.region ?_
    refine oA (.bool false) rfl rfl ?_
    refine HO.nil (thenQ_normal (?_))
    refine HW.ret (thenQ_ret (blockQ_ret (thenQ_ret (thenQ_ret (blockQ_ret (thenQ_ret (?_)))))))
    refine ⟨.inr rfl, .bool false, res1 rfl (rt rfl), ?_⟩
    replace hS : St F_1 (fr) h_2 := hS.perm2 [] 1 rfl rfl
    exact ⟨F_1, false, rfl, hK, hS, hL_t_Links, hM⟩
   ·
    replace hM := hM.2 (of_decide_eq_false c_2)
    refine HA.val (k := 10) (v := .int .i64 i_1) rfl rfl (by kernel_rfl) (by kernel_rfl) (want_by rfl rfl c_2) rfl (fun _ ⟨hL_t_Links, c302⟩ => q_move rfl) ?_
    refine HA.val (k := 11) (v := .bool (decide (0 < i_1))) rfl rfl (by kernel_rfl) (by kernel_rfl) (want_by rfl rfl c_2) rfl (fun _ ⟨hL_t_Links, c302⟩ => q_gtr rfl rfl) ?_
    refine HA.val (k := 12) (v := .bool (decide (0 < i_1))) rfl rfl (by kernel_rfl) (by kernel_rfl) (want_by rfl rfl c_2) rfl (fun _ ⟨hL_t_Links, c302⟩ => q_move rfl) ?_
    rcases Bool.eq_false_or_eq_true (decide (0 < i_1)) with c_3 | c_3
    ·
     replace hM := hM.1 (of_decide_eq_true c_3)
     refine HA.val (k := 13) (v := .pointer (some ⟨b_1, 1, none⟩)) rfl rfl (by kernel_rfl) (by kernel_rfl) (want_by rfl rfl c_3) rfl (fun _ ⟨hL_t_Links, c302⟩ => q_fieldAddr fa_46_1 rfl rfl) ?_
     refine HA.val (k := 14) (v := vt_Links) rfl rfl (by kernel_rfl) (by kernel_rfl) (want_by rfl rfl c_3) rfl (fun _ ⟨hL_t_Links, c302⟩ => q_load to_44 rfl (Blk.cell c302 rfl)) ?_
     refine HA.val (k := 15) (v := .int .i64 i_1) rfl rfl (by kernel_rfl) (by kernel_rfl) (want_by rfl rfl c_3) rfl (fun _ ⟨hL_t_Links, c302⟩ => q_move rfl) ?_
     obtain ⟨ho_2, hM⟩ := hM
     refine HA.val (k := 16) (v := .int .i64 (i_1 - 1)) rfl rfl (by kernel_rfl) (by kernel_rfl) (want_by rfl rfl c_3) rfl (fun _ ⟨hL_t_Links, c302⟩ => q_subN _ rfl rfl rfl ho_2.1 ho_2.2) ?_
     obtain ⟨ho_3, hM⟩ := hM
     refine HA.val (k := 17) (v := elemPtr 2 vt_Links (i_1 - 1).toNat) rfl rfl (by kernel_rfl) (by kernel_rfl) (want_by rfl rfl c_3) rfl (fun _ ⟨hL_t_Links, c302⟩ => q_idx ts_44 hL_t_Links rfl rfl ho_3) ?_
     refine HA.val (k := 18) (v := .agg #[.int .i64 ((gi t_Links (i_1 - 1)).1), .int .i64 ((gi t_Links (i_1 - 1)).2)]) rfl rfl (by kernel_rfl) (by kernel_rfl) (want_by rfl rfl c_3) rfl (fun _ ⟨hL_t_Links, c302⟩ => q_ldElemAgg (cs := [.int .i64 ((gi t_Links (i_1 - 1)).1), .int .i64 ((gi t_Links (i_1 - 1)).2)]) ta_67 hL_t_Links rfl ho_3 rfl) ?_
     refine HA.val (k := 19) (v := .pointer (some ⟨b_1, 1, none⟩)) rfl rfl (by kernel_rfl) (by kernel_rfl) (want_by rfl rfl c_3) rfl (fun _ ⟨hL_t_Links, c302⟩ => q_fieldAddr fa_46_1 rfl rfl) ?_
     refine HA.val (k := 20) (v := vt_Links) rfl rfl (by kernel_rfl) (by kernel_rfl) (want_by rfl rfl c_3) rfl (fun _ ⟨hL_t_Links, c302⟩ => q_load to_44 rfl (Blk.cell c302 rfl)) ?_
     refine HA.val (k := 21) (v := .int .i64 i_1) rfl rfl (by kernel_rfl) (by kernel_rfl) (want_by rfl rfl c_3) rfl (fun _ ⟨hL_t_Links, c302⟩ => q_move rfl) ?_
     refine HA.val (k := 22) (v := elemPtr 2 vt_Links (i_1).toNat) rfl rfl (by kernel_rfl) (by kernel_rfl) (want_by rfl rfl c_3) rfl (fun _ ⟨hL_t_Links, c302⟩ => q_idx ts_44 hL_t_Links rfl rfl ho_1) ?_
     refine HA.val (k := 23) (v := .agg #[.int .i64 ((gi t_Links i_1).1), .int .i64 ((gi t_Links i_1).2)]) rfl rfl (by kernel_rfl) (by kernel_rfl) (want_by rfl rfl c_3) rfl (fun _ ⟨hL_t_Links, c302⟩ => q_ldElemAgg (cs := [.int .i64 ((gi t_Links i_1).1), .int .i64 ((gi t_Links i_1).2)]) ta_67 hL_t_Links rfl ho_1 rfl) ?_
     refine HA.one (k := 24) ⟨⟨hL_t_Links.is, (hS.box 0 rfl)⟩, (Go.Wk.at_nil _ _)⟩ (by kernel_rfl) ?_
     refine HS.call rfl (want_by rfl rfl c_3) rfl (ec en_68 rfl rfl) (ref32_less_walk (fr := (Ow.box b_1 46 #[.int .i64 t_Root, vt_Links] :: fr)) (gi t_Links (i_1 - 1)) (gi t_Links i_1) hS hM) ?_
     rintro _ h_3 ⟨F_2, r_2, rfl, hk, hS, hM⟩
     replace hK := hK.trans hk
     replace hL_t_Links := hL_t_Links.kp hk
     refine HA.val (k := 25) (v := .bool (!r_2)) rfl rfl (by kernel_rfl) (by kernel_rfl) (want_by rfl rfl c_3) rfl (fun _ ⟨hL_t_Links, c302⟩ => q_not rfl) ?_
     refine HA.val (k := 26) (v := .bool (!r_2)) rfl rfl (by kernel_rfl) (by kernel_rfl) (want_by rfl rfl c_2) rfl (fun _ ⟨hL_t_Links, c302⟩ => q_pickK true rfl c_3 rfl) ?_
     refine HA.val (k := 27) (v := .bool (!r_2)) rfl rfl (by kernel_rfl) (by kernel_rfl) (want_none) rfl (fun _ ⟨hL_t_Links, c302⟩ => q_pickK false rfl c_2 rfl) ?_
     refine HA.nil ⟨⟨hL_t_Links.is, (hS.box 0 rfl)⟩, (Go.Wk.at_nil _ _)⟩ (by kernel_rfl) (thenQ_normal (?_))
     refine HW.cond (!r_2) rfl (fun c_4 => ?_) (fun c_4 => ?_)
     ·
      replace hM := hM.1 c_4
      refine HW.seq ?_
      refine HW.region ?_
      refine oA (.bool false) rfl rfl ?_
      refine HO.nil (thenQ_normal (?_))
      refine HW.ret (thenQ_ret (blockQ_ret (thenQ_ret (thenQ_ret (blockQ_ret (thenQ_ret (?_)))))))
      refine ⟨.inr rfl, .bool false, res1 rfl (rt rfl), ?_⟩
      replace hS : St F_2 (fr) h_3 := hS.perm2 [] 1 rfl rfl
      exact ⟨F_2, false, rfl, hK, hS, hL_t_Links, hM⟩
     ·
      replace hM := hM.2 c_4
      refine HW.skip (thenQ_normal (?_))
      exact ⟨F_2, rfl, rfl, rfl, hK, hS, hL_t_Links, hM⟩
    ·
     replace hM := hM.2 (of_decide_eq_false c_3)
     refine HA.past (k := 13) rfl rfl (by kernel_rfl) (by kernel_rfl) (past_by rfl rfl c_3) rfl ?_
     refine HA.past (k := 14) rfl rfl (by kernel_rfl) (by kernel_rfl) (past_by rfl rfl c_3) rfl ?_
     refine HA.past (k := 15) rfl rfl (by kernel_rfl) (by kernel_rfl) (past_by rfl rfl c_3) rfl ?_
     refine HA.past (k := 16) rfl rfl (by kernel_rfl) (by kernel_rfl) (past_by rfl rfl c_3) rfl ?_
     refine HA.past (k := 17) rfl rfl (by kernel_rfl) (by kernel_rfl) (past_by rfl rfl c_3) rfl ?_
     refine HA.past (k := 18) rfl rfl (by kernel_rfl) (by kernel_rfl) (past_by rfl rfl c_3) rfl ?_
     refine HA.past (k := 19) rfl rfl (by kernel_rfl) (by kernel_rfl) (past_by rfl rfl c_3) rfl ?_
     refine HA.past (k := 20) rfl rfl (by kernel_rfl) (by kernel_rfl) (past_by rfl rfl c_3) rfl ?_
     refine HA.past (k := 21) rfl rfl (by kernel_rfl) (by kernel_rfl) (past_by rfl rfl c_3) rfl ?_
     refine HA.past (k := 22) rfl rfl (by kernel_rfl) (by kernel_rfl) (past_by rfl rfl c_3) rfl ?_
     refine HA.past (k := 23) rfl rfl (by kernel_rfl) (by kernel_rfl) (past_by rfl rfl c_3) rfl ?_
     refine HA.one (k := 24) ⟨⟨hL_t_Links.is, (hS.box 0 rfl)⟩, (Go.Wk.at_nil _ _)⟩ (by kernel_rfl) ?_
     refine HS.past rfl (past_by rfl rfl c_3) rfl ?_
     refine HA.past (k := 25) rfl rfl (by kernel_rfl) (by kernel_rfl) (past_by rfl rfl c_3) rfl ?_
     refine HA.val (k := 26) (v := .bool false) rfl rfl (by kernel_rfl) (by kernel_rfl) (want_by rfl rfl c_2) rfl (fun _ ⟨hL_t_Links, c302⟩ => q_pickK false rfl c_3 rfl) ?_
     refine HA.val (k := 27) (v := .bool false) rfl rfl (by kernel_rfl) (by kernel_rfl) (want_none) rfl (fun _ ⟨hL_t_Links, c302⟩ => q_pickK false rfl c_2 rfl) ?_
     refine HA.nil ⟨⟨hL_t_Links.is, (hS.box 0 rfl)⟩, (Go.Wk.at_nil _ _)⟩ (by kernel_rfl) (thenQ_normal (?_))
     refine HW.condF rfl ?_
     refine HW.skip (thenQ_normal (?_))
     exact ⟨F_1, rfl, rfl, rfl, hK, hS, hL_t_Links, hM⟩
  ·
   rintro f_2 h_4 ⟨F_3, e1, e2, e3, hK, hS, hL_t_Links, hM⟩
   unfold ref32_Good_j1 at hM
   refine HW.fr [(1, .pointer (some ⟨b_1, 0, none⟩)), (2, .bool false), (3, .int .i64 i_1)] ⟨e1, e2, e3, trivial⟩ ?_
   refine HW.seq ?_
   refine HW.region ?_
   refine oA (.int .i64 0) rfl rfl ?_
   refine HO.nil (thenQ_normal (?_))
   refine HW.block ?_
   obtain ⟨I_2, m_2, hI_2, hR_2⟩ := hM
   refine HW.loop (S := Int) (fun k_1 f h => ∃ (F' : Fz), f 1 = .pointer (some ⟨b_1, 0, none⟩) ∧ f 2 = .bool false ∧ f 3 = .int .i64 i_1 ∧ f 4 = .int .i64 k_1 ∧ Kp F h0 F' h ∧ St F' (Ow.box b_1 46 #[.int .i64 t_Root, vt_Links] :: fr) h ∧ (SliceF F' h 2 e_api_Branch vt_Links t_Links) ∧ I_2 k_1) m_2 0 ⟨F_3, rfl, rfl, rfl, rfl, hK, hS, hL_t_Links, hI_2⟩ ?_
   rintro k_1 f_3 h_5 ⟨F_4, e1, e2, e3, e4, hK, hS, hL_t_Links, hI0⟩
   obtain ⟨K_2, hKe_2⟩ : ∃ K : Int → Prop, K = fun k_1' => I_2 k_1' ∧ m_2 k_1' < m_2 k_1 := ⟨_, rfl⟩
   have hM : ref32_Good_l2 t_Links Q i_1 K_1 K_2 k_1 := by rw [hKe_2]; exact hR_2 k_1 hI0
   unfold ref32_Good_l2 at hM
   refine HW.fr [(1, .pointer (some ⟨b_1, 0, none⟩)), (2, .bool false), (3, .int .i64 i_1), (4, .int .i64 k_1)] ⟨e1, e2, e3, e4, trivial⟩ ?_
   refine HW.seq ?_
   refine HW.seq ?_
   refine HW.region ?_
   refine oM (.int .i64 k_1) rfl rfl ?_
   refine oM (.int .i64 i_1) rfl rfl ?_
   refine oV (.bool (decide (k_1 < i_1))) (q_lss rfl rfl) rfl ?_
   refine HO.nil (thenQ_normal (?_))
   refine HW.cond (decide (k_1 < i_1)) rfl (fun c_5 => ?_) (fun c_5 => ?_)
   ·
    replace hM := hM.1 (of_decide_eq_true c_5)
    refine HW.skip (thenQ_normal (?_))
    refine HW.seq ?_
    refine HW.block ?_
    refine HW.seq ?_
    refine HW.regionA 13 mixed (fun h => (SliceIs h 2 e_api_Branch vt_Links t_Links) ∧ (Blk h b_1 (.cells #[.int .i64 t_Root, vt_Links] 46 (0, 0)))) [] (by kernel_rfl) ?_
    refine HA.val (k := 0) (v := .pointer (some ⟨b_1, 1, none⟩)) rfl rfl (by kernel_rfl) (by kernel_rfl) (want_none) rfl (fun _ ⟨hL_t_Links, c404⟩ => q_fieldAddr fa_46_1 rfl rfl) ?_
    refine HA.val (k := 1) (v := vt_Links) rfl rfl (by kernel_rfl) (by kernel_rfl) (want_none) rfl (fun _ ⟨hL_t_Links, c404⟩ => q_load to_44 rfl (Blk.cell c404 rfl)) ?_
    refine HA.val (k := 2) (v := .int .i64 k_1) rfl rfl (by kernel_rfl) (by kernel_rfl) (want_none) rfl (fun _ ⟨hL_t_Links, c404⟩ => q_move rfl) ?_
    obtain ⟨ho_4, hM⟩ := hM
    refine HA.val (k := 3) (v := elemPtr 2 vt_Links (k_1).toNat) rfl rfl (by kernel_rfl) (by kernel_rfl) (want_none) rfl (fun _ ⟨hL_t_Links, c404⟩ => q_idx ts_44 hL_t_Links rfl rfl ho_4) ?_
    refine HA.val (k := 4) (v := fieldPtr 2 vt_Links (k_1).toNat 1) rfl rfl (by kernel_rfl) (by kernel_rfl) (want_none) rfl (fun _ ⟨hL_t_Links, c404⟩ => q_fldElem fa_67_1 hL_t_Links rfl ho_4) ?_
    refine HA.val (k := 5) (v := .int .i64 ((gi t_Links k_1).2)) rfl rfl (by kernel_rfl) (by kernel_rfl) (want_none) rfl (fun _ ⟨hL_t_Links, c404⟩ => q_ldField to_3 hL_t_Links rfl ho_4 (by decide) rfl) ?_
    refine HA.val (k := 6) (v := .pointer (some ⟨b_1, 1, none⟩)) rfl rfl (by kernel_rfl) (by kernel_rfl) (want_none) rfl (fun _ ⟨hL_t_Links, c404⟩ => q_fieldAddr fa_46_1 rfl rfl) ?_
    refine HA.val (k := 7) (v := vt_Links) rfl rfl (by kernel_rfl) (by kernel_rfl) (want_none) rfl (fun _ ⟨hL_t_Links, c404⟩ => q_load to_44 rfl (Blk.cell c404 rfl)) ?_
    refine HA.val (k := 8) (v := .int .i64 i_1) rfl rfl (by kernel_rfl) (by kernel_rfl) (want_none) rfl (fun _ ⟨hL_t_Links, c404⟩ => q_move rfl) ?_
    obtain ⟨ho_5, hM⟩ := hM
    refine HA.val (k := 9) (v := elemPtr 2 vt_Links (i_1).toNat) rfl rfl (by kernel_rfl) (by kernel_rfl) (want_none) rfl (fun _ ⟨hL_t_Links, c404⟩ => q_idx ts_44 hL_t_Links rfl rfl ho_5) ?_
    refine HA.val (k := 10) (v := fieldPtr 2 vt_Links (i_1).toNat 1) rfl rfl (by kernel_rfl) (by kernel_rfl) (want_none) rfl (fun _ ⟨hL_t_Links, c404⟩ => q_fldElem fa_67_1 hL_t_Links rfl ho_5) ?_
    refine HA.val (k := 11) (v := .int .i64 ((gi t_Links i_1).2)) rfl rfl (by kernel_rfl) (by kernel_rfl) (want_none) rfl (fun _ ⟨hL_t_Links, c404⟩ => q_ldField to_3 hL_t_Links rfl ho_5 (by decide) rfl) ?_
    refine HA.val (k := 12) (v := .bool (decide (((gi t_Links k_1).2) = ((gi t_Links i_1).2)))) rfl rfl (by kernel_rfl) (by kernel_rfl) (want_none) rfl (fun _ ⟨hL_t_Links, c404⟩ => q_eql rfl rfl) ?_
    refine HA.nil ⟨⟨hL_t_Links.is, (hS.box 0 rfl)⟩, (Go.Wk.at_nil _ _)⟩ (by kernel_rfl) (thenQ_normal (?_))
    refine HW.cond (decide (((gi t_Links k_1).2) = ((gi t_Links i_1).2))) rfl (fun c_6 => ?_) (fun c_6 => ?_)
    ·
     replace hM := hM.1 (of_decide_eq_true c_6)
     refine HW.seq ?_
     refine HW.region ?_
     refine oA (.bool false) rfl rfl ?_
     refine HO.nil (thenQ_normal (?_))
     refine HW.ret (blockQ_ret (thenQ_ret (thenQ_ret (blockQ_ret (blockQ_ret (thenQ_ret (thenQ_ret (blockQ_ret (thenQ_ret (?_))))))))))
     refine ⟨.inr rfl, .bool false, res1 rfl (rt rfl), ?_⟩
     replace hS : St F_4 (fr) h_5 := hS.perm2 [] 1 rfl rfl
     exact ⟨F_4, false, rfl, hK, hS, hL_t_Links, hM⟩
    ·
     replace hM := hM.2 (of_decide_eq_false c_6)
     refine HW.skip (blockQ_normal (thenQ_normal (?_)))
     refine HW.region ?_
     refine oM (.int .i64 k_1) rfl rfl ?_
     obtain ⟨ho_6, hM⟩ := hM
     refine oV (.int .i64 (k_1 + 1)) (q_addN _ rfl rfl rfl ho_6.1 ho_6.2) rfl ?_
     refine oA (.int .i64 (k_1 + 1)) rfl rfl ?_
     refine HO.nil (thenQ_normal (?_))
     rw [hKe_2] at hM
     exact ⟨k_1 + 1, ⟨F_4, rfl, rfl, rfl, rfl, hK, hS, hL_t_Links, hM.1⟩, hM.2⟩
   ·
    replace hM := hM.2 (of_decide_eq_false c_5)
    refine HW.exit (thenQ_exit (thenQ_exit (blockQ_exit (blockQ_normal (thenQ_normal (?_))))))
    refine HW.region ?_
    refine oM (.int .i64 i_1) rfl rfl ?_
    obtain ⟨ho_7, hM⟩ := hM
    refine oV (.int .i64 (i_1 + 1)) (q_addN _ rfl rfl rfl ho_7.1 ho_7.2) rfl ?_
    refine oA (.int .i64 (i_1 + 1)) rfl rfl ?_
    refine HO.nil (thenQ_normal (?_))
    rw [hKe_1] at hM
    exact ⟨i_1 + 1, ⟨F_4, rfl, rfl, rfl, hK, hS, hL_t_Links, hM.1⟩, hM.2⟩
 ·
  replace hM := hM.2 (of_decide_eq_false c_1)
  refine HW.exit (thenQ_exit (thenQ_exit (blockQ_exit (thenQ_normal (?_)))))
  refine HW.seq ?_
  refine HW.regionA 17 mixed (fun h => (SliceIs h 2 e_api_Branch vt_Links t_Links) ∧ (Blk h b_1 (.cells #[.int .i64 t_Root, vt_Links] 46 (0, 0)))) [] (by kernel_rfl) ?_
  refine HA.val (k := 0) (v := .pointer (some ⟨b_1, 1, none⟩)) rfl rfl (by kernel_rfl) (by kernel_rfl) (want_none) rfl (fun _ ⟨hL_t_Links, c302⟩ => q_fieldAddr fa_46_1 rfl rfl) ?_
  refine HA.val (k := 1) (v := vt_Links) rfl rfl (by kernel_rfl) (by kernel_rfl) (want_none) rfl (fun _ ⟨hL_t_Links, c302⟩ => q_load to_44 rfl (Blk.cell c302 rfl)) ?_
  refine HA.val (k := 2) (v := .int .i64 (t_Links.length : Int)) rfl rfl (by kernel_rfl) (by kernel_rfl) (want_none) rfl (fun _ ⟨hL_t_Links, c302⟩ => q_len ts_44 (shp hL_t_Links) rfl rfl) ?_
  refine HA.val (k := 3) (v := .bool (decide ((t_Links.length : Int) < 256))) rfl rfl (by kernel_rfl) (by kernel_rfl) (want_none) rfl (fun _ ⟨hL_t_Links, c302⟩ => q_lss rfl rfl) ?_
  refine HA.val (k := 4) (v := .bool (decide ((t_Links.length : Int) < 256))) rfl rfl (by kernel_rfl) (by kernel_rfl) (want_none) rfl (fun _ ⟨hL_t_Links, c302⟩ => q_move rfl) ?_
  rcases Bool.eq_false_or_eq_true (decide ((t_Links.length : Int) < 256)) with c_7 | c_7
  ·
   replace hM := hM.1 (of_decide_eq_true c_7)
   refine HA.val (k := 5) (v := .agg #[.int .i64 t_Root, vt_Links]) rfl rfl (by kernel_rfl) (by kernel_rfl) (want_by rfl rfl c_7) rfl (fun _ ⟨hL_t_Links, c302⟩ => q_loadAgg (cs := [.int .i64 t_Root, vt_Links]) ta_46 rfl rfl (Blk.cells (k := 2) c302 rfl)) ?_
   refine HA.val (k := 6) (v := .pointer (some ⟨b_1, 0, none⟩)) rfl rfl (by kernel_rfl) (by kernel_rfl) (want_by rfl rfl c_7) rfl (fun _ ⟨hL_t_Links, c302⟩ => q_fieldAddr fa_46_0 rfl rfl) ?_
   refine HA.val (k := 7) (v := .int .i64 t_Root) rfl rfl (by kernel_rfl) (by kernel_rfl) (want_by rfl rfl c_7) rfl (fun _ ⟨hL_t_Links, c302⟩ => q_load to_3 rfl (Blk.cell c302 rfl)) ?_
   refine HA.val (k := 10) (v := .pointer (some ⟨b_1, 1, none⟩)) rfl rfl (by kernel_rfl) (by kernel_rfl) (want_by rfl rfl c_7) rfl (fun _ ⟨hL_t_Links, c302⟩ => q_fieldAddr fa_46_1 rfl rfl) ?_
   refine HA.val (k := 11) (v := vt_Links) rfl rfl (by kernel_rfl) (by kernel_rfl) (want_by rfl rfl c_7) rfl (fun _ ⟨hL_t_Links, c302⟩ => q_load to_44 rfl (Blk.cell c302 rfl)) ?_
   refine HA.val (k := 12) (v := .int .i64 (t_Links.length : Int)) rfl rfl (by kernel_rfl) (by kernel_rfl) (want_by rfl rfl c_7) rfl (fun _ ⟨hL_t_Links, c302⟩ => q_len ts_44 (shp hL_t_Links) rfl rfl) ?_
   obtain ⟨ho_8, hM⟩ := hM
   refine HA.val (k := 13) (v := .int .i64 ((t_Links.length : Int) + 1)) rfl rfl (by kernel_rfl) (by kernel_rfl) (want_by rfl rfl c_7) rfl (fun _ ⟨hL_t_Links, c302⟩ => q_addN _ rfl rfl rfl ho_8.1 ho_8.2) ?_
   refine HA.one (k := 8) ⟨⟨hL_t_Links.is, (hS.box 0 rfl)⟩, (Go.Wk.at_nil _ _)⟩ (by kernel_rfl) ?_
   refine HS.call rfl (want_by rfl rfl c_7) rfl (ec en_77 rfl rfl) (ref32_Below_walk (fr := (Ow.box b_1 46 #[.int .i64 t_Root, vt_Links] :: fr)) t_Root t_Links t_Root vt_Links hS hL_t_Links hM) ?_
   rintro vr_1 h_6 ⟨F_5, r_3, _, rfl, hk, hS, _, hM⟩
   replace hK := hK.trans hk
   replace hL_t_Links := hL_t_Links.kp hk
   refine Go.Wk.HA.re (fun h => (SliceIs h 2 e_api_Branch vt_Links t_Links) ∧ (OwnIs h 0 3 1 encI vr_1 r_3) ∧ (Blk h b_1 (.cells #[.int .i64 t_Root, vt_Links] 46 (0, 0)))) [] (fun L_ h_ hL_ ⟨hL_t_Links, c351, c302⟩ hs_ => ⟨⟨hL_t_Links, c302⟩, (Go.Wk.at_nil _ _)⟩) ?_
   refine HA.val (k := 9) (v := .int .i64 (r_3.length : Int)) rfl rfl (by kernel_rfl) (by kernel_rfl) (want_by rfl rfl c_7) rfl (fun _ ⟨hL_t_Links, c351, c302⟩ => q_len ts_31 (shp c351.slice) rfl rfl) ?_
   refine HA.val (k := 14) (v := .bool (decide ((r_3.length : Int) = ((t_Links.length : Int) + 1)))) rfl rfl (by kernel_rfl) (by kernel_rfl) (want_by rfl rfl c_7) rfl (fun _ ⟨hL_t_Links, c351, c302⟩ => q_eql rfl rfl) ?_
   refine HA.val (k := 15) (v := .bool (decide ((r_3.length : Int) = ((t_Links.length : Int) + 1)))) rfl rfl (by kernel_rfl) (by kernel_rfl) (want_none) rfl (fun _ ⟨hL_t_Links, c351, c302⟩ => q_pickK true rfl c_7 rfl) ?_
   refine HA.val (k := 16) (v := .bool (decide ((r_3.length : Int) = ((t_Links.length : Int) + 1)))) rfl rfl (by kernel_rfl) (by kernel_rfl) (want_none) rfl (fun _ ⟨hL_t_Links, c351, c302⟩ => q_assign rfl) ?_
   refine HA.nil ⟨⟨hL_t_Links.is, (hS.own 0 rfl), (hS.box 1 rfl)⟩, (Go.Wk.at_nil _ _)⟩ (by kernel_rfl) (thenQ_normal (?_))
   refine HW.ret (?_)
   refine ⟨.inr rfl, .bool (decide ((r_3.length : Int) = ((t_Links.length : Int) + 1))), res1 rfl (rt rfl), ?_⟩
   replace hS : St F_5 (fr) h_6 := hS.perm2 [] 2 rfl rfl
   exact ⟨F_5, decide ((r_3.length : Int) = ((t_Links.length : Int) + 1)), rfl, hK, hS, hL_t_Links, hM⟩
  ·
   replace hM := hM.2 (of_decide_eq_false c_7)
   refine HA.past (k := 5) rfl rfl (by kernel_rfl) (by kernel_rfl) (past_by rfl rfl c_7) rfl ?_
   refine HA.past (k := 6) rfl rfl (by kernel_rfl) (by kernel_rfl) (past_by rfl rfl c_7) rfl ?_
   refine HA.past (k := 7) rfl rfl (by kernel_rfl) (by kernel_rfl) (past_by rfl rfl c_7) rfl ?_
   refine HA.past (k := 10) rfl rfl (by kernel_rfl) (by kernel_rfl) (past_by rfl rfl c_7) rfl ?_
   refine HA.past (k := 11) rfl rfl (by kernel_rfl) (by kernel_rfl) (past_by rfl rfl c_7) rfl ?_
   refine HA.past (k := 12) rfl rfl (by kernel_rfl) (by kernel_rfl) (past_by rfl rfl c_7) rfl ?_
   refine HA.past (k := 13) rfl rfl (by kernel_rfl) (by kernel_rfl) (past_by rfl rfl c_7) rfl ?_
   refine HA.one (k := 8) ⟨⟨hL_t_Links.is, (hS.box 0 rfl)⟩, (Go.Wk.at_nil _ _)⟩ (by kernel_rfl) ?_
   refine HS.past rfl (past_by rfl rfl c_7) rfl ?_
   refine HA.past (k := 9) rfl rfl (by kernel_rfl) (by kernel_rfl) (past_by rfl rfl c_7) rfl ?_
   refine HA.past (k := 14) rfl rfl (by kernel_rfl) (by kernel_rfl) (past_by rfl rfl c_7) rfl ?_
   refine HA.val (k := 15) (v := .bool false) rfl rfl (by kernel_rfl) (by kernel_rfl) (want_none) rfl (fun _ ⟨hL_t_Links, c302⟩ => q_pickK false rfl c_7 rfl) ?_
   refine HA.val (k := 16) (v := .bool false) rfl rfl (by kernel_rfl) (by kernel_rfl) (want_none) rfl (fun _ ⟨hL_t_Links, c302⟩ => q_assign rfl) ?_
   refine HA.nil ⟨⟨hL_t_Links.is, (hS.box 0 rfl)⟩, (Go.Wk.at_nil _ _)⟩ (by kernel_rfl) (thenQ_normal (?_))
   refine HW.ret (?_)
   refine ⟨.inr rfl, .bool false, res1 rfl (rt rfl), ?_⟩
   replace hS : St F_1 (fr) h_2 := hS.perm2 [] 1 rfl rfl
   exact ⟨F_1, false, rfl, hK, hS, hL_t_Links, hM⟩

def ref33_Rises_l1 (l : List Int) (Q : Bool → Prop) (K_1 : Int → Prop) (i_1 : Int) : Prop :=
 (i_1 < (l.length : Int) → (I64 (i_1 - 1)) ∧ (((0 : Int) ≤ i_1 - 1 ∧ i_1 - 1 < (l.length : Int)) ∧ (((0 : Int) ≤ i_1 ∧ i_1 < (l.length : Int)) ∧ (((gi l i_1) ≤ (gi l (i_1 - 1)) → Q false) ∧ (¬ ((gi l i_1) ≤ (gi l (i_1 - 1))) → (I64 (i_1 + 1)) ∧ (K_1 (i_1 + 1))))))) ∧ (¬ (i_1 < (l.length : Int)) → Q true)
def ref33_Rises_W (l : List Int) (Q : Bool → Prop) : Prop :=
 loopW (fun (K_1 : Int → Prop) (s : Int) => ref33_Rises_l1 l Q K_1 s) 1
set_option maxHeartbeats 40000000 in
set_option maxRecDepth 100000 in
theorem ref33_Rises_walk {F : Fz} {fr : List Ow} {h0 : Heap} (l : List Int) (vl : Value) (hS : St F (fr) h0) (hL_l : SliceF F h0 1 encI vl l) {Q : Bool → Prop} (hM : ref33_Rises_W l Q) :
  HC Try.prog 53 #[vl] h0 fun u h' => ∃ (F' : Fz) (r_1 : Bool), u = .bool r_1 ∧ Kp F h0 F' h' ∧ St F' (fr) h' ∧ (SliceF F' h' 1 encI vl l) ∧ Q r_1 := by
 unfold ref33_Rises_W at hM
 have hK := Kp.refl F h0
 refine HC.of_HW (n := 20) Try.func53 rfl rfl (Nat.le_of_ble_eq_true rfl) ?_
 refine HW.seq ?_
 refine HW.region ?_
 refine oA (.bool false) rfl rfl ?_
 refine HO.nil (thenQ_normal (?_))
 refine HW.seq ?_
 refine HW.seq ?_
 refine HW.region ?_
 refine oA (.int .i64 1) rfl rfl ?_
 refine HO.nil (thenQ_normal (?_))
 refine HW.block ?_
 obtain ⟨I_1, m_1, hI_1, hR_1⟩ := hM
 refine HW.loop (S := Int) (fun i_1 f h => ∃ (F' : Fz), f 0 = vl ∧ f 2 = .bool false ∧ f 3 = .int .i64 i_1 ∧ Kp F h0 F' h ∧ St F' (fr) h ∧ (SliceF F' h 1 encI vl l) ∧ I_1 i_1) m_1 1 ⟨F, rfl, rfl, rfl, hK, hS, hL_l, hI_1⟩ ?_
 rintro i_1 f_1 h_1 ⟨F_1, e0, e2, e3, hK, hS, hL_l, hI0⟩
 obtain ⟨K_1, hKe_1⟩ : ∃ K : Int → Prop, K = fun i_1' => I_1 i_1' ∧ m_1 i_1' < m_1 i_1 := ⟨_, rfl⟩
 have hM : ref33_Rises_l1 l Q K_1 i_1 := by rw [hKe_1]; exact hR_1 i_1 hI0
 unfold ref33_Rises_l1 at hM
 refine HW.fr [(0, vl), (2, .bool false), (3, .int .i64 i_1)] ⟨e0, e2, e3, trivial⟩ ?_
 refine HW.seq ?_
 refine HW.seq ?_
 refine HW.region ?_
 refine oM (.int .i64 i_1) rfl rfl ?_
 refine oM (vl) rfl rfl ?_
 refine oV (.int .i64 (l.length : Int)) (q_len ts_31 (shp hL_l.is) rfl rfl) rfl ?_
 refine oV (.bool (decide (i_1 < (l.length : Int)))) (q_lss rfl rfl) rfl ?_
 refine HO.nil (thenQ_normal (?_))
 refine HW.cond (decide (i_1 < (l.length : Int))) rfl (fun c_1 => ?_) (fun c_1 => ?_)
 ·
  replace hM := hM.1 (of_decide_eq_true c_1)
  refine HW.skip (thenQ_normal (?_))
  refine HW.seq ?_
  refine HW.block ?_
  refine HW.seq ?_
  refine HW.regionA 10 mixed (fun h => (SliceIs h 1 encI vl l)) [] (by kernel_rfl) ?_
  refine HA.val (k := 0) (v := vl) rfl rfl (by kernel_rfl) (by kernel_rfl) (want_none) rfl (fun _ hL_l => q_move rfl) ?_
  refine HA.val (k := 1) (v := .int .i64 i_1) rfl rfl (by kernel_rfl) (by kernel_rfl) (want_none) rfl (fun _ hL_l => q_move rfl) ?_
  obtain ⟨ho_1, hM⟩ := hM
  refine HA.val (k := 2) (v := .int .i64 (i_1 - 1)) rfl rfl (by kernel_rfl) (by kernel_rfl) (want_none) rfl (fun _ hL_l => q_subN _ rfl rfl rfl ho_1.1 ho_1.2) ?_
  obtain ⟨ho_2, hM⟩ := hM
  refine HA.val (k := 3) (v := elemPtr 1 vl (i_1 - 1).toNat) rfl rfl (by kernel_rfl) (by kernel_rfl) (want_none) rfl (fun _ hL_l => q_idx ts_31 hL_l rfl rfl ho_2) ?_
  refine HA.val (k := 4) (v := .int .i64 (gi l (i_1 - 1))) rfl rfl (by kernel_rfl) (by kernel_rfl) (want_none) rfl (fun _ hL_l => q_ldElem to_3 hL_l rfl ho_2 rfl) ?_
  refine HA.val (k := 5) (v := vl) rfl rfl (by kernel_rfl) (by kernel_rfl) (want_none) rfl (fun _ hL_l => q_move rfl) ?_
  refine HA.val (k := 6) (v := .int .i64 i_1) rfl rfl (by kernel_rfl) (by kernel_rfl) (want_none) rfl (fun _ hL_l => q_move rfl) ?_
  obtain ⟨ho_3, hM⟩ := hM
  refine HA.val (k := 7) (v := elemPtr 1 vl (i_1).toNat) rfl rfl (by kernel_rfl) (by kernel_rfl) (want_none) rfl (fun _ hL_l => q_idx ts_31 hL_l rfl rfl ho_3) ?_
  refine HA.val (k := 8) (v := .int .i64 (gi l i_1)) rfl rfl (by kernel_rfl) (by kernel_rfl) (want_none) rfl (fun _ hL_l => q_ldElem to_3 hL_l rfl ho_3 rfl) ?_
  refine HA.val (k := 9) (v := .bool (decide ((gi l i_1) ≤ (gi l (i_1 - 1))))) rfl rfl (by kernel_rfl) (by kernel_rfl) (want_none) rfl (fun _ hL_l => q_geq rfl rfl) ?_
  refine HA.nil ⟨hL_l.is, (Go.Wk.at_nil _ _)⟩ (by kernel_rfl) (thenQ_normal (?_))
  refine HW.cond (decide ((gi l i_1) ≤ (gi l (i_1 - 1)))) rfl (fun c_2 => ?_) (fun c_2 => ?_)
  ·
   replace hM := hM.1 (of_decide_eq_true c_2)
   refine HW.seq ?_
   refine HW.region ?_
   refine oA (.bool false) rfl rfl ?_
   refine HO.nil (thenQ_normal (?_))
   refine HW.ret (blockQ_ret (thenQ_ret (thenQ_ret (blockQ_ret (thenQ_ret (?_))))))
   refine ⟨.inr rfl, .bool false, res1 rfl (rt rfl), ?_⟩
   exact ⟨F_1, false, rfl, hK, hS, hL_l, hM⟩
  ·
   replace hM := hM.2 (of_decide_eq_false c_2)
   refine HW.skip (blockQ_normal (thenQ_normal (?_)))
   refine HW.region ?_
   refine oM (.int .i64 i_1) rfl rfl ?_
   obtain ⟨ho_4, hM⟩ := hM
   refine oV (.int .i64 (i_1 + 1)) (q_addN _ rfl rfl rfl ho_4.1 ho_4.2) rfl ?_
   refine oA (.int .i64 (i_1 + 1)) rfl rfl ?_
   refine HO.nil (thenQ_normal (?_))
   rw [hKe_1] at hM
   exact ⟨i_1 + 1, ⟨F_1, rfl, rfl, rfl, hK, hS, hL_l, hM.1⟩, hM.2⟩
 ·
  replace hM := hM.2 (of_decide_eq_false c_1)
  refine HW.exit (thenQ_exit (thenQ_exit (blockQ_exit (thenQ_normal (?_)))))
  refine HW.seq ?_
  refine HW.region ?_
  refine oA (.bool true) rfl rfl ?_
  refine HO.nil (thenQ_normal (?_))
  refine HW.ret (?_)
  refine ⟨.inr rfl, .bool true, res1 rfl (rt rfl), ?_⟩
  exact ⟨F_1, true, rfl, hK, hS, hL_l, hM⟩

def ref32_Nodes_W (t_Root : Int) (t_Links : List T_api_Branch) (Q : (List Int) → Prop) : Prop :=
 ref32_Below_W t_Root t_Links t_Root (fun r_2 => Q r_2)
set_option maxHeartbeats 40000000 in
set_option maxRecDepth 100000 in
theorem ref32_Nodes_walk {F : Fz} {fr : List Ow} {h0 : Heap} (t_Root : Int) (t_Links : List T_api_Branch) (vt_Links : Value) (hS : St F (fr) h0) (hL_t_Links : SliceF F h0 2 e_api_Branch vt_Links t_Links) {Q : (List Int) → Prop} (hM : ref32_Nodes_W t_Root t_Links Q) :
  HC Try.prog 56 #[.agg #[.int .i64 t_Root, vt_Links]] h0 fun u h' => ∃ (F' : Fz) (r_1 : List Int) (vr_1 : Value), u = vr_1 ∧ Kp F h0 F' h' ∧ St F' (Ow.own 3 1 encI vr_1 r_1 :: fr) h' ∧ (SliceF F' h' 2 e_api_Branch vt_Links t_Links) ∧ Q r_1 := by
 unfold ref32_Nodes_W at hM
 have hK := Kp.refl F h0
 refine HC.of_HW (n := 7) Try.func56 rfl rfl (Nat.le_of_ble_eq_true rfl) ?_
 refine HW.seq ?_
 refine HW.region ?_
 refine HO.eff (want_none) rfl (st_box (c := #[.int .i64 t_Root, vt_Links]) (k' := 2) hS rfl rfl) ?_
 rintro _ h_1 ⟨b_1, rfl, hS, hk⟩
 replace hK := hK.trans hk
 replace hL_t_Links := hL_t_Links.kp hk
 refine oA (.slice none 0 0) rfl rfl ?_
 refine HO.nil (thenQ_normal (?_))
 refine HW.seq ?_
 refine HW.region ?_
 refine oV (.agg #[.int .i64 t_Root, vt_Links]) (q_loadAgg (cs := [.int .i64 t_Root, vt_Links]) ta_46 rfl rfl (Blk.cells (k := 2) (hS.box 0 rfl) rfl)) rfl ?_
 refine oV (.pointer (some ⟨b_1, 0, none⟩)) (q_fieldAddr fa_46_0 rfl rfl) rfl ?_
 refine oV (.int .i64 t_Root) (q_load to_3 rfl (Blk.cell (hS.box 0 rfl) rfl)) rfl ?_
 refine HO.call (want_none) rfl (ec en_77 rfl rfl) (ref32_Below_walk (fr := (Ow.box b_1 46 #[.int .i64 t_Root, vt_Links] :: fr)) t_Root t_Links t_Root vt_Links hS hL_t_Links hM) ?_
 rintro vr_2 h_2 ⟨F_1, r_2, _, rfl, hk, hS, _, hM⟩
 replace hK := hK.trans hk
 replace hL_t_Links := hL_t_Links.kp hk
 refine oA (vr_2) rfl rfl ?_
 refine HO.nil (thenQ_normal (?_))
 refine HW.ret (?_)
 refine ⟨.inr rfl, vr_2, res1 rfl (rt rfl), ?_⟩
 replace hS : St F_1 (Ow.own 3 1 encI vr_2 r_2 :: fr) h_2 := hS.perm2 [0] 2 rfl rfl
 exact ⟨F_1, r_2, vr_2, rfl, hK, hS, hL_t_Links, hM⟩
end Go.Wk
