/- Walks of RoutePlays. -/
import Derived.Test.YtolmcabcmphkpaaSoiW2
set_option linter.unusedSimpArgs false
set_option linter.unusedVariables false
set_option linter.unusedSectionVars false
namespace Go.Wk
open Go.HL
open Go.Proofs hiding encI
variable [DM]
abbrev T_api_Tune := Int × Int × Int × Int × Int
abbrev T_acequiaref23_One := Int × Bool
abbrev T_acequiaref23_Act := Int × Int × Int × Bool
def e_api_Tune (x : T_api_Tune) : List Value := [.int .i64 x.1, .int .i64 x.2.1, .int .i64 x.2.2.1, .int .i64 x.2.2.2.1, .int .i64 x.2.2.2.2]
def e_acequiaref23_One (x : T_acequiaref23_One) : List Value := [.int .i64 x.1, .bool x.2]
def e_acequiaref23_Act (x : T_acequiaref23_Act) : List Value := [.int .i64 x.1, .int .i64 x.2.1, .int .i64 x.2.2.1, .bool x.2.2.2]
theorem one_e_api_Tune (x : T_api_Tune) : ∀ v ∈ e_api_Tune x, v.oneCell' = true := by intro v hv; simp [e_api_Tune] at hv; rcases hv with rfl | rfl | rfl | rfl | rfl <;> rfl
theorem fa_50_0 : FieldAt Try.prog 50 0 0 := fun a w => by kernel_rfl
theorem fa_50_4 : FieldAt Try.prog 50 4 4 := fun a w => by kernel_rfl
theorem fa_50_1 : FieldAt Try.prog 50 1 1 := fun a w => by kernel_rfl
theorem fa_50_2 : FieldAt Try.prog 50 2 2 := fun a w => by kernel_rfl
theorem fa_50_3 : FieldAt Try.prog 50 3 3 := fun a w => by kernel_rfl
theorem tp_106 : TPlaces Try.prog 106 #[(0, 1)] #[.map none] := tplaces Try.runUnderlying106 Try.zeroValue106 rfl (fun w => by kernel_rfl)
theorem en_53 (args : Array Value) (w : World) : (callFunc 53 args).run Try.prog w = .ok (.enter 53 args) w := by kernel_rfl
theorem tz_4 : TZero Try.prog 4 (.bool false) := Try.zeroValue4
theorem te_92 : TElem Try.prog 92 4 1 1 := ⟨Try.underlying92, ⟨Try.t4, .bool false, by kernel_rfl, by kernel_rfl, by kernel_rfl, by kernel_rfl, by kernel_rfl⟩, by decide⟩
theorem tp_94 : TPlaces Try.prog 94 #[(0, 1), (1, 1), (2, 1)] #[.int .i64 0, .pointer none, .slice none 0 0] := tplaces Try.runUnderlying94 Try.zeroValue94 rfl (fun w => by kernel_rfl)
theorem fa_94_2 : FieldAt Try.prog 94 2 2 := fun a w => by kernel_rfl
theorem to_92 : TOne Try.prog 92 := ⟨Try.isAgg92, Try.sizeOf92⟩
theorem ts_92 : TSlice Try.prog 92 4 1 := ⟨Try.underlying92, Try.sizeOf4⟩
theorem tz_50 : TZero Try.prog 50 (.agg (e_api_Tune (0, 0, 0, 0, 0)).toArray) := Try.zeroValue50
theorem tp_50 : TPlaces Try.prog 50 #[(0, 1), (1, 1), (2, 1), (3, 1), (4, 1)] #[.int .i64 0, .int .i64 0, .int .i64 0, .int .i64 0, .int .i64 0] := tplaces Try.runUnderlying50 Try.zeroValue50 rfl (fun w => by kernel_rfl)
theorem ta_50 : TAgg Try.prog 50 5 := ⟨Try.isAgg50, Try.sizeOf50⟩
theorem en_75 (args : Array Value) (w : World) : (callFunc 75 args).run Try.prog w = .ok (.enter 75 args) w := by kernel_rfl
theorem fa_106_0 : FieldAt Try.prog 106 0 0 := fun a w => by kernel_rfl
theorem to_104 : TOne Try.prog 104 := ⟨Try.isAgg104, Try.sizeOf104⟩
theorem tmk_104 : TMapK Try.prog 104 3 3 (.int .i64 0) := ⟨Try.underlying104, tz_3⟩
theorem ka_3 : KeyAt Try.prog 3 kI := keyAt_of keyOk_int Try.underlying3
theorem en_66 (args : Array Value) (w : World) : (callFunc 66 args).run Try.prog w = .ok (.enter 66 args) w := by kernel_rfl
theorem tl_68 : TLit Try.prog 68 3 1 #[.int .i64 0] := tlit ts_68 tz_3 rfl
theorem en_65 (args : Array Value) (w : World) : (callFunc 65 args).run Try.prog w = .ok (.enter 65 args) w := by kernel_rfl
theorem te_68 : TElem Try.prog 68 3 1 8 := ⟨Try.underlying68, ⟨Try.t3, .int .i64 0, by kernel_rfl, by kernel_rfl, by kernel_rfl, by kernel_rfl, by kernel_rfl⟩, by decide⟩
theorem en_72 (args : Array Value) (w : World) : (callFunc 72 args).run Try.prog w = .ok (.enter 72 args) w := by kernel_rfl
theorem en_99 (args : Array Value) (w : World) : (callFunc 99 args).run Try.prog w = .ok (.enter 99 args) w := by kernel_rfl
theorem en_79 (args : Array Value) (w : World) : (callFunc 79 args).run Try.prog w = .ok (.enter 79 args) w := by kernel_rfl
theorem fa_94_0 : FieldAt Try.prog 94 0 0 := fun a w => by kernel_rfl
theorem fa_94_1 : FieldAt Try.prog 94 1 1 := fun a w => by kernel_rfl
theorem to_90 : TOne Try.prog 90 := ⟨Try.isAgg90, Try.sizeOf90⟩
theorem en_71 (args : Array Value) (w : World) : (callFunc 71 args).run Try.prog w = .ok (.enter 71 args) w := by kernel_rfl
theorem en_55 (args : Array Value) (w : World) : (callFunc 55 args).run Try.prog w = .ok (.enter 55 args) w := by kernel_rfl
theorem en_56 (args : Array Value) (w : World) : (callFunc 56 args).run Try.prog w = .ok (.enter 56 args) w := by kernel_rfl
theorem en_57 (args : Array Value) (w : World) : (callFunc 57 args).run Try.prog w = .ok (.enter 57 args) w := by kernel_rfl
theorem en_59 (args : Array Value) (w : World) : (callFunc 59 args).run Try.prog w = .ok (.enter 59 args) w := by kernel_rfl
theorem en_58 (args : Array Value) (w : World) : (callFunc 58 args).run Try.prog w = .ok (.enter 58 args) w := by kernel_rfl
theorem to_4 : TOne Try.prog 4 := ⟨Try.isAgg4, Try.sizeOf4⟩
theorem en_63 (args : Array Value) (w : World) : (callFunc 63 args).run Try.prog w = .ok (.enter 63 args) w := by kernel_rfl
theorem en_28 (args : Array Value) (w : World) : (callFunc 28 args).run Try.prog w = .ok (.enter 28 args) w := by kernel_rfl
theorem en_30 (args : Array Value) (w : World) : (callFunc 30 args).run Try.prog w = .ok (.enter 30 args) w := by kernel_rfl
theorem en_52 (args : Array Value) (w : World) : (callFunc 52 args).run Try.prog w = .ok (.enter 52 args) w := by kernel_rfl
theorem en_31 (args : Array Value) (w : World) : (callFunc 31 args).run Try.prog w = .ok (.enter 31 args) w := by kernel_rfl
theorem en_41 (args : Array Value) (w : World) : (callFunc 41 args).run Try.prog w = .ok (.enter 41 args) w := by kernel_rfl
theorem en_54 (args : Array Value) (w : World) : (callFunc 54 args).run Try.prog w = .ok (.enter 54 args) w := by kernel_rfl
theorem tz_98 : TZero Try.prog 98 (.agg #[.int .i64 0, .bool false]) := Try.zeroValue98
theorem te_57 : TElem Try.prog 57 98 2 16 := ⟨Try.underlying57, ⟨Try.t98, .agg #[.int .i64 0, .bool false], by kernel_rfl, by kernel_rfl, by kernel_rfl, by kernel_rfl, by kernel_rfl⟩, by decide⟩
theorem tp_59 : TPlaces Try.prog 59 #[(0, 1), (1, 1)] #[.int .i64 0, .slice none 0 0] := tplaces Try.runUnderlying59 Try.zeroValue59 rfl (fun w => by kernel_rfl)
theorem fa_59_1 : FieldAt Try.prog 59 1 1 := fun a w => by kernel_rfl
theorem to_57 : TOne Try.prog 57 := ⟨Try.isAgg57, Try.sizeOf57⟩
theorem ts_57 : TSlice Try.prog 57 98 2 := ⟨Try.underlying57, Try.sizeOf98⟩
theorem fa_59_0 : FieldAt Try.prog 59 0 0 := fun a w => by kernel_rfl
theorem en_60 (args : Array Value) (w : World) : (callFunc 60 args).run Try.prog w = .ok (.enter 60 args) w := by kernel_rfl
theorem en_35 (args : Array Value) (w : World) : (callFunc 35 args).run Try.prog w = .ok (.enter 35 args) w := by kernel_rfl
theorem en_61 (args : Array Value) (w : World) : (callFunc 61 args).run Try.prog w = .ok (.enter 61 args) w := by kernel_rfl
theorem fa_98_0 : FieldAt Try.prog 98 0 0 := fun a w => by kernel_rfl
theorem fa_98_1 : FieldAt Try.prog 98 1 1 := fun a w => by kernel_rfl
theorem en_62 (args : Array Value) (w : World) : (callFunc 62 args).run Try.prog w = .ok (.enter 62 args) w := by kernel_rfl
theorem en_44 (args : Array Value) (w : World) : (callFunc 44 args).run Try.prog w = .ok (.enter 44 args) w := by kernel_rfl
theorem en_42 (args : Array Value) (w : World) : (callFunc 42 args).run Try.prog w = .ok (.enter 42 args) w := by kernel_rfl
theorem en_26 (args : Array Value) (w : World) : (callFunc 26 args).run Try.prog w = .ok (.enter 26 args) w := by kernel_rfl
theorem en_27 (args : Array Value) (w : World) : (callFunc 27 args).run Try.prog w = .ok (.enter 27 args) w := by kernel_rfl
theorem en_29 (args : Array Value) (w : World) : (callFunc 29 args).run Try.prog w = .ok (.enter 29 args) w := by kernel_rfl
theorem ts_51 : TSlice Try.prog 51 61 4 := ⟨Try.underlying51, Try.sizeOf61⟩
theorem ta_61 : TAgg Try.prog 61 4 := ⟨Try.isAgg61, Try.sizeOf61⟩
theorem tz_61 : TZero Try.prog 61 (.agg #[.int .i64 0, .int .i64 0, .int .i64 0, .bool false]) := Try.zeroValue61
theorem fa_61_1 : FieldAt Try.prog 61 1 1 := fun a w => by kernel_rfl
theorem fa_61_0 : FieldAt Try.prog 61 0 0 := fun a w => by kernel_rfl
theorem fa_61_2 : FieldAt Try.prog 61 2 2 := fun a w => by kernel_rfl
theorem en_32 (args : Array Value) (w : World) : (callFunc 32 args).run Try.prog w = .ok (.enter 32 args) w := by kernel_rfl
theorem fa_61_3 : FieldAt Try.prog 61 3 3 := fun a w => by kernel_rfl
theorem en_33 (args : Array Value) (w : World) : (callFunc 33 args).run Try.prog w = .ok (.enter 33 args) w := by kernel_rfl
theorem en_34 (args : Array Value) (w : World) : (callFunc 34 args).run Try.prog w = .ok (.enter 34 args) w := by kernel_rfl
theorem en_36 (args : Array Value) (w : World) : (callFunc 36 args).run Try.prog w = .ok (.enter 36 args) w := by kernel_rfl
theorem en_37 (args : Array Value) (w : World) : (callFunc 37 args).run Try.prog w = .ok (.enter 37 args) w := by kernel_rfl
theorem en_39 (args : Array Value) (w : World) : (callFunc 39 args).run Try.prog w = .ok (.enter 39 args) w := by kernel_rfl
theorem en_40 (args : Array Value) (w : World) : (callFunc 40 args).run Try.prog w = .ok (.enter 40 args) w := by kernel_rfl
theorem en_38 (args : Array Value) (w : World) : (callFunc 38 args).run Try.prog w = .ok (.enter 38 args) w := by kernel_rfl
theorem en_43 (args : Array Value) (w : World) : (callFunc 43 args).run Try.prog w = .ok (.enter 43 args) w := by kernel_rfl
def ref14_Good_j1 (t : T_api_Tune) (Q : Bool → Prop) (b_2 : Bool) : Prop :=
  (b_2 = true → Q false) ∧ (b_2 = false → (0 < t.2.2.1 → (t.2.2.1 < 31745 → (0 < t.2.2.2.1 → (t.2.2.2.1 < 31745 → Q (decide (t.2.2.1 ≤ t.2.1))) ∧ (¬ (t.2.2.2.1 < 31745) → Q false)) ∧ (¬ (0 < t.2.2.2.1) → Q false)) ∧ (¬ (t.2.2.1 < 31745) → Q false)) ∧ (¬ (0 < t.2.2.1) → Q false))
def ref14_Good_W (t : T_api_Tune) (Q : Bool → Prop) : Prop :=
  (t.1 < 1 → ref14_Good_j1 t Q true) ∧ (¬ (t.1 < 1) → (7 < t.1 → ref14_Good_j1 t Q true) ∧ (¬ (7 < t.1) → (t.2.2.2.2 < 1 → ref14_Good_j1 t Q true) ∧ (¬ (t.2.2.2.2 < 1) → (7 < t.2.2.2.2 → ref14_Good_j1 t Q true) ∧ (¬ (7 < t.2.2.2.2) → (t.2.1 < 1 → ref14_Good_j1 t Q true) ∧ (¬ (t.2.1 < 1) → ref14_Good_j1 t Q (decide (317440 < t.2.1)))))))
set_option maxHeartbeats 40000000 in
set_option maxRecDepth 100000 in
theorem ref14_Good_walk {F : Fz} {fr : List Ow} {h0 : Heap} (t : T_api_Tune) (hS : St F (fr) h0)  {Q : Bool → Prop} (hM : ref14_Good_W t Q) :
    HC Try.prog 26 #[.agg (e_api_Tune t).toArray] h0 fun u h' => ∃ (F' : Fz) (r_1 : Bool), u = .bool r_1 ∧ Kp F h0 F' h' ∧ St F' (fr) h' ∧ Q r_1 := by
  unfold ref14_Good_W at hM
  have hK := Kp.refl F h0
  refine HC.of_HW (n := 56) Try.func26 rfl rfl (Nat.le_of_ble_eq_true rfl) ?_
  refine HW.seq ?_
  refine HW.region ?_
  refine HO.eff (want_none) rfl (st_box (c := (e_api_Tune t).toArray) (k' := 5) hS rfl rfl) ?_
  rintro _ h_1 ⟨b_1, rfl, hS, hk⟩
  replace hK := hK.trans hk
  refine HO.val (v := .bool false) (want_none) rfl (q_assign rfl) ?_
  refine HO.nil (thenQ_normal (?_))
  refine HW.seq ?_
  refine HW.seq_mid (fun f h => ∃ (F' : Fz) (b_2 : Bool), f 1 = .pointer (some ⟨b_1, 0, none⟩) ∧ f 2 = .bool false ∧ f 30 = .bool b_2 ∧ Kp F h0 F' h ∧ St F' (Ow.box b_1 50 (e_api_Tune t).toArray :: fr) h ∧ ref14_Good_j1 t Q b_2) ?_ ?_
  · refine HW.region ?_
    refine HO.val (v := .pointer (some ⟨b_1, 0, none⟩)) (want_none) rfl (q_fieldAddr fa_50_0 rfl rfl) ?_
    refine HO.val (v := .int .i64 t.1) (want_none) rfl (q_load to_3 rfl (Blk.cell (hS.box 0 rfl) rfl)) ?_
    refine HO.val (v := .bool (decide (t.1 < 1))) (want_none) rfl (q_lss rfl rfl) ?_
    refine HO.val (v := .bool (decide (t.1 < 1))) (want_none) rfl (q_move rfl) ?_
    rcases Bool.eq_false_or_eq_true (decide (t.1 < 1)) with c_1 | c_1
    · replace hM := hM.1 (of_decide_eq_true c_1)
      refine HO.past (past_by rfl rfl c_1) rfl ?_
      refine HO.past (past_by rfl rfl c_1) rfl ?_
      refine HO.past (past_by rfl rfl c_1) rfl ?_
      refine HO.val (v := .bool true) (want_none) rfl (q_pickK true rfl c_1 rfl) ?_
      refine HO.val (v := .bool true) (want_none) rfl (q_move rfl) ?_
      refine HO.past (past_some rfl rfl) rfl ?_
      refine HO.past (past_some rfl rfl) rfl ?_
      refine HO.past (past_some rfl rfl) rfl ?_
      refine HO.val (v := .bool true) (want_none) rfl (q_pick rfl rfl) ?_
      refine HO.val (v := .bool true) (want_none) rfl (q_move rfl) ?_
      refine HO.past (past_some rfl rfl) rfl ?_
      refine HO.past (past_some rfl rfl) rfl ?_
      refine HO.past (past_some rfl rfl) rfl ?_
      refine HO.val (v := .bool true) (want_none) rfl (q_pick rfl rfl) ?_
      refine HO.val (v := .bool true) (want_none) rfl (q_move rfl) ?_
      refine HO.past (past_some rfl rfl) rfl ?_
      refine HO.past (past_some rfl rfl) rfl ?_
      refine HO.past (past_some rfl rfl) rfl ?_
      refine HO.val (v := .bool true) (want_none) rfl (q_pick rfl rfl) ?_
      refine HO.val (v := .bool true) (want_none) rfl (q_move rfl) ?_
      refine HO.past (past_some rfl rfl) rfl ?_
      refine HO.past (past_some rfl rfl) rfl ?_
      refine HO.past (past_some rfl rfl) rfl ?_
      refine HO.val (v := .bool true) (want_none) rfl (q_pick rfl rfl) ?_
      refine HO.nil (thenQ_normal (?_))
      exact ⟨F, true, rfl, rfl, rfl, hK, hS, hM⟩
    · replace hM := hM.2 (of_decide_eq_false c_1)
      refine HO.val (v := .pointer (some ⟨b_1, 0, none⟩)) (want_by rfl rfl c_1) rfl (q_fieldAddr fa_50_0 rfl rfl) ?_
      refine HO.val (v := .int .i64 t.1) (want_by rfl rfl c_1) rfl (q_load to_3 rfl (Blk.cell (hS.box 0 rfl) rfl)) ?_
      refine HO.val (v := .bool (decide (7 < t.1))) (want_by rfl rfl c_1) rfl (q_gtr rfl rfl) ?_
      refine HO.val (v := .bool (decide (7 < t.1))) (want_none) rfl (q_pickK false rfl c_1 rfl) ?_
      refine HO.val (v := .bool (decide (7 < t.1))) (want_none) rfl (q_move rfl) ?_
      rcases Bool.eq_false_or_eq_true (decide (7 < t.1)) with c_2 | c_2
      · replace hM := hM.1 (of_decide_eq_true c_2)
        refine HO.past (past_by rfl rfl c_2) rfl ?_
        refine HO.past (past_by rfl rfl c_2) rfl ?_
        refine HO.past (past_by rfl rfl c_2) rfl ?_
        refine HO.val (v := .bool true) (want_none) rfl (q_pickK true rfl c_2 rfl) ?_
        refine HO.val (v := .bool true) (want_none) rfl (q_move rfl) ?_
        refine HO.past (past_some rfl rfl) rfl ?_
        refine HO.past (past_some rfl rfl) rfl ?_
        refine HO.past (past_some rfl rfl) rfl ?_
        refine HO.val (v := .bool true) (want_none) rfl (q_pick rfl rfl) ?_
        refine HO.val (v := .bool true) (want_none) rfl (q_move rfl) ?_
        refine HO.past (past_some rfl rfl) rfl ?_
        refine HO.past (past_some rfl rfl) rfl ?_
        refine HO.past (past_some rfl rfl) rfl ?_
        refine HO.val (v := .bool true) (want_none) rfl (q_pick rfl rfl) ?_
        refine HO.val (v := .bool true) (want_none) rfl (q_move rfl) ?_
        refine HO.past (past_some rfl rfl) rfl ?_
        refine HO.past (past_some rfl rfl) rfl ?_
        refine HO.past (past_some rfl rfl) rfl ?_
        refine HO.val (v := .bool true) (want_none) rfl (q_pick rfl rfl) ?_
        refine HO.nil (thenQ_normal (?_))
        exact ⟨F, true, rfl, rfl, rfl, hK, hS, hM⟩
      · replace hM := hM.2 (of_decide_eq_false c_2)
        refine HO.val (v := .pointer (some ⟨b_1, 4, none⟩)) (want_by rfl rfl c_2) rfl (q_fieldAddr fa_50_4 rfl rfl) ?_
        refine HO.val (v := .int .i64 t.2.2.2.2) (want_by rfl rfl c_2) rfl (q_load to_3 rfl (Blk.cell (hS.box 0 rfl) rfl)) ?_
        refine HO.val (v := .bool (decide (t.2.2.2.2 < 1))) (want_by rfl rfl c_2) rfl (q_lss rfl rfl) ?_
        refine HO.val (v := .bool (decide (t.2.2.2.2 < 1))) (want_none) rfl (q_pickK false rfl c_2 rfl) ?_
        refine HO.val (v := .bool (decide (t.2.2.2.2 < 1))) (want_none) rfl (q_move rfl) ?_
        rcases Bool.eq_false_or_eq_true (decide (t.2.2.2.2 < 1)) with c_3 | c_3
        · replace hM := hM.1 (of_decide_eq_true c_3)
          refine HO.past (past_by rfl rfl c_3) rfl ?_
          refine HO.past (past_by rfl rfl c_3) rfl ?_
          refine HO.past (past_by rfl rfl c_3) rfl ?_
          refine HO.val (v := .bool true) (want_none) rfl (q_pickK true rfl c_3 rfl) ?_
          refine HO.val (v := .bool true) (want_none) rfl (q_move rfl) ?_
          refine HO.past (past_some rfl rfl) rfl ?_
          refine HO.past (past_some rfl rfl) rfl ?_
          refine HO.past (past_some rfl rfl) rfl ?_
          refine HO.val (v := .bool true) (want_none) rfl (q_pick rfl rfl) ?_
          refine HO.val (v := .bool true) (want_none) rfl (q_move rfl) ?_
          refine HO.past (past_some rfl rfl) rfl ?_
          refine HO.past (past_some rfl rfl) rfl ?_
          refine HO.past (past_some rfl rfl) rfl ?_
          refine HO.val (v := .bool true) (want_none) rfl (q_pick rfl rfl) ?_
          refine HO.nil (thenQ_normal (?_))
          exact ⟨F, true, rfl, rfl, rfl, hK, hS, hM⟩
        · replace hM := hM.2 (of_decide_eq_false c_3)
          refine HO.val (v := .pointer (some ⟨b_1, 4, none⟩)) (want_by rfl rfl c_3) rfl (q_fieldAddr fa_50_4 rfl rfl) ?_
          refine HO.val (v := .int .i64 t.2.2.2.2) (want_by rfl rfl c_3) rfl (q_load to_3 rfl (Blk.cell (hS.box 0 rfl) rfl)) ?_
          refine HO.val (v := .bool (decide (7 < t.2.2.2.2))) (want_by rfl rfl c_3) rfl (q_gtr rfl rfl) ?_
          refine HO.val (v := .bool (decide (7 < t.2.2.2.2))) (want_none) rfl (q_pickK false rfl c_3 rfl) ?_
          refine HO.val (v := .bool (decide (7 < t.2.2.2.2))) (want_none) rfl (q_move rfl) ?_
          rcases Bool.eq_false_or_eq_true (decide (7 < t.2.2.2.2)) with c_4 | c_4
          · replace hM := hM.1 (of_decide_eq_true c_4)
            refine HO.past (past_by rfl rfl c_4) rfl ?_
            refine HO.past (past_by rfl rfl c_4) rfl ?_
            refine HO.past (past_by rfl rfl c_4) rfl ?_
            refine HO.val (v := .bool true) (want_none) rfl (q_pickK true rfl c_4 rfl) ?_
            refine HO.val (v := .bool true) (want_none) rfl (q_move rfl) ?_
            refine HO.past (past_some rfl rfl) rfl ?_
            refine HO.past (past_some rfl rfl) rfl ?_
            refine HO.past (past_some rfl rfl) rfl ?_
            refine HO.val (v := .bool true) (want_none) rfl (q_pick rfl rfl) ?_
            refine HO.nil (thenQ_normal (?_))
            exact ⟨F, true, rfl, rfl, rfl, hK, hS, hM⟩
          · replace hM := hM.2 (of_decide_eq_false c_4)
            refine HO.val (v := .pointer (some ⟨b_1, 1, none⟩)) (want_by rfl rfl c_4) rfl (q_fieldAddr fa_50_1 rfl rfl) ?_
            refine HO.val (v := .int .i64 t.2.1) (want_by rfl rfl c_4) rfl (q_load to_3 rfl (Blk.cell (hS.box 0 rfl) rfl)) ?_
            refine HO.val (v := .bool (decide (t.2.1 < 1))) (want_by rfl rfl c_4) rfl (q_lss rfl rfl) ?_
            refine HO.val (v := .bool (decide (t.2.1 < 1))) (want_none) rfl (q_pickK false rfl c_4 rfl) ?_
            refine HO.val (v := .bool (decide (t.2.1 < 1))) (want_none) rfl (q_move rfl) ?_
            rcases Bool.eq_false_or_eq_true (decide (t.2.1 < 1)) with c_5 | c_5
            · replace hM := hM.1 (of_decide_eq_true c_5)
              refine HO.past (past_by rfl rfl c_5) rfl ?_
              refine HO.past (past_by rfl rfl c_5) rfl ?_
              refine HO.past (past_by rfl rfl c_5) rfl ?_
              refine HO.val (v := .bool true) (want_none) rfl (q_pickK true rfl c_5 rfl) ?_
              refine HO.nil (thenQ_normal (?_))
              exact ⟨F, true, rfl, rfl, rfl, hK, hS, hM⟩
            · replace hM := hM.2 (of_decide_eq_false c_5)
              refine HO.val (v := .pointer (some ⟨b_1, 1, none⟩)) (want_by rfl rfl c_5) rfl (q_fieldAddr fa_50_1 rfl rfl) ?_
              refine HO.val (v := .int .i64 t.2.1) (want_by rfl rfl c_5) rfl (q_load to_3 rfl (Blk.cell (hS.box 0 rfl) rfl)) ?_
              refine HO.val (v := .bool (decide (317440 < t.2.1))) (want_by rfl rfl c_5) rfl (q_gtr rfl rfl) ?_
              refine HO.val (v := .bool (decide (317440 < t.2.1))) (want_none) rfl (q_pickK false rfl c_5 rfl) ?_
              refine HO.nil (thenQ_normal (?_))
              exact ⟨F, decide (317440 < t.2.1), rfl, rfl, rfl, hK, hS, hM⟩
  · rintro f_1 h_2 ⟨F_1, b_2, e1, e2, e30, hK, hS, hM⟩
    unfold ref14_Good_j1 at hM
    refine HW.fr [(1, .pointer (some ⟨b_1, 0, none⟩)), (2, .bool false), (30, .bool b_2)] ⟨e1, e2, e30, trivial⟩ ?_
    refine HW.cond b_2 rfl (fun c_6 => ?_) (fun c_6 => ?_)
    · replace hM := hM.1 c_6
      refine HW.seq ?_
      refine HW.region ?_
      refine HO.val (v := .bool false) (want_none) rfl (q_assign rfl) ?_
      refine HO.nil (thenQ_normal (?_))
      refine HW.ret (thenQ_ret (?_))
      refine ⟨.inr rfl, .bool false, res1 rfl (rt rfl), ?_⟩
      replace hS : St F_1 (fr) h_2 := hS.perm2 [] 1 rfl rfl
      exact ⟨F_1, false, rfl, hK, hS, hM⟩
    · replace hM := hM.2 c_6
      refine HW.skip (thenQ_normal (?_))
      refine HW.seq ?_
      refine HW.region ?_
      refine HO.val (v := .pointer (some ⟨b_1, 2, none⟩)) (want_none) rfl (q_fieldAddr fa_50_2 rfl rfl) ?_
      refine HO.val (v := .int .i64 t.2.2.1) (want_none) rfl (q_load to_3 rfl (Blk.cell (hS.box 0 rfl) rfl)) ?_
      refine HO.val (v := .bool (decide (0 < t.2.2.1))) (want_none) rfl (q_gtr rfl rfl) ?_
      refine HO.val (v := .bool (decide (0 < t.2.2.1))) (want_none) rfl (q_move rfl) ?_
      rcases Bool.eq_false_or_eq_true (decide (0 < t.2.2.1)) with c_7 | c_7
      · replace hM := hM.1 (of_decide_eq_true c_7)
        refine HO.val (v := .pointer (some ⟨b_1, 2, none⟩)) (want_by rfl rfl c_7) rfl (q_fieldAddr fa_50_2 rfl rfl) ?_
        refine HO.val (v := .int .i64 t.2.2.1) (want_by rfl rfl c_7) rfl (q_load to_3 rfl (Blk.cell (hS.box 0 rfl) rfl)) ?_
        refine HO.val (v := .bool (decide (t.2.2.1 < 31745))) (want_by rfl rfl c_7) rfl (q_lss rfl rfl) ?_
        refine HO.val (v := .bool (decide (t.2.2.1 < 31745))) (want_none) rfl (q_pickK true rfl c_7 rfl) ?_
        refine HO.val (v := .bool (decide (t.2.2.1 < 31745))) (want_none) rfl (q_move rfl) ?_
        rcases Bool.eq_false_or_eq_true (decide (t.2.2.1 < 31745)) with c_8 | c_8
        · replace hM := hM.1 (of_decide_eq_true c_8)
          refine HO.val (v := .pointer (some ⟨b_1, 3, none⟩)) (want_by rfl rfl c_8) rfl (q_fieldAddr fa_50_3 rfl rfl) ?_
          refine HO.val (v := .int .i64 t.2.2.2.1) (want_by rfl rfl c_8) rfl (q_load to_3 rfl (Blk.cell (hS.box 0 rfl) rfl)) ?_
          refine HO.val (v := .bool (decide (0 < t.2.2.2.1))) (want_by rfl rfl c_8) rfl (q_gtr rfl rfl) ?_
          refine HO.val (v := .bool (decide (0 < t.2.2.2.1))) (want_none) rfl (q_pickK true rfl c_8 rfl) ?_
          refine HO.val (v := .bool (decide (0 < t.2.2.2.1))) (want_none) rfl (q_move rfl) ?_
          rcases Bool.eq_false_or_eq_true (decide (0 < t.2.2.2.1)) with c_9 | c_9
          · replace hM := hM.1 (of_decide_eq_true c_9)
            refine HO.val (v := .pointer (some ⟨b_1, 3, none⟩)) (want_by rfl rfl c_9) rfl (q_fieldAddr fa_50_3 rfl rfl) ?_
            refine HO.val (v := .int .i64 t.2.2.2.1) (want_by rfl rfl c_9) rfl (q_load to_3 rfl (Blk.cell (hS.box 0 rfl) rfl)) ?_
            refine HO.val (v := .bool (decide (t.2.2.2.1 < 31745))) (want_by rfl rfl c_9) rfl (q_lss rfl rfl) ?_
            refine HO.val (v := .bool (decide (t.2.2.2.1 < 31745))) (want_none) rfl (q_pickK true rfl c_9 rfl) ?_
            refine HO.val (v := .bool (decide (t.2.2.2.1 < 31745))) (want_none) rfl (q_move rfl) ?_
            rcases Bool.eq_false_or_eq_true (decide (t.2.2.2.1 < 31745)) with c_10 | c_10
            · replace hM := hM.1 (of_decide_eq_true c_10)
              refine HO.val (v := .pointer (some ⟨b_1, 2, none⟩)) (want_by rfl rfl c_10) rfl (q_fieldAddr fa_50_2 rfl rfl) ?_
              refine HO.val (v := .int .i64 t.2.2.1) (want_by rfl rfl c_10) rfl (q_load to_3 rfl (Blk.cell (hS.box 0 rfl) rfl)) ?_
              refine HO.val (v := .pointer (some ⟨b_1, 1, none⟩)) (want_by rfl rfl c_10) rfl (q_fieldAddr fa_50_1 rfl rfl) ?_
              refine HO.val (v := .int .i64 t.2.1) (want_by rfl rfl c_10) rfl (q_load to_3 rfl (Blk.cell (hS.box 0 rfl) rfl)) ?_
              refine HO.val (v := .bool (decide (t.2.2.1 ≤ t.2.1))) (want_by rfl rfl c_10) rfl (q_leq rfl rfl) ?_
              refine HO.val (v := .bool (decide (t.2.2.1 ≤ t.2.1))) (want_none) rfl (q_pickK true rfl c_10 rfl) ?_
              refine HO.val (v := .bool (decide (t.2.2.1 ≤ t.2.1))) (want_none) rfl (q_assign rfl) ?_
              refine HO.nil (thenQ_normal (?_))
              refine HW.ret (?_)
              refine ⟨.inr rfl, .bool (decide (t.2.2.1 ≤ t.2.1)), res1 rfl (rt rfl), ?_⟩
              replace hS : St F_1 (fr) h_2 := hS.perm2 [] 1 rfl rfl
              exact ⟨F_1, decide (t.2.2.1 ≤ t.2.1), rfl, hK, hS, hM⟩
            · replace hM := hM.2 (of_decide_eq_false c_10)
              refine HO.past (past_by rfl rfl c_10) rfl ?_
              refine HO.past (past_by rfl rfl c_10) rfl ?_
              refine HO.past (past_by rfl rfl c_10) rfl ?_
              refine HO.past (past_by rfl rfl c_10) rfl ?_
              refine HO.past (past_by rfl rfl c_10) rfl ?_
              refine HO.val (v := .bool false) (want_none) rfl (q_pickK false rfl c_10 rfl) ?_
              refine HO.val (v := .bool false) (want_none) rfl (q_assign rfl) ?_
              refine HO.nil (thenQ_normal (?_))
              refine HW.ret (?_)
              refine ⟨.inr rfl, .bool false, res1 rfl (rt rfl), ?_⟩
              replace hS : St F_1 (fr) h_2 := hS.perm2 [] 1 rfl rfl
              exact ⟨F_1, false, rfl, hK, hS, hM⟩
          · replace hM := hM.2 (of_decide_eq_false c_9)
            refine HO.past (past_by rfl rfl c_9) rfl ?_
            refine HO.past (past_by rfl rfl c_9) rfl ?_
            refine HO.past (past_by rfl rfl c_9) rfl ?_
            refine HO.val (v := .bool false) (want_none) rfl (q_pickK false rfl c_9 rfl) ?_
            refine HO.val (v := .bool false) (want_none) rfl (q_move rfl) ?_
            refine HO.past (past_some rfl rfl) rfl ?_
            refine HO.past (past_some rfl rfl) rfl ?_
            refine HO.past (past_some rfl rfl) rfl ?_
            refine HO.past (past_some rfl rfl) rfl ?_
            refine HO.past (past_some rfl rfl) rfl ?_
            refine HO.val (v := .bool false) (want_none) rfl (q_pick rfl rfl) ?_
            refine HO.val (v := .bool false) (want_none) rfl (q_assign rfl) ?_
            refine HO.nil (thenQ_normal (?_))
            refine HW.ret (?_)
            refine ⟨.inr rfl, .bool false, res1 rfl (rt rfl), ?_⟩
            replace hS : St F_1 (fr) h_2 := hS.perm2 [] 1 rfl rfl
            exact ⟨F_1, false, rfl, hK, hS, hM⟩
        · replace hM := hM.2 (of_decide_eq_false c_8)
          refine HO.past (past_by rfl rfl c_8) rfl ?_
          refine HO.past (past_by rfl rfl c_8) rfl ?_
          refine HO.past (past_by rfl rfl c_8) rfl ?_
          refine HO.val (v := .bool false) (want_none) rfl (q_pickK false rfl c_8 rfl) ?_
          refine HO.val (v := .bool false) (want_none) rfl (q_move rfl) ?_
          refine HO.past (past_some rfl rfl) rfl ?_
          refine HO.past (past_some rfl rfl) rfl ?_
          refine HO.past (past_some rfl rfl) rfl ?_
          refine HO.val (v := .bool false) (want_none) rfl (q_pick rfl rfl) ?_
          refine HO.val (v := .bool false) (want_none) rfl (q_move rfl) ?_
          refine HO.past (past_some rfl rfl) rfl ?_
          refine HO.past (past_some rfl rfl) rfl ?_
          refine HO.past (past_some rfl rfl) rfl ?_
          refine HO.past (past_some rfl rfl) rfl ?_
          refine HO.past (past_some rfl rfl) rfl ?_
          refine HO.val (v := .bool false) (want_none) rfl (q_pick rfl rfl) ?_
          refine HO.val (v := .bool false) (want_none) rfl (q_assign rfl) ?_
          refine HO.nil (thenQ_normal (?_))
          refine HW.ret (?_)
          refine ⟨.inr rfl, .bool false, res1 rfl (rt rfl), ?_⟩
          replace hS : St F_1 (fr) h_2 := hS.perm2 [] 1 rfl rfl
          exact ⟨F_1, false, rfl, hK, hS, hM⟩
      · replace hM := hM.2 (of_decide_eq_false c_7)
        refine HO.past (past_by rfl rfl c_7) rfl ?_
        refine HO.past (past_by rfl rfl c_7) rfl ?_
        refine HO.past (past_by rfl rfl c_7) rfl ?_
        refine HO.val (v := .bool false) (want_none) rfl (q_pickK false rfl c_7 rfl) ?_
        refine HO.val (v := .bool false) (want_none) rfl (q_move rfl) ?_
        refine HO.past (past_some rfl rfl) rfl ?_
        refine HO.past (past_some rfl rfl) rfl ?_
        refine HO.past (past_some rfl rfl) rfl ?_
        refine HO.val (v := .bool false) (want_none) rfl (q_pick rfl rfl) ?_
        refine HO.val (v := .bool false) (want_none) rfl (q_move rfl) ?_
        refine HO.past (past_some rfl rfl) rfl ?_
        refine HO.past (past_some rfl rfl) rfl ?_
        refine HO.past (past_some rfl rfl) rfl ?_
        refine HO.val (v := .bool false) (want_none) rfl (q_pick rfl rfl) ?_
        refine HO.val (v := .bool false) (want_none) rfl (q_move rfl) ?_
        refine HO.past (past_some rfl rfl) rfl ?_
        refine HO.past (past_some rfl rfl) rfl ?_
        refine HO.past (past_some rfl rfl) rfl ?_
        refine HO.past (past_some rfl rfl) rfl ?_
        refine HO.past (past_some rfl rfl) rfl ?_
        refine HO.val (v := .bool false) (want_none) rfl (q_pick rfl rfl) ?_
        refine HO.val (v := .bool false) (want_none) rfl (q_assign rfl) ?_
        refine HO.nil (thenQ_normal (?_))
        refine HW.ret (?_)
        refine ⟨.inr rfl, .bool false, res1 rfl (rt rfl), ?_⟩
        replace hS : St F_1 (fr) h_2 := hS.perm2 [] 1 rfl rfl
        exact ⟨F_1, false, rfl, hK, hS, hM⟩

def clock_New_int_W (Q : Prop) : Prop :=
  Q
set_option maxHeartbeats 40000000 in
set_option maxRecDepth 100000 in
theorem clock_New_int_walk {F : Fz} {fr : List Ow} {h0 : Heap}  (hS : St F (fr) h0)  {Q : Prop} (hM : clock_New_int_W Q) :
    HC Try.prog 53 #[] h0 fun u h' => ∃ (F' : Fz) (b_1 : Nat) (r_1 : Nat), u = .pointer (some ⟨b_1, 0, none⟩) ∧ Kp F h0 F' h' ∧ St F' (Ow.box b_1 106 #[.map (some r_1)] :: Ow.map r_1 kI kI ([] : List (Int × Int)) :: fr) h' ∧ Q := by
  unfold clock_New_int_W at hM
  have hK := Kp.refl F h0
  refine HC.of_HW (n := 4) Try.func53 rfl rfl (Nat.le_of_ble_eq_true rfl) ?_
  refine HW.seq ?_
  refine HW.region ?_
  refine HO.val (v := .pointer none) (want_none) rfl (q_assign rfl) ?_
  refine HO.nil (thenQ_normal (?_))
  refine HW.seq ?_
  refine HW.region ?_
  refine HO.eff (want_none) rfl (st_makeMap (κ := Int) (ν := Int) kI kI hS) ?_
  rintro _ h_1 ⟨r_2, rfl, hS, hk⟩
  replace hK := hK.trans hk
  refine HO.val (v := .agg #[.map (some r_2)]) (want_none) rfl (q_build tp_106 rfl) ?_
  refine HO.eff (want_none) rfl (st_box (c := #[.map (some r_2)]) (k' := 1) hS rfl rfl) ?_
  rintro _ h_2 ⟨b_2, rfl, hS, hk⟩
  replace hK := hK.trans hk
  refine HO.val (v := .pointer (some ⟨b_2, 0, none⟩)) (want_none) rfl (q_assign rfl) ?_
  refine HO.nil (thenQ_normal (?_))
  refine HW.ret (?_)
  refine ⟨.inr rfl, .pointer (some ⟨b_2, 0, none⟩), res1 rfl (rt rfl), ?_⟩
  exact ⟨F, b_2, r_2, rfl, hK, hS, hM⟩

def route_New_W (n : Int) (Q : Prop) : Prop :=
  ((0 : Int) ≤ min (max n 0) 32 ∧ 1 * min (max n 0) 32 ≤ 281474976710656) ∧ (clock_New_int_W  (Q))
set_option maxHeartbeats 40000000 in
set_option maxRecDepth 100000 in
theorem route_New_walk {F : Fz} {fr : List Ow} {h0 : Heap} (n : Int) (hS : St F (fr) h0)  {Q : Prop} (hM : route_New_W n Q) :
    HC Try.prog 28 #[.int .i64 n] h0 fun u h' => ∃ (F' : Fz) (b_1 : Nat) (b_2 : Nat) (r_1 : Nat) (vr_2_1 : Value), u = .pointer (some ⟨b_1, 0, none⟩) ∧ Kp F h0 F' h' ∧ St F' (Ow.box b_1 94 #[.int .i64 0, .pointer (some ⟨b_2, 0, none⟩), vr_2_1] :: Ow.box b_2 106 #[.map (some r_1)] :: Ow.map r_1 kI kI ([] : List (Int × Int)) :: Ow.own 4 1 encB vr_2_1 (List.replicate (min (max n 0) 32 : Int).toNat (default : Bool)) :: fr) h' ∧ Q := by
  unfold route_New_W at hM
  have hK := Kp.refl F h0
  refine HC.of_HW (n := 10) Try.func28 rfl rfl (Nat.le_of_ble_eq_true rfl) ?_
  refine HW.seq ?_
  refine HW.region ?_
  refine HO.val (v := .pointer none) (want_none) rfl (q_assign rfl) ?_
  refine HO.nil (thenQ_normal (?_))
  refine HW.seq ?_
  obtain ⟨ho_1, hM⟩ := hM
  refine HW.regionA 8 mixed (fun h => True) [] (by kernel_rfl) ?_
  refine HA.val (k := 1) (v := .int .i64 n) rfl rfl (by kernel_rfl) (by kernel_rfl) (want_none) rfl (fun _ _ => q_move rfl) ?_
  refine HA.val (k := 2) (v := .int .i64 (max n 0)) rfl rfl (by kernel_rfl) (by kernel_rfl) (want_none) rfl (fun _ _ => q_max rfl rfl) ?_
  refine HA.val (k := 3) (v := .int .i64 (min (max n 0) 32)) rfl rfl (by kernel_rfl) (by kernel_rfl) (want_none) rfl (fun _ _ => q_min rfl rfl) ?_
  refine HA.two (k := 0) (k' := 4) ⟨trivial, (Go.Wk.at_nil _ _)⟩ (by kernel_rfl) ?_ ?_
  · refine HS.call rfl (want_none) rfl (ec en_53 rfl rfl) (clock_New_int_walk (fr := (fr))  hS hM) ?_
    rintro _ h_1 ⟨F_1, b_3, r_2, rfl, hk, hS, hM⟩
    replace hK := hK.trans hk
    refine HA.one (k := 4) ⟨trivial, (Go.Wk.at_nil _ _)⟩ (by kernel_rfl) ?_
    refine HS.eff rfl (want_none) rfl (st_makeSlice (enc := encB) (min (max n 0) 32 : Int).toNat (default : Bool) hS te_92 tz_4 rfl rfl (by omega) (by omega) (by omega)) ?_
    rintro _ h_2 ⟨b_4, rfl, hS, hk⟩
    replace hK := hK.trans hk
    refine HA.val (k := 5) (v := .agg #[.int .i64 0, .pointer (some ⟨b_3, 0, none⟩), .slice (some ⟨b_4, 0, none⟩) (min (max n 0) 32 : Int).toNat (min (max n 0) 32 : Int).toNat]) rfl rfl (by kernel_rfl) (by kernel_rfl) (want_none) rfl (fun _ _ => q_build tp_94 rfl) ?_
    refine HA.one (k := 6) ⟨trivial, (Go.Wk.at_nil _ _)⟩ (by kernel_rfl) ?_
    refine HS.eff rfl (want_none) rfl (st_box (c := #[.int .i64 0, .pointer (some ⟨b_3, 0, none⟩), .slice (some ⟨b_4, 0, none⟩) (min (max n 0) 32 : Int).toNat (min (max n 0) 32 : Int).toNat]) (k' := 3) hS rfl rfl) ?_
    rintro _ h_3 ⟨b_5, rfl, hS, hk⟩
    replace hK := hK.trans hk
    refine HA.val (k := 7) (v := .pointer (some ⟨b_5, 0, none⟩)) rfl rfl (by kernel_rfl) (by kernel_rfl) (want_none) rfl (fun _ _ => q_assign rfl) ?_
    refine HA.nil ⟨trivial, (Go.Wk.at_nil _ _)⟩ (by kernel_rfl) (thenQ_normal (?_))
    refine HW.ret (?_)
    refine ⟨.inr rfl, .pointer (some ⟨b_5, 0, none⟩), res1 rfl (rt rfl), ?_⟩
    replace hS : St F_1 (Ow.box b_5 94 #[.int .i64 0, .pointer (some ⟨b_3, 0, none⟩), .slice (some ⟨b_4, 0, none⟩) (min (max n 0) 32 : Int).toNat (min (max n 0) 32 : Int).toNat] :: Ow.box b_3 106 #[.map (some r_2)] :: Ow.map r_2 kI kI ([] : List (Int × Int)) :: Ow.own 4 1 encB (.slice (some ⟨b_4, 0, none⟩) (min (max n 0) 32 : Int).toNat (min (max n 0) 32 : Int).toNat) (List.replicate (min (max n 0) 32 : Int).toNat (default : Bool)) :: fr) h_3 := hS.perm2 [0, 2, 3, 1] 4 rfl rfl
    exact ⟨F_1, b_5, b_3, r_2, .slice (some ⟨b_4, 0, none⟩) (min (max n 0) 32 : Int).toNat (min (max n 0) 32 : Int).toNat, rfl, hK, hS, hM⟩
  · refine HS.eff rfl (want_none) rfl (st_makeSlice (enc := encB) (min (max n 0) 32 : Int).toNat (default : Bool) hS te_92 tz_4 rfl rfl (by omega) (by omega) (by omega)) ?_
    rintro _ h_1 ⟨b_3, rfl, hS, hk⟩
    replace hK := hK.trans hk
    refine HA.one (k := 0) ⟨trivial, (Go.Wk.at_nil _ _)⟩ (by kernel_rfl) ?_
    refine HS.call rfl (want_none) rfl (ec en_53 rfl rfl) (clock_New_int_walk (fr := (Ow.own 4 1 encB (.slice (some ⟨b_3, 0, none⟩) (min (max n 0) 32 : Int).toNat (min (max n 0) 32 : Int).toNat) (List.replicate (min (max n 0) 32 : Int).toNat (default : Bool)) :: fr))  hS hM) ?_
    rintro _ h_2 ⟨F_1, b_4, r_2, rfl, hk, hS, hM⟩
    replace hK := hK.trans hk
    refine HA.val (k := 5) (v := .agg #[.int .i64 0, .pointer (some ⟨b_4, 0, none⟩), .slice (some ⟨b_3, 0, none⟩) (min (max n 0) 32 : Int).toNat (min (max n 0) 32 : Int).toNat]) rfl rfl (by kernel_rfl) (by kernel_rfl) (want_none) rfl (fun _ _ => q_build tp_94 rfl) ?_
    refine HA.one (k := 6) ⟨trivial, (Go.Wk.at_nil _ _)⟩ (by kernel_rfl) ?_
    refine HS.eff rfl (want_none) rfl (st_box (c := #[.int .i64 0, .pointer (some ⟨b_4, 0, none⟩), .slice (some ⟨b_3, 0, none⟩) (min (max n 0) 32 : Int).toNat (min (max n 0) 32 : Int).toNat]) (k' := 3) hS rfl rfl) ?_
    rintro _ h_3 ⟨b_5, rfl, hS, hk⟩
    replace hK := hK.trans hk
    refine HA.val (k := 7) (v := .pointer (some ⟨b_5, 0, none⟩)) rfl rfl (by kernel_rfl) (by kernel_rfl) (want_none) rfl (fun _ _ => q_assign rfl) ?_
    refine HA.nil ⟨trivial, (Go.Wk.at_nil _ _)⟩ (by kernel_rfl) (thenQ_normal (?_))
    refine HW.ret (?_)
    refine ⟨.inr rfl, .pointer (some ⟨b_5, 0, none⟩), res1 rfl (rt rfl), ?_⟩
    exact ⟨F_1, b_5, b_4, r_2, .slice (some ⟨b_3, 0, none⟩) (min (max n 0) 32 : Int).toNat (min (max n 0) 32 : Int).toNat, rfl, hK, hS, hM⟩

def route_Routes_Len_W (r_now : Int) (r_till_at : List (Int × Int)) (r_fixed : List Bool) (Q : Int → Prop) : Prop :=
  Q (r_fixed.length : Int)
set_option maxHeartbeats 40000000 in
set_option maxRecDepth 100000 in
theorem route_Routes_Len_walk {F : Fz} {fr : List Ow} {h0 : Heap} (r_now : Int) (r_till_at : List (Int × Int)) (r_fixed : List Bool) (br : Nat) (br_till : Nat) (rr_till_at : Nat) (vr_fixed : Value) (hS : St F (fr) h0) (hM_rr_till_at : RoF (Ow.map rr_till_at kI kI r_till_at) F h0) (hB_br_till : RoF (Ow.box br_till 106 #[.map (some rr_till_at)]) F h0) (hL_r_fixed : SliceF F h0 1 encB vr_fixed r_fixed) (hB_br : RoF (Ow.box br 94 #[.int .i64 r_now, .pointer (some ⟨br_till, 0, none⟩), vr_fixed]) F h0) {Q : Int → Prop} (hM : route_Routes_Len_W r_now r_till_at r_fixed Q) :
    HC Try.prog 30 #[.pointer (some ⟨br, 0, none⟩)] h0 fun u h' => ∃ (F' : Fz) (r_1 : Int), u = .int .i64 r_1 ∧ Kp F h0 F' h' ∧ St F' (fr) h' ∧ (RoF (Ow.map rr_till_at kI kI r_till_at) F' h') ∧ (RoF (Ow.box br_till 106 #[.map (some rr_till_at)]) F' h') ∧ (SliceF F' h' 1 encB vr_fixed r_fixed) ∧ (RoF (Ow.box br 94 #[.int .i64 r_now, .pointer (some ⟨br_till, 0, none⟩), vr_fixed]) F' h') ∧ Q r_1 := by
  unfold route_Routes_Len_W at hM
  have hK := Kp.refl F h0
  refine HC.of_HW (n := 10) Try.func30 rfl rfl (Nat.le_of_ble_eq_true rfl) ?_
  refine HW.seq ?_
  refine HW.region ?_
  refine HO.val (v := .int .i64 0) (want_none) rfl (q_assign rfl) ?_
  refine HO.nil (thenQ_normal (?_))
  refine HW.seq ?_
  refine HW.seq ?_
  refine HW.region ?_
  refine HO.val (v := .pointer (some ⟨br, 0, none⟩)) (want_none) rfl (q_move rfl) ?_
  refine HO.val (v := .bool false) (want_none) rfl (q_eqlPnil Try.underlying53 rfl rfl rfl) ?_
  refine HO.nil (thenQ_normal (?_))
  refine HW.condF rfl ?_
  refine HW.skip (thenQ_normal (?_))
  refine HW.seq ?_
  refine HW.region ?_
  refine HO.val (v := .pointer (some ⟨br, 0, none⟩)) (want_none) rfl (q_move rfl) ?_
  refine HO.val (v := .pointer (some ⟨br, 0, none⟩)) (want_none) rfl (q_nilCheck rfl) ?_
  refine HO.val (v := .pointer (some ⟨br, 2, none⟩)) (want_none) rfl (q_fieldAddr fa_94_2 rfl rfl) ?_
  refine HO.val (v := vr_fixed) (want_none) rfl (q_load to_92 rfl (Blk.cell hB_br.box rfl)) ?_
  refine HO.val (v := .int .i64 (r_fixed.length : Int)) (want_none) rfl (q_len ts_92 (shp hL_r_fixed.is) rfl rfl) ?_
  refine HO.val (v := .int .i64 (r_fixed.length : Int)) (want_none) rfl (q_assign rfl) ?_
  refine HO.nil (thenQ_normal (?_))
  refine HW.ret (?_)
  refine ⟨.inr rfl, .int .i64 (r_fixed.length : Int), res1 rfl (rt rfl), ?_⟩
  exact ⟨F, (r_fixed.length : Int), rfl, hK, hS, hM_rr_till_at, hB_br_till, hL_r_fixed, hB_br, hM⟩

def law18_Usual_W (Q : T_api_Tune → Prop) : Prop :=
  Q (2, 12, 2, 2, 2)
set_option maxHeartbeats 40000000 in
set_option maxRecDepth 100000 in
theorem law18_Usual_walk {F : Fz} {fr : List Ow} {h0 : Heap}  (hS : St F (fr) h0)  {Q : T_api_Tune → Prop} (hM : law18_Usual_W Q) :
    HC Try.prog 52 #[] h0 fun u h' => ∃ (F' : Fz) (r_1 : T_api_Tune), u = .agg (e_api_Tune r_1).toArray ∧ Kp F h0 F' h' ∧ St F' (fr) h' ∧ Q r_1 := by
  unfold law18_Usual_W at hM
  have hK := Kp.refl F h0
  refine HC.of_HW (n := 2) Try.func52 rfl rfl (Nat.le_of_ble_eq_true rfl) ?_
  refine HW.seq ?_
  refine HW.region ?_
  refine HO.eff (want_none) rfl (st_alloc (c := (e_api_Tune (0, 0, 0, 0, 0)).toArray) hS tz_50 rfl) ?_
  rintro _ h_1 ⟨b_1, rfl, hS, hk⟩
  replace hK := hK.trans hk
  refine HO.nil (thenQ_normal (?_))
  refine HW.seq ?_
  refine HW.region ?_
  refine HO.val (v := .agg (e_api_Tune (2, 12, 2, 2, 2)).toArray) (want_none) rfl (q_build tp_50 rfl) ?_
  refine HO.sto (want_none) rfl (st_storeAgg (c' := (e_api_Tune (2, 12, 2, 2, 2)).toArray) hS (i := 0) rfl ta_50 rfl rfl rfl (one_e_api_Tune _) (Nat.le_of_ble_eq_true rfl) rfl) ?_
  rintro h_2 ⟨hS, hk⟩
  replace hS : St F (Ow.box b_1 50 (e_api_Tune (2, 12, 2, 2, 2)).toArray :: fr) h_2 := hS
  replace hK := hK.trans hk
  refine HO.nil (thenQ_normal (?_))
  refine HW.ret (?_)
  refine ⟨.inr rfl, .agg (e_api_Tune (2, 12, 2, 2, 2)).toArray, res1 rfl (rca (cs := (e_api_Tune (2, 12, 2, 2, 2))) ta_50 rfl rfl (Blk.cells (k := 5) (hS.box 0 rfl) rfl)), ?_⟩
  replace hS : St F (fr) h_2 := hS.perm2 [] 1 rfl rfl
  exact ⟨F, (2, 12, 2, 2, 2), rfl, hK, hS, hM⟩

def route_Routes_in_W (r_now : Int) (r_till_at : List (Int × Int)) (r_fixed : List Bool) (port : Int) (Q : Bool → Prop) : Prop :=
  (0 ≤ port → Q (decide (port < (r_fixed.length : Int)))) ∧ (¬ (0 ≤ port) → Q false)
set_option maxHeartbeats 40000000 in
set_option maxRecDepth 100000 in
theorem route_Routes_in_walk {F : Fz} {fr : List Ow} {h0 : Heap} (r_now : Int) (r_till_at : List (Int × Int)) (r_fixed : List Bool) (port : Int) (br : Nat) (br_till : Nat) (rr_till_at : Nat) (vr_fixed : Value) (hS : St F (fr) h0) (hM_rr_till_at : RoF (Ow.map rr_till_at kI kI r_till_at) F h0) (hB_br_till : RoF (Ow.box br_till 106 #[.map (some rr_till_at)]) F h0) (hL_r_fixed : SliceF F h0 1 encB vr_fixed r_fixed) (hB_br : RoF (Ow.box br 94 #[.int .i64 r_now, .pointer (some ⟨br_till, 0, none⟩), vr_fixed]) F h0) {Q : Bool → Prop} (hM : route_Routes_in_W r_now r_till_at r_fixed port Q) :
    HC Try.prog 55 #[.pointer (some ⟨br, 0, none⟩), .int .i64 port] h0 fun u h' => ∃ (F' : Fz) (r_1 : Bool), u = .bool r_1 ∧ Kp F h0 F' h' ∧ St F' (fr) h' ∧ (RoF (Ow.map rr_till_at kI kI r_till_at) F' h') ∧ (RoF (Ow.box br_till 106 #[.map (some rr_till_at)]) F' h') ∧ (SliceF F' h' 1 encB vr_fixed r_fixed) ∧ (RoF (Ow.box br 94 #[.int .i64 r_now, .pointer (some ⟨br_till, 0, none⟩), vr_fixed]) F' h') ∧ Q r_1 := by
  unfold route_Routes_in_W at hM
  have hK := Kp.refl F h0
  refine HC.of_HW (n := 20) Try.func55 rfl rfl (Nat.le_of_ble_eq_true rfl) ?_
  refine HW.seq ?_
  refine HW.region ?_
  refine HO.val (v := .bool false) (want_none) rfl (q_assign rfl) ?_
  refine HO.nil (thenQ_normal (?_))
  refine HW.seq ?_
  refine HW.region ?_
  refine HO.val (v := .pointer (some ⟨br, 0, none⟩)) (want_none) rfl (q_move rfl) ?_
  refine HO.val (v := .bool true) (want_none) rfl (q_neqPnil Try.underlying53 rfl rfl rfl) ?_
  refine HO.val (v := .bool true) (want_none) rfl (q_move rfl) ?_
  refine HO.val (v := .int .i64 port) (want_some rfl rfl) rfl (q_move rfl) ?_
  refine HO.val (v := .bool (decide (0 ≤ port))) (want_some rfl rfl) rfl (q_geq rfl rfl) ?_
  refine HO.val (v := .bool (decide (0 ≤ port))) (want_none) rfl (q_pick rfl rfl) ?_
  refine HO.val (v := .bool (decide (0 ≤ port))) (want_none) rfl (q_move rfl) ?_
  rcases Bool.eq_false_or_eq_true (decide (0 ≤ port)) with c_1 | c_1
  · replace hM := hM.1 (of_decide_eq_true c_1)
    refine HO.val (v := .int .i64 port) (want_by rfl rfl c_1) rfl (q_move rfl) ?_
    refine HO.val (v := .pointer (some ⟨br, 0, none⟩)) (want_by rfl rfl c_1) rfl (q_move rfl) ?_
    refine HO.val (v := .pointer (some ⟨br, 0, none⟩)) (want_by rfl rfl c_1) rfl (q_nilCheck rfl) ?_
    refine HO.val (v := .pointer (some ⟨br, 2, none⟩)) (want_by rfl rfl c_1) rfl (q_fieldAddr fa_94_2 rfl rfl) ?_
    refine HO.val (v := vr_fixed) (want_by rfl rfl c_1) rfl (q_load to_92 rfl (Blk.cell hB_br.box rfl)) ?_
    refine HO.val (v := .int .i64 (r_fixed.length : Int)) (want_by rfl rfl c_1) rfl (q_len ts_92 (shp hL_r_fixed.is) rfl rfl) ?_
    refine HO.val (v := .bool (decide (port < (r_fixed.length : Int)))) (want_by rfl rfl c_1) rfl (q_lss rfl rfl) ?_
    refine HO.val (v := .bool (decide (port < (r_fixed.length : Int)))) (want_none) rfl (q_pickK true rfl c_1 rfl) ?_
    refine HO.val (v := .bool (decide (port < (r_fixed.length : Int)))) (want_none) rfl (q_assign rfl) ?_
    refine HO.nil (thenQ_normal (?_))
    refine HW.ret (?_)
    refine ⟨.inr rfl, .bool (decide (port < (r_fixed.length : Int))), res1 rfl (rt rfl), ?_⟩
    exact ⟨F, decide (port < (r_fixed.length : Int)), rfl, hK, hS, hM_rr_till_at, hB_br_till, hL_r_fixed, hB_br, hM⟩
  · replace hM := hM.2 (of_decide_eq_false c_1)
    refine HO.past (past_by rfl rfl c_1) rfl ?_
    refine HO.past (past_by rfl rfl c_1) rfl ?_
    refine HO.past (past_by rfl rfl c_1) rfl ?_
    refine HO.past (past_by rfl rfl c_1) rfl ?_
    refine HO.past (past_by rfl rfl c_1) rfl ?_
    refine HO.past (past_by rfl rfl c_1) rfl ?_
    refine HO.past (past_by rfl rfl c_1) rfl ?_
    refine HO.val (v := .bool false) (want_none) rfl (q_pickK false rfl c_1 rfl) ?_
    refine HO.val (v := .bool false) (want_none) rfl (q_assign rfl) ?_
    refine HO.nil (thenQ_normal (?_))
    refine HW.ret (?_)
    refine ⟨.inr rfl, .bool false, res1 rfl (rt rfl), ?_⟩
    exact ⟨F, false, rfl, hK, hS, hM_rr_till_at, hB_br_till, hL_r_fixed, hB_br, hM⟩

def cmp_isNaN_int_W (x : Int) (Q : Bool → Prop) : Prop :=
  Q (!decide (x = x))
set_option maxHeartbeats 40000000 in
set_option maxRecDepth 100000 in
theorem cmp_isNaN_int_walk {F : Fz} {fr : List Ow} {h0 : Heap} (x : Int) (hS : St F (fr) h0)  {Q : Bool → Prop} (hM : cmp_isNaN_int_W x Q) :
    HC Try.prog 75 #[.int .i64 x] h0 fun u h' => ∃ (F' : Fz) (r_1 : Bool), u = .bool r_1 ∧ Kp F h0 F' h' ∧ St F' (fr) h' ∧ Q r_1 := by
  unfold cmp_isNaN_int_W at hM
  have hK := Kp.refl F h0
  refine HC.of_HW (n := 6) Try.func75 rfl rfl (Nat.le_of_ble_eq_true rfl) ?_
  refine HW.seq ?_
  refine HW.region ?_
  refine HO.val (v := .bool false) (want_none) rfl (q_assign rfl) ?_
  refine HO.nil (thenQ_normal (?_))
  refine HW.seq ?_
  refine HW.region ?_
  refine HO.val (v := .int .i64 x) (want_none) rfl (q_move rfl) ?_
  refine HO.val (v := .int .i64 x) (want_none) rfl (q_move rfl) ?_
  refine HO.val (v := .bool (!decide (x = x))) (want_none) rfl (q_neq rfl rfl) ?_
  refine HO.val (v := .bool (!decide (x = x))) (want_none) rfl (q_assign rfl) ?_
  refine HO.nil (thenQ_normal (?_))
  refine HW.ret (?_)
  refine ⟨.inr rfl, .bool (!decide (x = x)), res1 rfl (rt rfl), ?_⟩
  exact ⟨F, !decide (x = x), rfl, hK, hS, hM⟩

def cmp_Compare_int_W (x : Int) (y : Int) (Q : Int → Prop) : Prop :=
  cmp_isNaN_int_W x (fun r_2 => cmp_isNaN_int_W y (fun r_3 => (r_2 = true → (r_3 = true → Q 0) ∧ (r_3 = false → Q (-1))) ∧ (r_2 = false → (r_3 = true → Q 1) ∧ (r_3 = false → (x < y → Q (-1)) ∧ (¬ (x < y) → (y < x → Q 1) ∧ (¬ (y < x) → Q 0))))))
set_option maxHeartbeats 40000000 in
set_option maxRecDepth 100000 in
theorem cmp_Compare_int_walk {F : Fz} {fr : List Ow} {h0 : Heap} (x : Int) (y : Int) (hS : St F (fr) h0)  {Q : Int → Prop} (hM : cmp_Compare_int_W x y Q) :
    HC Try.prog 66 #[.int .i64 x, .int .i64 y] h0 fun u h' => ∃ (F' : Fz) (r_1 : Int), u = .int .i64 r_1 ∧ Kp F h0 F' h' ∧ St F' (fr) h' ∧ Q r_1 := by
  unfold cmp_Compare_int_W at hM
  have hK := Kp.refl F h0
  refine HC.of_HW (n := 20) Try.func66 rfl rfl (Nat.le_of_ble_eq_true rfl) ?_
  refine HW.seq ?_
  refine HW.region ?_
  refine HO.val (v := .int .i64 0) (want_none) rfl (q_assign rfl) ?_
  refine HO.nil (thenQ_normal (?_))
  refine HW.seq ?_
  refine HW.region ?_
  refine HO.val (v := .int .i64 x) (want_none) rfl (q_move rfl) ?_
  refine HO.call (want_none) rfl (ec en_75 rfl rfl) (cmp_isNaN_int_walk (fr := (fr)) x hS hM) ?_
  rintro _ h_1 ⟨F_1, r_2, rfl, hk, hS, hM⟩
  replace hK := hK.trans hk
  refine HO.val (v := .bool r_2) (want_none) rfl (q_assign rfl) ?_
  refine HO.nil (thenQ_normal (?_))
  refine HW.seq ?_
  refine HW.region ?_
  refine HO.val (v := .int .i64 y) (want_none) rfl (q_move rfl) ?_
  refine HO.call (want_none) rfl (ec en_75 rfl rfl) (cmp_isNaN_int_walk (fr := (fr)) y hS hM) ?_
  rintro _ h_2 ⟨F_2, r_3, rfl, hk, hS, hM⟩
  replace hK := hK.trans hk
  refine HO.val (v := .bool r_3) (want_none) rfl (q_assign rfl) ?_
  refine HO.nil (thenQ_normal (?_))
  refine HW.seq ?_
  refine HW.seq ?_
  refine HW.region ?_
  refine HO.val (v := .bool r_2) (want_none) rfl (q_move rfl) ?_
  refine HO.nil (thenQ_normal (?_))
  refine HW.cond r_2 rfl (fun c_1 => ?_) (fun c_1 => ?_)
  · replace hM := hM.1 c_1
    refine HW.seq ?_
    refine HW.seq ?_
    refine HW.region ?_
    refine HO.val (v := .bool r_3) (want_none) rfl (q_move rfl) ?_
    refine HO.nil (thenQ_normal (?_))
    refine HW.cond r_3 rfl (fun c_2 => ?_) (fun c_2 => ?_)
    · replace hM := hM.1 c_2
      refine HW.seq ?_
      refine HW.region ?_
      refine HO.val (v := .int .i64 0) (want_none) rfl (q_assign rfl) ?_
      refine HO.nil (thenQ_normal (?_))
      refine HW.ret (thenQ_ret (thenQ_ret (?_)))
      refine ⟨.inr rfl, .int .i64 0, res1 rfl (rt rfl), ?_⟩
      exact ⟨F_2, 0, rfl, hK, hS, hM⟩
    · replace hM := hM.2 c_2
      refine HW.skip (thenQ_normal (?_))
      refine HW.seq ?_
      refine HW.region ?_
      refine HO.val (v := .int .i64 (-1)) (want_none) rfl (q_assign rfl) ?_
      refine HO.nil (thenQ_normal (?_))
      refine HW.ret (thenQ_ret (?_))
      refine ⟨.inr rfl, .int .i64 (-1), res1 rfl (rt rfl), ?_⟩
      exact ⟨F_2, (-1), rfl, hK, hS, hM⟩
  · replace hM := hM.2 c_1
    refine HW.skip (thenQ_normal (?_))
    refine HW.seq ?_
    refine HW.seq ?_
    refine HW.region ?_
    refine HO.val (v := .bool r_3) (want_none) rfl (q_move rfl) ?_
    refine HO.nil (thenQ_normal (?_))
    refine HW.cond r_3 rfl (fun c_3 => ?_) (fun c_3 => ?_)
    · replace hM := hM.1 c_3
      refine HW.seq ?_
      refine HW.region ?_
      refine HO.val (v := .int .i64 1) (want_none) rfl (q_assign rfl) ?_
      refine HO.nil (thenQ_normal (?_))
      refine HW.ret (thenQ_ret (?_))
      refine ⟨.inr rfl, .int .i64 1, res1 rfl (rt rfl), ?_⟩
      exact ⟨F_2, 1, rfl, hK, hS, hM⟩
    · replace hM := hM.2 c_3
      refine HW.skip (thenQ_normal (?_))
      refine HW.seq ?_
      refine HW.seq ?_
      refine HW.region ?_
      refine HO.val (v := .int .i64 x) (want_none) rfl (q_move rfl) ?_
      refine HO.val (v := .int .i64 y) (want_none) rfl (q_move rfl) ?_
      refine HO.val (v := .bool (decide (x < y))) (want_none) rfl (q_lss rfl rfl) ?_
      refine HO.nil (thenQ_normal (?_))
      refine HW.cond (decide (x < y)) rfl (fun c_4 => ?_) (fun c_4 => ?_)
      · replace hM := hM.1 (of_decide_eq_true c_4)
        refine HW.seq ?_
        refine HW.region ?_
        refine HO.val (v := .int .i64 (-1)) (want_none) rfl (q_assign rfl) ?_
        refine HO.nil (thenQ_normal (?_))
        refine HW.ret (thenQ_ret (?_))
        refine ⟨.inr rfl, .int .i64 (-1), res1 rfl (rt rfl), ?_⟩
        exact ⟨F_2, (-1), rfl, hK, hS, hM⟩
      · replace hM := hM.2 (of_decide_eq_false c_4)
        refine HW.skip (thenQ_normal (?_))
        refine HW.seq ?_
        refine HW.seq ?_
        refine HW.region ?_
        refine HO.val (v := .int .i64 x) (want_none) rfl (q_move rfl) ?_
        refine HO.val (v := .int .i64 y) (want_none) rfl (q_move rfl) ?_
        refine HO.val (v := .bool (decide (y < x))) (want_none) rfl (q_gtr rfl rfl) ?_
        refine HO.nil (thenQ_normal (?_))
        refine HW.cond (decide (y < x)) rfl (fun c_5 => ?_) (fun c_5 => ?_)
        · replace hM := hM.1 (of_decide_eq_true c_5)
          refine HW.seq ?_
          refine HW.region ?_
          refine HO.val (v := .int .i64 1) (want_none) rfl (q_assign rfl) ?_
          refine HO.nil (thenQ_normal (?_))
          refine HW.ret (thenQ_ret (?_))
          refine ⟨.inr rfl, .int .i64 1, res1 rfl (rt rfl), ?_⟩
          exact ⟨F_2, 1, rfl, hK, hS, hM⟩
        · replace hM := hM.2 (of_decide_eq_false c_5)
          refine HW.skip (thenQ_normal (?_))
          refine HW.seq ?_
          refine HW.region ?_
          refine HO.val (v := .int .i64 0) (want_none) rfl (q_assign rfl) ?_
          refine HO.nil (thenQ_normal (?_))
          refine HW.ret (?_)
          refine ⟨.inr rfl, .int .i64 0, res1 rfl (rt rfl), ?_⟩
          exact ⟨F_2, 0, rfl, hK, hS, hM⟩

def cmp_Or_int_l1 (vals : List Int) (Q : Int → Prop) (K_1 : Int → Prop) (n_1 : Int) : Prop :=
  (n_1 < (vals.length : Int) → ((0 : Int) ≤ n_1 ∧ n_1 < (vals.length : Int)) ∧ ((¬ ((gi vals n_1) = 0) → Q (gi vals n_1)) ∧ ((gi vals n_1) = 0 → (I64 (n_1 + 1)) ∧ (K_1 (n_1 + 1))))) ∧ (¬ (n_1 < (vals.length : Int)) → Q 0)
def cmp_Or_int_W (vals : List Int) (Q : Int → Prop) : Prop :=
  loopW (fun (K_1 : Int → Prop) (s : Int) => cmp_Or_int_l1 vals Q K_1 s) 0
set_option maxHeartbeats 40000000 in
set_option maxRecDepth 100000 in
theorem cmp_Or_int_walk {F : Fz} {fr : List Ow} {h0 : Heap} (vals : List Int) (vvals : Value) (hS : St F (fr) h0) (hL_vals : SliceF F h0 1 encI vvals vals) {Q : Int → Prop} (hM : cmp_Or_int_W vals Q) :
    HC Try.prog 65 #[vvals] h0 fun u h' => ∃ (F' : Fz) (r_1 : Int), u = .int .i64 r_1 ∧ Kp F h0 F' h' ∧ St F' (fr) h' ∧ (SliceF F' h' 1 encI vvals vals) ∧ Q r_1 := by
  unfold cmp_Or_int_W at hM
  have hK := Kp.refl F h0
  refine HC.of_HW (n := 18) Try.func65 rfl rfl (Nat.le_of_ble_eq_true rfl) ?_
  refine HW.seq ?_
  refine HW.region ?_
  refine HO.val (v := .int .i64 0) (want_none) rfl (q_assign rfl) ?_
  refine HO.nil (thenQ_normal (?_))
  refine HW.seq ?_
  refine HW.region ?_
  refine HO.val (v := .int .i64 0) (want_none) rfl (q_assign rfl) ?_
  refine HO.nil (thenQ_normal (?_))
  refine HW.seq ?_
  refine HW.seq ?_
  refine HW.region ?_
  refine HO.val (v := vvals) (want_none) rfl (q_move rfl) ?_
  refine HO.val (v := .int .i64 (vals.length : Int)) (want_none) rfl (q_len ts_68 (shp hL_vals.is) rfl rfl) ?_
  refine HO.val (v := .int .i64 0) (want_none) rfl (q_move rfl) ?_
  refine HO.nil (thenQ_normal (?_))
  refine HW.block ?_
  obtain ⟨I_1, m_1, hI_1, hR_1⟩ := hM
  refine HW.loop (S := Int) (fun n_1 f h => ∃ (F' : Fz), f 2 = .int .i64 0 ∧ f 3 = .int .i64 0 ∧ f 6 = vvals ∧ f 7 = .int .i64 (vals.length : Int) ∧ f 8 = .int .i64 n_1 ∧ Kp F h0 F' h ∧ St F' (fr) h ∧ (SliceF F' h 1 encI vvals vals) ∧ I_1 n_1) m_1 0 ⟨F, rfl, rfl, rfl, rfl, rfl, hK, hS, hL_vals, hI_1⟩ ?_
  rintro n_1 f_1 h_1 ⟨F_1, e2, e3, e6, e7, e8, hK, hS, hL_vals, hI0⟩
  obtain ⟨K_1, hKe_1⟩ : ∃ K : Int → Prop, K = fun n_1' => I_1 n_1' ∧ m_1 n_1' < m_1 n_1 := ⟨_, rfl⟩
  have hM : cmp_Or_int_l1 vals Q K_1 n_1 := by rw [hKe_1]; exact hR_1 n_1 hI0
  unfold cmp_Or_int_l1 at hM
  refine HW.fr [(2, .int .i64 0), (3, .int .i64 0), (6, vvals), (7, .int .i64 (vals.length : Int)), (8, .int .i64 n_1)] ⟨e2, e3, e6, e7, e8, trivial⟩ ?_
  refine HW.seq ?_
  refine HW.region ?_
  refine HO.val (v := .bool (decide (n_1 < (vals.length : Int)))) (want_none) rfl (q_lss rfl rfl) ?_
  refine HO.nil (thenQ_normal (?_))
  refine HW.seq ?_
  refine HW.cond (decide (n_1 < (vals.length : Int))) rfl (fun c_1 => ?_) (fun c_1 => ?_)
  · replace hM := hM.1 (of_decide_eq_true c_1)
    refine HW.skip (thenQ_normal (?_))
    refine HW.seq ?_
    refine HW.block ?_
    refine HW.seq ?_
    refine HW.region ?_
    obtain ⟨ho_1, hM⟩ := hM
    refine HO.val (v := elemPtr 1 vvals (n_1).toNat) (want_none) rfl (q_idx ts_68 hL_vals.is rfl rfl ho_1) ?_
    refine HO.val (v := .int .i64 (gi vals n_1)) (want_none) rfl (q_ldElem to_3 hL_vals.is rfl ho_1 rfl) ?_
    refine HO.val (v := .int .i64 (gi vals n_1)) (want_none) rfl (q_assign rfl) ?_
    refine HO.nil (thenQ_normal (?_))
    refine HW.seq ?_
    refine HW.region ?_
    refine HO.val (v := .int .i64 (gi vals n_1)) (want_none) rfl (q_move rfl) ?_
    refine HO.val (v := .int .i64 0) (want_none) rfl (q_move rfl) ?_
    refine HO.val (v := .bool (!decide ((gi vals n_1) = 0))) (want_none) rfl (q_neq rfl rfl) ?_
    refine HO.nil (thenQ_normal (?_))
    refine HW.cond (!decide ((gi vals n_1) = 0)) rfl (fun c_2 => ?_) (fun c_2 => ?_)
    · replace hM := hM.1 (nd_true c_2)
      refine HW.seq ?_
      refine HW.region ?_
      refine HO.val (v := .int .i64 (gi vals n_1)) (want_none) rfl (q_move rfl) ?_
      refine HO.val (v := .int .i64 (gi vals n_1)) (want_none) rfl (q_assign rfl) ?_
      refine HO.nil (thenQ_normal (?_))
      refine HW.ret (blockQ_ret (thenQ_ret (thenQ_ret (blockQ_ret (thenQ_ret (?_))))))
      refine ⟨.inr rfl, .int .i64 (gi vals n_1), res1 rfl (rt rfl), ?_⟩
      exact ⟨F_1, (gi vals n_1), rfl, hK, hS, hL_vals, hM⟩
    · replace hM := hM.2 (nd_false c_2)
      refine HW.skip (blockQ_normal (thenQ_normal (?_)))
      refine HW.region ?_
      obtain ⟨ho_2, hM⟩ := hM
      refine HO.val (v := .int .i64 (n_1 + 1)) (want_none) rfl (q_addN _ rfl rfl rfl ho_2.1 ho_2.2) ?_
      refine HO.val (v := .int .i64 (n_1 + 1)) (want_none) rfl (q_move rfl) ?_
      refine HO.nil (thenQ_normal (?_))
      rw [hKe_1] at hM
      exact ⟨n_1 + 1, ⟨F_1, rfl, rfl, rfl, rfl, rfl, hK, hS, hL_vals, hM.1⟩, hM.2⟩
  · replace hM := hM.2 (of_decide_eq_false c_1)
    refine HW.exit (thenQ_exit (thenQ_exit (blockQ_exit (thenQ_normal (?_)))))
    refine HW.seq ?_
    refine HW.region ?_
    refine HO.val (v := .int .i64 0) (want_none) rfl (q_move rfl) ?_
    refine HO.val (v := .int .i64 0) (want_none) rfl (q_assign rfl) ?_
    refine HO.nil (thenQ_normal (?_))
    refine HW.ret (?_)
    refine ⟨.inr rfl, .int .i64 0, res1 rfl (rt rfl), ?_⟩
    exact ⟨F_1, 0, rfl, hK, hS, hL_vals, hM⟩

def clock_Clock_before_int_W (c_at : List (Int × Int)) (a : Int) (b : Int) (Q : Int → Prop) : Prop :=
  cmp_Compare_int_W (mget0 c_at a) (mget0 c_at b) (fun r_2 => cmp_Compare_int_W a b (fun r_3 => cmp_Or_int_W ([r_2, r_3] : List Int) (fun r_4 => Q r_4)))
set_option maxHeartbeats 40000000 in
set_option maxRecDepth 100000 in
theorem clock_Clock_before_int_walk {F : Fz} {fr : List Ow} {h0 : Heap} (c_at : List (Int × Int)) (a : Int) (b : Int) (bc : Nat) (rc_at : Nat) (hS : St F (fr) h0) (hM_rc_at : RoF (Ow.map rc_at kI kI c_at) F h0) (hB_bc : RoF (Ow.box bc 106 #[.map (some rc_at)]) F h0) {Q : Int → Prop} (hM : clock_Clock_before_int_W c_at a b Q) :
    HC Try.prog 72 #[.pointer (some ⟨bc, 0, none⟩), .int .i64 a, .int .i64 b] h0 fun u h' => ∃ (F' : Fz) (r_1 : Int), u = .int .i64 r_1 ∧ Kp F h0 F' h' ∧ St F' (fr) h' ∧ (RoF (Ow.map rc_at kI kI c_at) F' h') ∧ (RoF (Ow.box bc 106 #[.map (some rc_at)]) F' h') ∧ Q r_1 := by
  unfold clock_Clock_before_int_W at hM
  have hK := Kp.refl F h0
  refine HC.of_HW (n := 25) Try.func72 rfl rfl (Nat.le_of_ble_eq_true rfl) ?_
  refine HW.seq ?_
  refine HW.region ?_
  refine HO.val (v := .int .i64 0) (want_none) rfl (q_assign rfl) ?_
  refine HO.nil (thenQ_normal (?_))
  refine HW.seq ?_
  refine HW.regionA 19 mixed (fun h => (MapIs h rc_at kI kI c_at) ∧ (Blk h bc (.cells #[.map (some rc_at)] 106 (0, 0)))) [] (by kernel_rfl) ?_
  refine HA.val (k := 0) (v := .pointer (some ⟨bc, 0, none⟩)) rfl rfl (by kernel_rfl) (by kernel_rfl) (want_none) rfl (fun _ ⟨hM_rc_at, hB_bc⟩ => q_move rfl) ?_
  refine HA.val (k := 1) (v := .pointer (some ⟨bc, 0, none⟩)) rfl rfl (by kernel_rfl) (by kernel_rfl) (want_none) rfl (fun _ ⟨hM_rc_at, hB_bc⟩ => q_nilCheck rfl) ?_
  refine HA.val (k := 2) (v := .pointer (some ⟨bc, 0, none⟩)) rfl rfl (by kernel_rfl) (by kernel_rfl) (want_none) rfl (fun _ ⟨hM_rc_at, hB_bc⟩ => q_fieldAddr fa_106_0 rfl rfl) ?_
  refine HA.val (k := 3) (v := .map (some rc_at)) rfl rfl (by kernel_rfl) (by kernel_rfl) (want_none) rfl (fun _ ⟨hM_rc_at, hB_bc⟩ => q_load to_104 rfl (Blk.cell hB_bc rfl)) ?_
  refine HA.val (k := 4) (v := .int .i64 a) rfl rfl (by kernel_rfl) (by kernel_rfl) (want_none) rfl (fun _ ⟨hM_rc_at, hB_bc⟩ => q_move rfl) ?_
  refine HA.val (k := 5) (v := .int .i64 (mget0 c_at a)) rfl rfl (by kernel_rfl) (by kernel_rfl) (want_none) rfl (fun _ ⟨hM_rc_at, hB_bc⟩ => (q_lookup (k := a) ka_3 tmk_104 hM_rc_at rfl rfl).of_eq (mval0 (z := .int .i64 0) rfl)) ?_
  refine HA.val (k := 6) (v := .pointer (some ⟨bc, 0, none⟩)) rfl rfl (by kernel_rfl) (by kernel_rfl) (want_none) rfl (fun _ ⟨hM_rc_at, hB_bc⟩ => q_move rfl) ?_
  refine HA.val (k := 7) (v := .pointer (some ⟨bc, 0, none⟩)) rfl rfl (by kernel_rfl) (by kernel_rfl) (want_none) rfl (fun _ ⟨hM_rc_at, hB_bc⟩ => q_nilCheck rfl) ?_
  refine HA.val (k := 8) (v := .pointer (some ⟨bc, 0, none⟩)) rfl rfl (by kernel_rfl) (by kernel_rfl) (want_none) rfl (fun _ ⟨hM_rc_at, hB_bc⟩ => q_fieldAddr fa_106_0 rfl rfl) ?_
  refine HA.val (k := 9) (v := .map (some rc_at)) rfl rfl (by kernel_rfl) (by kernel_rfl) (want_none) rfl (fun _ ⟨hM_rc_at, hB_bc⟩ => q_load to_104 rfl (Blk.cell hB_bc rfl)) ?_
  refine HA.val (k := 10) (v := .int .i64 b) rfl rfl (by kernel_rfl) (by kernel_rfl) (want_none) rfl (fun _ ⟨hM_rc_at, hB_bc⟩ => q_move rfl) ?_
  refine HA.val (k := 11) (v := .int .i64 (mget0 c_at b)) rfl rfl (by kernel_rfl) (by kernel_rfl) (want_none) rfl (fun _ ⟨hM_rc_at, hB_bc⟩ => (q_lookup (k := b) ka_3 tmk_104 hM_rc_at rfl rfl).of_eq (mval0 (z := .int .i64 0) rfl)) ?_
  refine HA.val (k := 13) (v := .int .i64 a) rfl rfl (by kernel_rfl) (by kernel_rfl) (want_none) rfl (fun _ ⟨hM_rc_at, hB_bc⟩ => q_move rfl) ?_
  refine HA.val (k := 14) (v := .int .i64 b) rfl rfl (by kernel_rfl) (by kernel_rfl) (want_none) rfl (fun _ ⟨hM_rc_at, hB_bc⟩ => q_move rfl) ?_
  refine HA.one (k := 12) ⟨⟨hM_rc_at.mp, hB_bc.box⟩, (Go.Wk.at_nil _ _)⟩ (by kernel_rfl) ?_
  refine HS.call rfl (want_none) rfl (ec en_66 rfl rfl) (cmp_Compare_int_walk (fr := (fr)) (mget0 c_at a) (mget0 c_at b) hS hM) ?_
  rintro _ h_1 ⟨F_1, r_2, rfl, hk, hS, hM⟩
  replace hK := hK.trans hk
  replace hM_rc_at := hM_rc_at.kp hk
  replace hB_bc := hB_bc.kp hk
  refine HA.one (k := 15) ⟨⟨hM_rc_at.mp, hB_bc.box⟩, (Go.Wk.at_nil _ _)⟩ (by kernel_rfl) ?_
  refine HS.call rfl (want_none) rfl (ec en_66 rfl rfl) (cmp_Compare_int_walk (fr := (fr)) a b hS hM) ?_
  rintro _ h_2 ⟨F_2, r_3, rfl, hk, hS, hM⟩
  replace hK := hK.trans hk
  replace hM_rc_at := hM_rc_at.kp hk
  replace hB_bc := hB_bc.kp hk
  refine HA.one (k := 16) ⟨⟨hM_rc_at.mp, hB_bc.box⟩, (Go.Wk.at_nil _ _)⟩ (by kernel_rfl) ?_
  refine HS.eff rfl (want_none) rfl (st_lit (enc := encI) (cells := #[.int .i64 r_2, .int .i64 r_3]) #[.int .i64 0, .int .i64 0] ([r_2, r_3] : List Int) hS tl_68 (by decide) (by decide) (by kernel_rfl) (by kernel_rfl) rfl (by intro x hx; rfl) rfl) ?_
  rintro _ h_3 ⟨b_1, rfl, hS, hk⟩
  replace hK := hK.trans hk
  replace hM_rc_at := hM_rc_at.kp hk
  replace hB_bc := hB_bc.kp hk
  refine HA.one (k := 17) ⟨⟨hM_rc_at.mp, hB_bc.box⟩, (Go.Wk.at_nil _ _)⟩ (by kernel_rfl) ?_
  have hZ_1 := hS
  have hkz_1 := (hS.freeze).2
  replace hS := hS.freeze.1
  have hL_1 : SliceF (fun b => F_2 b ∨ (Ow.own 3 1 encI (.slice (some ⟨b_1, 0, none⟩) 2 2) ([r_2, r_3] : List Int)).foot b) h_3 1 encI (.slice (some ⟨b_1, 0, none⟩) 2 2) ([r_2, r_3] : List Int) := ⟨(hZ_1.own 0 rfl).slice, fun _ b hb => .inr hb⟩
  refine HS.call rfl (want_none) rfl (ec en_65 rfl rfl) (cmp_Or_int_walk (fr := (fr)) ([r_2, r_3] : List Int) (.slice (some ⟨b_1, 0, none⟩) 2 2) hS hL_1 hM) ?_
  rintro _ h_4 ⟨F_3, r_4, rfl, hk, hS, _, hM⟩
  obtain ⟨hS, hk⟩ := hZ_1.back hk hS
  generalize (fun b => F_3 b ∧ ¬ (Ow.own 3 1 encI (.slice (some ⟨b_1, 0, none⟩) 2 2) ([r_2, r_3] : List Int)).foot b) = F_4 at hS hk
  replace hK := hK.trans hk
  replace hM_rc_at := hM_rc_at.kp hk
  replace hB_bc := hB_bc.kp hk
  refine HA.val (k := 18) (v := .int .i64 r_4) rfl rfl (by kernel_rfl) (by kernel_rfl) (want_none) rfl (fun _ ⟨hM_rc_at, hB_bc⟩ => q_assign rfl) ?_
  refine HA.nil ⟨⟨hM_rc_at.mp, hB_bc.box⟩, (Go.Wk.at_nil _ _)⟩ (by kernel_rfl) (thenQ_normal (?_))
  refine HW.ret (?_)
  refine ⟨.inr rfl, .int .i64 r_4, res1 rfl (rt rfl), ?_⟩
  replace hS : St F_4 (fr) h_4 := hS.perm2 [] 1 rfl rfl
  exact ⟨F_4, r_4, rfl, hK, hS, hM_rc_at, hB_bc, hM⟩

def clock_Clock_due_int_l1 (c_at : List (Int × Int)) (now : Int) (Q : (List Int) → (List (Int × Int)) → Prop) (K_1 : (List (Int × Int)) → (List Int) → Prop) (rem_1 : List (Int × Int)) (out_1 : List Int) : Prop :=
  (rem_1 = [] → ∃ cf_1 : Int → Int → Int, (∀ x0 x1, clock_Clock_before_int_W c_at x0 x1 (fun r => r = cf_1 x0 x1)) ∧ (slices_SortFunc_s_int_int_W out_1 cf_1 (fun x_1 => Q x_1 c_at))) ∧ (∀ (p_1 : Int × Int) (rem_2 : List (Int × Int)), List.Perm rem_1 (p_1 :: rem_2) → (p_1.2 ≤ now → ((out_1.length + ([p_1.1] : List Int).length) * 8 ≤ 140737488355328) ∧ (K_1 rem_2 (out_1 ++ ([p_1.1] : List Int)))) ∧ (¬ (p_1.2 ≤ now) → K_1 rem_2 out_1))
def clock_Clock_due_int_W (c_at : List (Int × Int)) (now : Int) (Q : (List Int) → (List (Int × Int)) → Prop) : Prop :=
  loopW (fun (K_1 : ((List (Int × Int)) × List Int) → Prop) (s : (List (Int × Int)) × List Int) => clock_Clock_due_int_l1 c_at now Q (fun rem_1 out_1 => K_1 (rem_1, out_1)) s.1 s.2) (c_at, [])
set_option maxHeartbeats 40000000 in
set_option maxRecDepth 100000 in
theorem clock_Clock_due_int_walk {F : Fz} {fr : List Ow} {h0 : Heap} (c_at : List (Int × Int)) (now : Int) (bc : Nat) (rc_at : Nat) (hS : St F (Ow.box bc 106 #[.map (some rc_at)] :: Ow.map rc_at kI kI c_at :: fr) h0)  {Q : (List Int) → (List (Int × Int)) → Prop} (hM : clock_Clock_due_int_W c_at now Q) :
    HC Try.prog 79 #[.pointer (some ⟨bc, 0, none⟩), .int .i64 now] h0 fun u h' => ∃ (F' : Fz) (r_1 : List Int) (cm_1 : List (Int × Int)) (vr_1 : Value), u = vr_1 ∧ Kp F h0 F' h' ∧ St F' (Ow.own 3 1 encI vr_1 r_1 :: Ow.box bc 106 #[.map (some rc_at)] :: Ow.map rc_at kI kI cm_1 :: fr) h' ∧ Q r_1 cm_1 := by
  unfold clock_Clock_due_int_W at hM
  have hK := Kp.refl F h0
  refine HC.of_HW (n := 32) Try.func79 rfl rfl (Nat.le_of_ble_eq_true rfl) ?_
  refine HW.seq ?_
  refine HW.region ?_
  refine HO.val (v := .slice none 0 0) (want_none) rfl (q_assign rfl) ?_
  refine HO.nil (thenQ_normal (?_))
  refine HW.seq ?_
  refine HW.region ?_
  refine HO.val (v := .slice none 0 0) (want_none) rfl (q_assign rfl) ?_
  refine HO.nil (thenQ_normal (?_))
  refine HW.seq ?_
  refine HW.seq ?_
  refine HW.region ?_
  refine HO.val (v := .pointer (some ⟨bc, 0, none⟩)) (want_none) rfl (q_move rfl) ?_
  refine HO.val (v := .bool false) (want_none) rfl (q_eqlPnil Try.underlying90 rfl rfl rfl) ?_
  refine HO.nil (thenQ_normal (?_))
  refine HW.condF rfl ?_
  refine HW.skip (thenQ_normal (?_))
  refine HW.seq ?_
  refine HW.seq ?_
  refine HW.region ?_
  refine HO.val (v := .pointer (some ⟨bc, 0, none⟩)) (want_none) rfl (q_move rfl) ?_
  refine HO.val (v := .pointer (some ⟨bc, 0, none⟩)) (want_none) rfl (q_nilCheck rfl) ?_
  refine HO.val (v := .pointer (some ⟨bc, 0, none⟩)) (want_none) rfl (q_fieldAddr fa_106_0 rfl rfl) ?_
  refine HO.val (v := .map (some rc_at)) (want_none) rfl (q_load to_104 rfl (Blk.cell (hS.box 0 rfl) rfl)) ?_
  refine HO.eff (want_none) rfl (st_range hS (i := 1) rfl Try.underlying104 rfl) ?_
  rintro _ h_1 ⟨it_1, rfl, hS, hk⟩
  replace hS : St F (Ow.box bc 106 #[.map (some rc_at)] :: Ow.iter it_1 rc_at kI kI c_at c_at :: fr) h_1 := hS
  replace hK := hK.trans hk
  refine HO.nil (thenQ_normal (?_))
  refine HW.block ?_
  obtain ⟨I_1, m_1, hI_1, hR_1⟩ := hM
  replace hS := hS.nilOwn 3 1 encI
  replace hS : St F (Ow.box bc 106 #[.map (some rc_at)] :: Ow.iter it_1 rc_at kI kI c_at c_at :: Ow.own 3 1 encI (.slice none 0 0) ([] : List Int) :: fr) h_1 := hS.perm2 [1, 2, 0] 3 rfl rfl
  refine HW.loop (S := (List (Int × Int)) × List Int) (fun s f h => match s with | (rem_1, out_1) => ∃ (F' : Fz) (vout_1 : Value), f 0 = .pointer (some ⟨bc, 0, none⟩) ∧ f 1 = .int .i64 now ∧ f 4 = .slice none 0 0 ∧ f 5 = vout_1 ∧ f 14 = .pointer (some ⟨it_1, 0, none⟩) ∧ Kp F h0 F' h ∧ St F' (Ow.box bc 106 #[.map (some rc_at)] :: Ow.iter it_1 rc_at kI kI c_at rem_1 :: Ow.own 3 1 encI vout_1 out_1 :: fr) h ∧ I_1 (rem_1, out_1)) m_1 (c_at, []) ⟨F, .slice none 0 0, rfl, rfl, rfl, rfl, rfl, hK, hS, hI_1⟩ ?_
  rintro ⟨rem_1, out_1⟩ f_1 h_2 ⟨F_1, vout_1, e0, e1, e4, e5, e14, hK, hS, hI0⟩
  obtain ⟨K_1, hKe_1⟩ : ∃ K : (List (Int × Int)) → (List Int) → Prop, K = fun rem_1' out_1' => I_1 (rem_1', out_1') ∧ m_1 (rem_1', out_1') < m_1 (rem_1, out_1) := ⟨_, rfl⟩
  have hM : clock_Clock_due_int_l1 c_at now Q K_1 rem_1 out_1 := by rw [hKe_1]; exact hR_1 (rem_1, out_1) hI0
  unfold clock_Clock_due_int_l1 at hM
  refine HW.fr [(0, .pointer (some ⟨bc, 0, none⟩)), (1, .int .i64 now), (4, .slice none 0 0), (5, vout_1), (14, .pointer (some ⟨it_1, 0, none⟩))] ⟨e0, e1, e4, e5, e14, trivial⟩ ?_
  refine HW.seq ?_
  refine HW.region ?_
  refine HO.eff (want_none) rfl (st_next hS (i := 1) rfl rfl) ?_
  rintro _ h_3 (⟨hrem, rfl, hEq⟩ | ⟨p_1, rem_2, hperm, rfl, hS, hk⟩)
  · rw [hEq]
    replace hM := hM.1 hrem
    replace hS := hS.done 1 rfl
    replace hS : St F_1 (Ow.box bc 106 #[.map (some rc_at)] :: Ow.map rc_at kI kI c_at :: Ow.own 3 1 encI vout_1 out_1 :: fr) h_2 := hS
    refine HO.val (v := .bool false) (want_none) rfl (q_extract rfl rfl) ?_
    refine HO.nil (thenQ_normal (?_))
    refine HW.seq ?_
    refine HW.condF rfl ?_
    refine HW.exit (thenQ_exit (thenQ_exit (blockQ_exit (thenQ_normal (?_)))))
    refine HW.seq ?_
    refine HW.region ?_
    refine HO.val (v := vout_1) (want_none) rfl (q_move rfl) ?_
    refine HO.val (v := .pointer (some ⟨bc, 0, none⟩)) (want_none) rfl (q_move rfl) ?_
    refine HO.val (v := .func (.func 72) #[.pointer (some ⟨bc, 0, none⟩)] #[]) (want_none) rfl (q_makeFunc rfl rfl) ?_
    have hZ_1 := hS
    have hkz_1 := (hS.freeze).2
    replace hS := hS.freeze.1
    have hL_1 := hZ_1.lent
    have hZ_2 := hS
    have hkz_2 := (hS.freeze).2
    replace hS := hS.freeze.1
    have hL_2 := hZ_2.lent
    replace hL_1 := hL_1.kp hkz_2
    obtain ⟨cf_1, hc_1, hM⟩ := hM
    have hF_1 : FnP Try.prog (fun b => (fun b => F_1 b ∨ (Ow.box bc 106 #[.map (some rc_at)]).foot b) b ∨ (Ow.map rc_at kI kI c_at).foot b) h_2 72 #[.pointer (some ⟨bc, 0, none⟩)] #[] (fun x : Int × Int => [.int .i64 x.1, .int .i64 x.2]) (fun x => .int .i64 (cf_1 x.1 x.2)) := FnP.of en_72 (fun x h' hk_ => @HC.mono ⟨true⟩ _ _ _ _ _ _ (@clock_Clock_before_int_walk ⟨true⟩ (allF h') [] h' c_at x.1 x.2 bc rc_at (St.init h') (hL_2.kp hk_) (hL_1.kp hk_) (fun r => r = cf_1 x.1 x.2) (hc_1 x.1 x.2)) (fun u h'' ⟨F', r, hu, k_, _, _, _, hr⟩ => ⟨by rw [hu, hr], F', k_⟩))
    refine HO.call (want_none) rfl (ec en_99 rfl rfl) (slices_SortFunc_s_int_int_walk (fr := (fr)) out_1 cf_1 vout_1 72 (#[.pointer (some ⟨bc, 0, none⟩)]) (#[]) hS hF_1 hM) ?_
    rintro _ h_4 ⟨F_2, x_1, rfl, hk, hS, _, hM⟩
    obtain ⟨hS, hk⟩ := hZ_2.back hk hS
    obtain ⟨hS, hk⟩ := hZ_1.back hk hS
    generalize (fun b => (fun b => F_2 b ∧ ¬ (Ow.map rc_at kI kI c_at).foot b) b ∧ ¬ (Ow.box bc 106 #[.map (some rc_at)]).foot b) = F_3 at hS hk
    replace hK := hK.trans hk
    refine HO.nil (thenQ_normal (?_))
    refine HW.seq ?_
    refine HW.region ?_
    refine HO.val (v := vout_1) (want_none) rfl (q_move rfl) ?_
    refine HO.val (v := vout_1) (want_none) rfl (q_assign rfl) ?_
    refine HO.nil (thenQ_normal (?_))
    refine HW.ret (?_)
    refine ⟨.inr rfl, vout_1, res1 rfl (rt rfl), ?_⟩
    replace hS : St F_3 (Ow.own 3 1 encI vout_1 x_1 :: Ow.box bc 106 #[.map (some rc_at)] :: Ow.map rc_at kI kI c_at :: fr) h_4 := hS.perm2 [2, 0, 1] 3 rfl rfl
    exact ⟨F_3, x_1, c_at, vout_1, rfl, hK, hS, hM⟩
  · replace hM := hM.2 p_1 rem_2 hperm
    replace hS : St F_1 (Ow.box bc 106 #[.map (some rc_at)] :: Ow.cur it_1 rc_at kI kI c_at rem_2 p_1 :: Ow.own 3 1 encI vout_1 out_1 :: fr) h_3 := hS
    replace hK := hK.trans hk
    refine HO.val (v := .bool true) (want_none) rfl (q_extract rfl rfl) ?_
    refine HO.nil (thenQ_normal (?_))
    refine HW.seq ?_
    refine HW.condT rfl ?_
    refine HW.skip (thenQ_normal (?_))
    refine HW.block ?_
    refine HW.seq ?_
    refine HW.region ?_
    refine HO.val (v := .tuple #[.int .i64 p_1.1, .int .i64 p_1.2]) (want_none) rfl (q_entry (hS.cu 1 rfl) rfl) ?_
    refine HO.val (v := .int .i64 p_1.1) (want_none) rfl (q_extract rfl rfl) ?_
    refine HO.val (v := .int .i64 p_1.2) (want_none) rfl (q_extract rfl rfl) ?_
    refine HO.val (v := .int .i64 p_1.1) (want_none) rfl (q_assign rfl) ?_
    refine HO.val (v := .int .i64 p_1.2) (want_none) rfl (q_assign rfl) ?_
    refine HO.nil (thenQ_normal (?_))
    refine HW.seq ?_
    refine HW.region ?_
    refine HO.val (v := .int .i64 p_1.2) (want_none) rfl (q_move rfl) ?_
    refine HO.val (v := .int .i64 now) (want_none) rfl (q_move rfl) ?_
    refine HO.val (v := .bool (decide (p_1.2 ≤ now))) (want_none) rfl (q_leq rfl rfl) ?_
    refine HO.nil (thenQ_normal (?_))
    refine HW.cond (decide (p_1.2 ≤ now)) rfl (fun c_1 => ?_) (fun c_1 => ?_)
    · replace hM := hM.1 (of_decide_eq_true c_1)
      refine HW.region ?_
      refine HO.val (v := vout_1) (want_none) rfl (q_move rfl) ?_
      refine HO.val (v := .int .i64 p_1.1) (want_none) rfl (q_move rfl) ?_
      refine HO.eff (want_none) rfl (st_lit (enc := encI) (cells := #[.int .i64 p_1.1]) #[.int .i64 0] ([p_1.1] : List Int) hS tl_68 (by decide) (by decide) (by kernel_rfl) (by kernel_rfl) rfl (by intro x hx; rfl) rfl) ?_
      rintro _ h_5 ⟨b_1, rfl, hS, hk⟩
      replace hK := hK.trans hk
      obtain ⟨ho_1, hM⟩ := hM
      refine HO.eff (want_none) rfl (st_append te_68 hS (i := 3) rfl (hS.own 0 rfl).slice rfl rfl rfl (by intro a _ u hu; simp [encI, encI, encN, encB, encT] at hu; subst hu; rfl) ho_1 (by omega)) ?_
      rintro v_1 h_6 ⟨hS, hk⟩
      replace hS : St F_1 (Ow.own 3 1 encI (.slice (some ⟨b_1, 0, none⟩) 1 1) ([p_1.1] : List Int) :: Ow.box bc 106 #[.map (some rc_at)] :: Ow.cur it_1 rc_at kI kI c_at rem_2 p_1 :: Ow.own 3 1 encI v_1 (out_1 ++ ([p_1.1] : List Int)) :: fr) h_6 := hS
      replace hK := hK.trans hk
      refine HO.val (v := v_1) (want_none) rfl (q_assign rfl) ?_
      refine HO.nil (blockQ_normal (thenQ_normal (?_)))
      replace hS := hS.again 2 rfl
      replace hS : St F_1 (Ow.own 3 1 encI (.slice (some ⟨b_1, 0, none⟩) 1 1) ([p_1.1] : List Int) :: Ow.box bc 106 #[.map (some rc_at)] :: Ow.iter it_1 rc_at kI kI c_at rem_2 :: Ow.own 3 1 encI v_1 (out_1 ++ ([p_1.1] : List Int)) :: fr) h_6 := hS
      replace hS : St F_1 (Ow.box bc 106 #[.map (some rc_at)] :: Ow.iter it_1 rc_at kI kI c_at rem_2 :: Ow.own 3 1 encI v_1 (out_1 ++ ([p_1.1] : List Int)) :: fr) h_6 := hS.perm2 [1, 2, 3] 4 rfl rfl
      rw [hKe_1] at hM
      exact ⟨(rem_2, out_1 ++ ([p_1.1] : List Int)), ⟨F_1, v_1, rfl, rfl, rfl, rfl, rfl, hK, hS, hM.1⟩, hM.2⟩
    · replace hM := hM.2 (of_decide_eq_false c_1)
      refine HW.skip (blockQ_normal (thenQ_normal (?_)))
      replace hS := hS.again 1 rfl
      replace hS : St F_1 (Ow.box bc 106 #[.map (some rc_at)] :: Ow.iter it_1 rc_at kI kI c_at rem_2 :: Ow.own 3 1 encI vout_1 out_1 :: fr) h_3 := hS
      rw [hKe_1] at hM
      exact ⟨(rem_2, out_1), ⟨F_1, vout_1, rfl, rfl, rfl, rfl, rfl, hK, hS, hM.1⟩, hM.2⟩

def clock_Clock_Pop_int_l1 (Q : (List Int) → (List (Int × Int)) → Prop) (r_2 : List Int) (K_1 : (List (Int × Int)) → Int → Prop) (c_0_2 : List (Int × Int)) (n_1 : Int) : Prop :=
  (n_1 < (r_2.length : Int) → ((0 : Int) ≤ n_1 ∧ n_1 < (r_2.length : Int)) ∧ ((I64 (n_1 + 1)) ∧ (K_1 (mdel c_0_2 (gi r_2 n_1)) (n_1 + 1)))) ∧ (¬ (n_1 < (r_2.length : Int)) → Q r_2 c_0_2)
def clock_Clock_Pop_int_W (c_at : List (Int × Int)) (now : Int) (Q : (List Int) → (List (Int × Int)) → Prop) : Prop :=
  clock_Clock_due_int_W c_at now (fun r_2 cm_2 => loopW (fun (K_1 : ((List (Int × Int)) × Int) → Prop) (s : (List (Int × Int)) × Int) => clock_Clock_Pop_int_l1 Q r_2 (fun c_0_2 n_1 => K_1 (c_0_2, n_1)) s.1 s.2) (cm_2, 0))
set_option maxHeartbeats 40000000 in
set_option maxRecDepth 100000 in
theorem clock_Clock_Pop_int_walk {F : Fz} {fr : List Ow} {h0 : Heap} (c_at : List (Int × Int)) (now : Int) (bc : Nat) (rc_at : Nat) (hS : St F (Ow.box bc 106 #[.map (some rc_at)] :: Ow.map rc_at kI kI c_at :: fr) h0)  {Q : (List Int) → (List (Int × Int)) → Prop} (hM : clock_Clock_Pop_int_W c_at now Q) :
    HC Try.prog 71 #[.pointer (some ⟨bc, 0, none⟩), .int .i64 now] h0 fun u h' => ∃ (F' : Fz) (r_1 : List Int) (cm_1 : List (Int × Int)) (vr_1 : Value), u = vr_1 ∧ Kp F h0 F' h' ∧ St F' (Ow.own 3 1 encI vr_1 r_1 :: Ow.box bc 106 #[.map (some rc_at)] :: Ow.map rc_at kI kI cm_1 :: fr) h' ∧ Q r_1 cm_1 := by
  unfold clock_Clock_Pop_int_W at hM
  have hK := Kp.refl F h0
  refine HC.of_HW (n := 24) Try.func71 rfl rfl (Nat.le_of_ble_eq_true rfl) ?_
  refine HW.seq ?_
  refine HW.region ?_
  refine HO.val (v := .slice none 0 0) (want_none) rfl (q_assign rfl) ?_
  refine HO.nil (thenQ_normal (?_))
  refine HW.seq ?_
  refine HW.region ?_
  refine HO.val (v := .pointer (some ⟨bc, 0, none⟩)) (want_none) rfl (q_move rfl) ?_
  refine HO.val (v := .int .i64 now) (want_none) rfl (q_move rfl) ?_
  refine HO.call (want_none) rfl (ec en_79 rfl rfl) (clock_Clock_due_int_walk (fr := (fr)) c_at now bc rc_at hS hM) ?_
  rintro vr_2 h_1 ⟨F_1, r_2, cm_2, _, rfl, hk, hS, hM⟩
  replace hK := hK.trans hk
  refine HO.val (v := vr_2) (want_none) rfl (q_assign rfl) ?_
  refine HO.nil (thenQ_normal (?_))
  refine HW.seq ?_
  refine HW.seq ?_
  refine HW.region ?_
  refine HO.val (v := vr_2) (want_none) rfl (q_move rfl) ?_
  refine HO.val (v := .int .i64 (r_2.length : Int)) (want_none) rfl (q_len ts_68 (shp (hS.own 0 rfl).slice) rfl rfl) ?_
  refine HO.val (v := .int .i64 0) (want_none) rfl (q_move rfl) ?_
  refine HO.nil (thenQ_normal (?_))
  refine HW.block ?_
  obtain ⟨I_1, m_1, hI_1, hR_1⟩ := hM
  replace hS : St F_1 (Ow.box bc 106 #[.map (some rc_at)] :: Ow.map rc_at kI kI cm_2 :: Ow.own 3 1 encI vr_2 r_2 :: fr) h_1 := hS.perm2 [1, 2, 0] 3 rfl rfl
  refine HW.loop (S := (List (Int × Int)) × Int) (fun s f h => match s with | (c_0_2, n_1) => ∃ (F' : Fz), f 0 = .pointer (some ⟨bc, 0, none⟩) ∧ f 4 = .slice none 0 0 ∧ f 5 = vr_2 ∧ f 11 = vr_2 ∧ f 12 = .int .i64 (r_2.length : Int) ∧ f 13 = .int .i64 n_1 ∧ Kp F h0 F' h ∧ St F' (Ow.box bc 106 #[.map (some rc_at)] :: Ow.map rc_at kI kI c_0_2 :: Ow.own 3 1 encI vr_2 r_2 :: fr) h ∧ I_1 (c_0_2, n_1)) m_1 (cm_2, 0) ⟨F_1, rfl, rfl, rfl, rfl, rfl, rfl, hK, hS, hI_1⟩ ?_
  rintro ⟨c_0_2, n_1⟩ f_1 h_2 ⟨F_2, e0, e4, e5, e11, e12, e13, hK, hS, hI0⟩
  obtain ⟨K_1, hKe_1⟩ : ∃ K : (List (Int × Int)) → Int → Prop, K = fun c_0_2' n_1' => I_1 (c_0_2', n_1') ∧ m_1 (c_0_2', n_1') < m_1 (c_0_2, n_1) := ⟨_, rfl⟩
  have hM : clock_Clock_Pop_int_l1 Q r_2 K_1 c_0_2 n_1 := by rw [hKe_1]; exact hR_1 (c_0_2, n_1) hI0
  unfold clock_Clock_Pop_int_l1 at hM
  refine HW.fr [(0, .pointer (some ⟨bc, 0, none⟩)), (4, .slice none 0 0), (5, vr_2), (11, vr_2), (12, .int .i64 (r_2.length : Int)), (13, .int .i64 n_1)] ⟨e0, e4, e5, e11, e12, e13, trivial⟩ ?_
  refine HW.seq ?_
  refine HW.region ?_
  refine HO.val (v := .bool (decide (n_1 < (r_2.length : Int)))) (want_none) rfl (q_lss rfl rfl) ?_
  refine HO.nil (thenQ_normal (?_))
  refine HW.seq ?_
  refine HW.cond (decide (n_1 < (r_2.length : Int))) rfl (fun c_1 => ?_) (fun c_1 => ?_)
  · replace hM := hM.1 (of_decide_eq_true c_1)
    refine HW.skip (thenQ_normal (?_))
    refine HW.seq ?_
    refine HW.block ?_
    refine HW.seq ?_
    refine HW.region ?_
    obtain ⟨ho_1, hM⟩ := hM
    refine HO.val (v := elemPtr 1 vr_2 (n_1).toNat) (want_none) rfl (q_idx ts_68 (hS.own 2 rfl).slice rfl rfl ho_1) ?_
    refine HO.val (v := .int .i64 (gi r_2 n_1)) (want_none) rfl (q_ldElem to_3 (hS.own 2 rfl).slice rfl ho_1 rfl) ?_
    refine HO.val (v := .int .i64 (gi r_2 n_1)) (want_none) rfl (q_assign rfl) ?_
    refine HO.nil (thenQ_normal (?_))
    refine HW.region ?_
    refine HO.val (v := .pointer (some ⟨bc, 0, none⟩)) (want_none) rfl (q_move rfl) ?_
    refine HO.val (v := .pointer (some ⟨bc, 0, none⟩)) (want_none) rfl (q_nilCheck rfl) ?_
    refine HO.val (v := .pointer (some ⟨bc, 0, none⟩)) (want_none) rfl (q_fieldAddr fa_106_0 rfl rfl) ?_
    refine HO.val (v := .map (some rc_at)) (want_none) rfl (q_load to_104 rfl (Blk.cell (hS.box 0 rfl) rfl)) ?_
    refine HO.val (v := .int .i64 (gi r_2 n_1)) (want_none) rfl (q_move rfl) ?_
    refine HO.eff (want_none) rfl (st_deleteK (k := (gi r_2 n_1)) hS (i := 1) rfl ka_3 tmk_104 rfl rfl rfl) ?_
    rintro _ h_3 ⟨rfl, hS, hk⟩
    replace hS : St F_2 (Ow.box bc 106 #[.map (some rc_at)] :: Ow.map rc_at kI kI (mdel c_0_2 (gi r_2 n_1)) :: Ow.own 3 1 encI vr_2 r_2 :: fr) h_3 := hS
    replace hK := hK.trans hk
    refine HO.nil (blockQ_normal (thenQ_normal (?_)))
    refine HW.region ?_
    obtain ⟨ho_2, hM⟩ := hM
    refine HO.val (v := .int .i64 (n_1 + 1)) (want_none) rfl (q_addN _ rfl rfl rfl ho_2.1 ho_2.2) ?_
    refine HO.val (v := .int .i64 (n_1 + 1)) (want_none) rfl (q_move rfl) ?_
    refine HO.nil (thenQ_normal (?_))
    rw [hKe_1] at hM
    exact ⟨(mdel c_0_2 (gi r_2 n_1), n_1 + 1), ⟨F_2, rfl, rfl, rfl, rfl, rfl, rfl, hK, hS, hM.1⟩, hM.2⟩
  · replace hM := hM.2 (of_decide_eq_false c_1)
    refine HW.exit (thenQ_exit (thenQ_exit (blockQ_exit (thenQ_normal (?_)))))
    refine HW.seq ?_
    refine HW.region ?_
    refine HO.val (v := vr_2) (want_none) rfl (q_move rfl) ?_
    refine HO.val (v := vr_2) (want_none) rfl (q_assign rfl) ?_
    refine HO.nil (thenQ_normal (?_))
    refine HW.ret (?_)
    refine ⟨.inr rfl, vr_2, res1 rfl (rt rfl), ?_⟩
    replace hS : St F_2 (Ow.own 3 1 encI vr_2 r_2 :: Ow.box bc 106 #[.map (some rc_at)] :: Ow.map rc_at kI kI c_0_2 :: fr) h_2 := hS.perm2 [2, 0, 1] 3 rfl rfl
    exact ⟨F_2, r_2, c_0_2, vr_2, rfl, hK, hS, hM⟩

def route_Routes_settle_W (r_now : Int) (r_till_at : List (Int × Int)) (r_fixed : List Bool) (now : Int) (Q : Int → Int → (List (Int × Int)) → (List Bool) → Prop) : Prop :=
  clock_Clock_Pop_int_W r_till_at (max r_now (min now 1000000000000)) (fun r_2 cm_1 => Q (max r_now (min now 1000000000000)) (max r_now (min now 1000000000000)) cm_1 r_fixed)
set_option maxHeartbeats 40000000 in
set_option maxRecDepth 100000 in
theorem route_Routes_settle_walk {F : Fz} {fr : List Ow} {h0 : Heap} (r_now : Int) (r_till_at : List (Int × Int)) (r_fixed : List Bool) (now : Int) (br : Nat) (br_till : Nat) (rr_till_at : Nat) (vr_fixed : Value) (hS : St F (Ow.box br 94 #[.int .i64 r_now, .pointer (some ⟨br_till, 0, none⟩), vr_fixed] :: Ow.box br_till 106 #[.map (some rr_till_at)] :: Ow.map rr_till_at kI kI r_till_at :: Ow.own 4 1 encB vr_fixed r_fixed :: fr) h0)  {Q : Int → Int → (List (Int × Int)) → (List Bool) → Prop} (hM : route_Routes_settle_W r_now r_till_at r_fixed now Q) :
    HC Try.prog 56 #[.pointer (some ⟨br, 0, none⟩), .int .i64 now] h0 fun u h' => ∃ (F' : Fz) (r_1 : Int) (r_now_1 : Int) (rm_1 : List (Int × Int)) (r_fixed_1 : List Bool) (v_1 : Value), u = .int .i64 r_1 ∧ Kp F h0 F' h' ∧ St F' (Ow.box br 94 #[.int .i64 r_now_1, .pointer (some ⟨br_till, 0, none⟩), v_1] :: Ow.box br_till 106 #[.map (some rr_till_at)] :: Ow.map rr_till_at kI kI rm_1 :: Ow.own 4 1 encB v_1 r_fixed_1 :: fr) h' ∧ Q r_1 r_now_1 rm_1 r_fixed_1 := by
  unfold route_Routes_settle_W at hM
  have hK := Kp.refl F h0
  refine HC.of_HW (n := 28) Try.func56 rfl rfl (Nat.le_of_ble_eq_true rfl) ?_
  refine HW.seq ?_
  refine HW.region ?_
  refine HO.val (v := .int .i64 0) (want_none) rfl (q_assign rfl) ?_
  refine HO.nil (thenQ_normal (?_))
  refine HW.seq ?_
  refine HW.region ?_
  refine HO.val (v := .pointer (some ⟨br, 0, none⟩)) (want_none) rfl (q_move rfl) ?_
  refine HO.val (v := .pointer (some ⟨br, 0, none⟩)) (want_none) rfl (q_move rfl) ?_
  refine HO.val (v := .pointer (some ⟨br, 0, none⟩)) (want_none) rfl (q_nilCheck rfl) ?_
  refine HO.val (v := .pointer (some ⟨br, 0, none⟩)) (want_none) rfl (q_fieldAddr fa_94_0 rfl rfl) ?_
  refine HO.val (v := .int .i64 r_now) (want_none) rfl (q_load to_3 rfl (Blk.cell (hS.box 0 rfl) rfl)) ?_
  refine HO.val (v := .int .i64 now) (want_none) rfl (q_move rfl) ?_
  refine HO.val (v := .int .i64 (min now 1000000000000)) (want_none) rfl (q_min rfl rfl) ?_
  refine HO.val (v := .int .i64 (max r_now (min now 1000000000000))) (want_none) rfl (q_max rfl rfl) ?_
  refine HO.val (v := .pointer (some ⟨br, 0, none⟩)) (want_none) rfl (q_nilCheck rfl) ?_
  refine HO.val (v := .pointer (some ⟨br, 0, none⟩)) (want_none) rfl (q_fieldAddr fa_94_0 rfl rfl) ?_
  refine HO.sto (want_none) rfl (st_store (c' := #[.int .i64 (max r_now (min now 1000000000000)), .pointer (some ⟨br_till, 0, none⟩), vr_fixed]) hS (i := 0) rfl to_3 rfl rfl rfl rfl (Nat.le_of_ble_eq_true rfl) rfl) ?_
  rintro h_1 ⟨hS, hk⟩
  replace hS : St F (Ow.box br 94 #[.int .i64 (max r_now (min now 1000000000000)), .pointer (some ⟨br_till, 0, none⟩), vr_fixed] :: Ow.box br_till 106 #[.map (some rr_till_at)] :: Ow.map rr_till_at kI kI r_till_at :: Ow.own 4 1 encB vr_fixed r_fixed :: fr) h_1 := hS
  replace hK := hK.trans hk
  refine HO.nil (thenQ_normal (?_))
  refine HW.seq ?_
  refine HW.regionA 9 mixed (fun h => (Blk h br (.cells #[.int .i64 (max r_now (min now 1000000000000)), .pointer (some ⟨br_till, 0, none⟩), vr_fixed] 94 (0, 0)))) [] (by kernel_rfl) ?_
  refine HA.val (k := 0) (v := .pointer (some ⟨br, 0, none⟩)) rfl rfl (by kernel_rfl) (by kernel_rfl) (want_none) rfl (fun _ c1 => q_move rfl) ?_
  refine HA.val (k := 1) (v := .pointer (some ⟨br, 0, none⟩)) rfl rfl (by kernel_rfl) (by kernel_rfl) (want_none) rfl (fun _ c1 => q_nilCheck rfl) ?_
  refine HA.val (k := 2) (v := .pointer (some ⟨br, 1, none⟩)) rfl rfl (by kernel_rfl) (by kernel_rfl) (want_none) rfl (fun _ c1 => q_fieldAddr fa_94_1 rfl rfl) ?_
  refine HA.val (k := 3) (v := .pointer (some ⟨br_till, 0, none⟩)) rfl rfl (by kernel_rfl) (by kernel_rfl) (want_none) rfl (fun _ c1 => q_load to_90 rfl (Blk.cell c1 rfl)) ?_
  refine HA.val (k := 4) (v := .pointer (some ⟨br, 0, none⟩)) rfl rfl (by kernel_rfl) (by kernel_rfl) (want_none) rfl (fun _ c1 => q_move rfl) ?_
  refine HA.val (k := 5) (v := .pointer (some ⟨br, 0, none⟩)) rfl rfl (by kernel_rfl) (by kernel_rfl) (want_none) rfl (fun _ c1 => q_nilCheck rfl) ?_
  refine HA.val (k := 6) (v := .pointer (some ⟨br, 0, none⟩)) rfl rfl (by kernel_rfl) (by kernel_rfl) (want_none) rfl (fun _ c1 => q_fieldAddr fa_94_0 rfl rfl) ?_
  refine HA.val (k := 7) (v := .int .i64 (max r_now (min now 1000000000000))) rfl rfl (by kernel_rfl) (by kernel_rfl) (want_none) rfl (fun _ c1 => q_load to_3 rfl (Blk.cell c1 rfl)) ?_
  refine HA.one (k := 8) ⟨(hS.box 0 rfl), (Go.Wk.at_nil _ _)⟩ (by kernel_rfl) ?_
  replace hS : St F (Ow.box br_till 106 #[.map (some rr_till_at)] :: Ow.map rr_till_at kI kI r_till_at :: Ow.box br 94 #[.int .i64 (max r_now (min now 1000000000000)), .pointer (some ⟨br_till, 0, none⟩), vr_fixed] :: Ow.own 4 1 encB vr_fixed r_fixed :: fr) h_1 := hS.perm2 [1, 2, 0, 3] 4 rfl rfl
  refine HS.call rfl (want_none) rfl (ec en_71 rfl rfl) (clock_Clock_Pop_int_walk (fr := (Ow.box br 94 #[.int .i64 (max r_now (min now 1000000000000)), .pointer (some ⟨br_till, 0, none⟩), vr_fixed] :: Ow.own 4 1 encB vr_fixed r_fixed :: fr)) r_till_at (max r_now (min now 1000000000000)) br_till rr_till_at hS hM) ?_
  rintro vr_1 h_2 ⟨F_1, r_2, cm_1, _, rfl, hk, hS, hM⟩
  replace hK := hK.trans hk
  refine HA.nil ⟨(hS.box 3 rfl), (Go.Wk.at_nil _ _)⟩ (by kernel_rfl) (thenQ_normal (?_))
  refine HW.seq ?_
  refine HW.region ?_
  refine HO.val (v := .pointer (some ⟨br, 0, none⟩)) (want_none) rfl (q_move rfl) ?_
  refine HO.val (v := .pointer (some ⟨br, 0, none⟩)) (want_none) rfl (q_nilCheck rfl) ?_
  refine HO.val (v := .pointer (some ⟨br, 0, none⟩)) (want_none) rfl (q_fieldAddr fa_94_0 rfl rfl) ?_
  refine HO.val (v := .int .i64 (max r_now (min now 1000000000000))) (want_none) rfl (q_load to_3 rfl (Blk.cell (hS.box 3 rfl) rfl)) ?_
  refine HO.val (v := .int .i64 (max r_now (min now 1000000000000))) (want_none) rfl (q_assign rfl) ?_
  refine HO.nil (thenQ_normal (?_))
  refine HW.ret (?_)
  refine ⟨.inr rfl, .int .i64 (max r_now (min now 1000000000000)), res1 rfl (rt rfl), ?_⟩
  replace hS : St F_1 (Ow.box br 94 #[.int .i64 (max r_now (min now 1000000000000)), .pointer (some ⟨br_till, 0, none⟩), vr_fixed] :: Ow.box br_till 106 #[.map (some rr_till_at)] :: Ow.map rr_till_at kI kI cm_1 :: Ow.own 4 1 encB vr_fixed r_fixed :: fr) h_2 := hS.perm2 [3, 1, 2, 4] 5 rfl rfl
  exact ⟨F_1, max r_now (min now 1000000000000), max r_now (min now 1000000000000), cm_1, r_fixed, vr_fixed, rfl, hK, hS, hM⟩

def clock_Clock_At_int_W (c_at : List (Int × Int)) (key : Int) (Q : Int → Bool → Prop) : Prop :=
  Q (mget0 c_at key) ((mget c_at key).isSome)
set_option maxHeartbeats 40000000 in
set_option maxRecDepth 100000 in
theorem clock_Clock_At_int_walk {F : Fz} {fr : List Ow} {h0 : Heap} (c_at : List (Int × Int)) (key : Int) (bc : Nat) (rc_at : Nat) (hS : St F (fr) h0) (hM_rc_at : RoF (Ow.map rc_at kI kI c_at) F h0) (hB_bc : RoF (Ow.box bc 106 #[.map (some rc_at)]) F h0) {Q : Int → Bool → Prop} (hM : clock_Clock_At_int_W c_at key Q) :
    HC Try.prog 57 #[.pointer (some ⟨bc, 0, none⟩), .int .i64 key] h0 fun u h' => ∃ (F' : Fz) (r0_1 : Int) (r1_1 : Bool), u = .tuple #[.int .i64 r0_1, .bool r1_1] ∧ Kp F h0 F' h' ∧ St F' (fr) h' ∧ (RoF (Ow.map rc_at kI kI c_at) F' h') ∧ (RoF (Ow.box bc 106 #[.map (some rc_at)]) F' h') ∧ Q r0_1 r1_1 := by
  unfold clock_Clock_At_int_W at hM
  have hK := Kp.refl F h0
  refine HC.of_HW (n := 21) Try.func57 rfl rfl (Nat.le_of_ble_eq_true rfl) ?_
  refine HW.seq ?_
  refine HW.region ?_
  refine HO.val (v := .int .i64 0) (want_none) rfl (q_assign rfl) ?_
  refine HO.val (v := .bool false) (want_none) rfl (q_assign rfl) ?_
  refine HO.nil (thenQ_normal (?_))
  refine HW.seq ?_
  refine HW.seq ?_
  refine HW.region ?_
  refine HO.val (v := .pointer (some ⟨bc, 0, none⟩)) (want_none) rfl (q_move rfl) ?_
  refine HO.val (v := .bool false) (want_none) rfl (q_eqlPnil Try.underlying90 rfl rfl rfl) ?_
  refine HO.nil (thenQ_normal (?_))
  refine HW.condF rfl ?_
  refine HW.skip (thenQ_normal (?_))
  refine HW.seq ?_
  refine HW.region ?_
  refine HO.val (v := .pointer (some ⟨bc, 0, none⟩)) (want_none) rfl (q_move rfl) ?_
  refine HO.val (v := .pointer (some ⟨bc, 0, none⟩)) (want_none) rfl (q_nilCheck rfl) ?_
  refine HO.val (v := .pointer (some ⟨bc, 0, none⟩)) (want_none) rfl (q_fieldAddr fa_106_0 rfl rfl) ?_
  refine HO.val (v := .map (some rc_at)) (want_none) rfl (q_load to_104 rfl (Blk.cell hB_bc.box rfl)) ?_
  refine HO.val (v := .int .i64 key) (want_none) rfl (q_move rfl) ?_
  refine HO.val (v := .tuple #[.int .i64 (mget0 c_at key), .bool ((mget c_at key).isSome)]) (want_none) rfl ((q_lookupOk (k := key) ka_3 tmk_104 hM_rc_at.mp rfl rfl).of_eq (congrArg (fun v => Value.tuple #[v, _]) (mval0 (z := .int .i64 0) rfl))) ?_
  refine HO.val (v := .tuple #[.int .i64 (mget0 c_at key), .bool ((mget c_at key).isSome)]) (want_none) rfl (q_move rfl) ?_
  refine HO.val (v := .int .i64 (mget0 c_at key)) (want_none) rfl (q_extract rfl rfl) ?_
  refine HO.val (v := .bool ((mget c_at key).isSome)) (want_none) rfl (q_extract rfl rfl) ?_
  refine HO.val (v := .int .i64 (mget0 c_at key)) (want_none) rfl (q_assign rfl) ?_
  refine HO.val (v := .bool ((mget c_at key).isSome)) (want_none) rfl (q_assign rfl) ?_
  refine HO.nil (thenQ_normal (?_))
  refine HW.seq ?_
  refine HW.region ?_
  refine HO.val (v := .int .i64 (mget0 c_at key)) (want_none) rfl (q_move rfl) ?_
  refine HO.val (v := .bool ((mget c_at key).isSome)) (want_none) rfl (q_move rfl) ?_
  refine HO.val (v := .int .i64 (mget0 c_at key)) (want_none) rfl (q_assign rfl) ?_
  refine HO.val (v := .bool ((mget c_at key).isSome)) (want_none) rfl (q_assign rfl) ?_
  refine HO.nil (thenQ_normal (?_))
  refine HW.ret (?_)
  refine ⟨.inr rfl, .tuple #[.int .i64 (mget0 c_at key), .bool ((mget c_at key).isSome)], res2 rfl (rt rfl) (rt rfl), ?_⟩
  exact ⟨F, mget0 c_at key, (mget c_at key).isSome, rfl, hK, hS, hM_rc_at, hB_bc, hM⟩

def tune_Other_W (t : T_api_Tune) (Q : Int → Prop) : Prop :=
  (I64 (t.1 * t.2.1)) ∧ ((I64 (t.2.2.1.tdiv 2)) ∧ ((I64 ((t.1 * t.2.1) + (t.2.2.1.tdiv 2))) ∧ (Q ((t.1 * t.2.1) + (t.2.2.1.tdiv 2)))))
set_option maxHeartbeats 40000000 in
set_option maxRecDepth 100000 in
theorem tune_Other_walk {F : Fz} {fr : List Ow} {h0 : Heap} (t : T_api_Tune) (hS : St F (fr) h0)  {Q : Int → Prop} (hM : tune_Other_W t Q) :
    HC Try.prog 59 #[.agg (e_api_Tune t).toArray] h0 fun u h' => ∃ (F' : Fz) (r_1 : Int), u = .int .i64 r_1 ∧ Kp F h0 F' h' ∧ St F' (fr) h' ∧ Q r_1 := by
  unfold tune_Other_W at hM
  have hK := Kp.refl F h0
  refine HC.of_HW (n := 12) Try.func59 rfl rfl (Nat.le_of_ble_eq_true rfl) ?_
  refine HW.seq ?_
  refine HW.region ?_
  refine HO.eff (want_none) rfl (st_box (c := (e_api_Tune t).toArray) (k' := 5) hS rfl rfl) ?_
  rintro _ h_1 ⟨b_1, rfl, hS, hk⟩
  replace hK := hK.trans hk
  refine HO.val (v := .int .i64 0) (want_none) rfl (q_assign rfl) ?_
  refine HO.nil (thenQ_normal (?_))
  refine HW.seq ?_
  refine HW.region ?_
  refine HO.val (v := .pointer (some ⟨b_1, 0, none⟩)) (want_none) rfl (q_fieldAddr fa_50_0 rfl rfl) ?_
  refine HO.val (v := .int .i64 t.1) (want_none) rfl (q_load to_3 rfl (Blk.cell (hS.box 0 rfl) rfl)) ?_
  refine HO.val (v := .pointer (some ⟨b_1, 1, none⟩)) (want_none) rfl (q_fieldAddr fa_50_1 rfl rfl) ?_
  refine HO.val (v := .int .i64 t.2.1) (want_none) rfl (q_load to_3 rfl (Blk.cell (hS.box 0 rfl) rfl)) ?_
  obtain ⟨ho_1, hM⟩ := hM
  refine HO.val (v := .int .i64 (t.1 * t.2.1)) (want_none) rfl (q_mulN _ rfl rfl rfl ho_1.1 ho_1.2) ?_
  refine HO.val (v := .pointer (some ⟨b_1, 2, none⟩)) (want_none) rfl (q_fieldAddr fa_50_2 rfl rfl) ?_
  refine HO.val (v := .int .i64 t.2.2.1) (want_none) rfl (q_load to_3 rfl (Blk.cell (hS.box 0 rfl) rfl)) ?_
  obtain ⟨ho_2, hM⟩ := hM
  refine HO.val (v := .int .i64 (t.2.2.1.tdiv 2)) (want_none) rfl (q_quoN _ rfl rfl (by decide) rfl ho_2.1 ho_2.2) ?_
  obtain ⟨ho_3, hM⟩ := hM
  refine HO.val (v := .int .i64 ((t.1 * t.2.1) + (t.2.2.1.tdiv 2))) (want_none) rfl (q_addN _ rfl rfl rfl ho_3.1 ho_3.2) ?_
  refine HO.val (v := .int .i64 ((t.1 * t.2.1) + (t.2.2.1.tdiv 2))) (want_none) rfl (q_assign rfl) ?_
  refine HO.nil (thenQ_normal (?_))
  refine HW.ret (?_)
  refine ⟨.inr rfl, .int .i64 ((t.1 * t.2.1) + (t.2.2.1.tdiv 2)), res1 rfl (rt rfl), ?_⟩
  replace hS : St F (fr) h_1 := hS.perm2 [] 1 rfl rfl
  exact ⟨F, (t.1 * t.2.1) + (t.2.2.1.tdiv 2), rfl, hK, hS, hM⟩

def clock_Clock_Set_int_W (c_at : List (Int × Int)) (key : Int) (at1 : Int) (Q : Bool → (List (Int × Int)) → Prop) : Prop :=
  Q (!((mget c_at key).isSome)) (mset c_at key at1)
set_option maxHeartbeats 40000000 in
set_option maxRecDepth 100000 in
theorem clock_Clock_Set_int_walk {F : Fz} {fr : List Ow} {h0 : Heap} (c_at : List (Int × Int)) (key : Int) (at1 : Int) (bc : Nat) (rc_at : Nat) (hS : St F (Ow.box bc 106 #[.map (some rc_at)] :: Ow.map rc_at kI kI c_at :: fr) h0)  {Q : Bool → (List (Int × Int)) → Prop} (hM : clock_Clock_Set_int_W c_at key at1 Q) :
    HC Try.prog 58 #[.pointer (some ⟨bc, 0, none⟩), .int .i64 key, .int .i64 at1] h0 fun u h' => ∃ (F' : Fz) (r_1 : Bool) (cm_1 : List (Int × Int)), u = .bool r_1 ∧ Kp F h0 F' h' ∧ St F' (Ow.box bc 106 #[.map (some rc_at)] :: Ow.map rc_at kI kI cm_1 :: fr) h' ∧ Q r_1 cm_1 := by
  unfold clock_Clock_Set_int_W at hM
  have hK := Kp.refl F h0
  refine HC.of_HW (n := 28) Try.func58 rfl rfl (Nat.le_of_ble_eq_true rfl) ?_
  refine HW.seq ?_
  refine HW.region ?_
  refine HO.val (v := .bool false) (want_none) rfl (q_assign rfl) ?_
  refine HO.nil (thenQ_normal (?_))
  refine HW.seq ?_
  refine HW.seq ?_
  refine HW.region ?_
  refine HO.val (v := .pointer (some ⟨bc, 0, none⟩)) (want_none) rfl (q_move rfl) ?_
  refine HO.val (v := .bool false) (want_none) rfl (q_eqlPnil Try.underlying90 rfl rfl rfl) ?_
  refine HO.nil (thenQ_normal (?_))
  refine HW.condF rfl ?_
  refine HW.skip (thenQ_normal (?_))
  refine HW.seq ?_
  refine HW.region ?_
  refine HO.val (v := .pointer (some ⟨bc, 0, none⟩)) (want_none) rfl (q_move rfl) ?_
  refine HO.val (v := .pointer (some ⟨bc, 0, none⟩)) (want_none) rfl (q_nilCheck rfl) ?_
  refine HO.val (v := .pointer (some ⟨bc, 0, none⟩)) (want_none) rfl (q_fieldAddr fa_106_0 rfl rfl) ?_
  refine HO.val (v := .map (some rc_at)) (want_none) rfl (q_load to_104 rfl (Blk.cell (hS.box 0 rfl) rfl)) ?_
  refine HO.val (v := .int .i64 key) (want_none) rfl (q_move rfl) ?_
  refine HO.val (v := .tuple #[.int .i64 (mget0 c_at key), .bool ((mget c_at key).isSome)]) (want_none) rfl ((q_lookupOk (k := key) ka_3 tmk_104 (hS.mp 1 rfl) rfl rfl).of_eq (congrArg (fun v => Value.tuple #[v, _]) (mval0 (z := .int .i64 0) rfl))) ?_
  refine HO.val (v := .tuple #[.int .i64 (mget0 c_at key), .bool ((mget c_at key).isSome)]) (want_none) rfl (q_move rfl) ?_
  refine HO.val (v := .int .i64 (mget0 c_at key)) (want_none) rfl (q_extract rfl rfl) ?_
  refine HO.val (v := .bool ((mget c_at key).isSome)) (want_none) rfl (q_extract rfl rfl) ?_
  refine HO.val (v := .int .i64 (mget0 c_at key)) (want_none) rfl (q_assign rfl) ?_
  refine HO.val (v := .bool ((mget c_at key).isSome)) (want_none) rfl (q_assign rfl) ?_
  refine HO.nil (thenQ_normal (?_))
  refine HW.seq ?_
  refine HW.region ?_
  refine HO.val (v := .pointer (some ⟨bc, 0, none⟩)) (want_none) rfl (q_move rfl) ?_
  refine HO.val (v := .pointer (some ⟨bc, 0, none⟩)) (want_none) rfl (q_nilCheck rfl) ?_
  refine HO.val (v := .pointer (some ⟨bc, 0, none⟩)) (want_none) rfl (q_fieldAddr fa_106_0 rfl rfl) ?_
  refine HO.val (v := .map (some rc_at)) (want_none) rfl (q_load to_104 rfl (Blk.cell (hS.box 0 rfl) rfl)) ?_
  refine HO.val (v := .int .i64 key) (want_none) rfl (q_move rfl) ?_
  refine HO.val (v := .int .i64 at1) (want_none) rfl (q_move rfl) ?_
  refine HO.sto (want_none) rfl (st_mapUpdateK (k := key) (v := at1) hS (i := 1) rfl ka_3 tmk_104 rfl rfl rfl) ?_
  rintro h_1 ⟨hS, hk⟩
  replace hS : St F (Ow.box bc 106 #[.map (some rc_at)] :: Ow.map rc_at kI kI (mset c_at key at1) :: fr) h_1 := hS
  replace hK := hK.trans hk
  refine HO.nil (thenQ_normal (?_))
  refine HW.seq ?_
  refine HW.region ?_
  refine HO.val (v := .bool ((mget c_at key).isSome)) (want_none) rfl (q_move rfl) ?_
  refine HO.val (v := .bool (!((mget c_at key).isSome))) (want_none) rfl (q_not rfl) ?_
  refine HO.val (v := .bool (!((mget c_at key).isSome))) (want_none) rfl (q_assign rfl) ?_
  refine HO.nil (thenQ_normal (?_))
  refine HW.ret (?_)
  refine ⟨.inr rfl, .bool (!((mget c_at key).isSome)), res1 rfl (rt rfl), ?_⟩
  exact ⟨F, !((mget c_at key).isSome), mset c_at key at1, rfl, hK, hS, hM⟩

def route_Routes_Hear_W (r_now : Int) (r_till_at : List (Int × Int)) (r_fixed : List Bool) (now : Int) (t : T_api_Tune) (port : Int) (Q : Bool → Int → (List (Int × Int)) → (List Bool) → Prop) : Prop :=
  route_Routes_in_W r_now r_till_at r_fixed port (fun r_2 => ((!r_2) = true → Q false r_now r_till_at r_fixed) ∧ ((!r_2) = false → route_Routes_settle_W r_now r_till_at r_fixed now (fun r_3 r_now_2 rm_2 r_fixed_2 => clock_Clock_At_int_W rm_2 port (fun r0_1 r1_1 => tune_Other_W t (fun r_4 => (I64 (r_3 + r_4)) ∧ (clock_Clock_Set_int_W rm_2 port (max r0_1 (r_3 + r_4)) (fun r_5 cm_1 => Q true r_now_2 cm_1 r_fixed_2)))))))
set_option maxHeartbeats 40000000 in
set_option maxRecDepth 100000 in
theorem route_Routes_Hear_walk {F : Fz} {fr : List Ow} {h0 : Heap} (r_now : Int) (r_till_at : List (Int × Int)) (r_fixed : List Bool) (now : Int) (t : T_api_Tune) (port : Int) (br : Nat) (br_till : Nat) (rr_till_at : Nat) (vr_fixed : Value) (hS : St F (Ow.box br 94 #[.int .i64 r_now, .pointer (some ⟨br_till, 0, none⟩), vr_fixed] :: Ow.box br_till 106 #[.map (some rr_till_at)] :: Ow.map rr_till_at kI kI r_till_at :: Ow.own 4 1 encB vr_fixed r_fixed :: fr) h0)  {Q : Bool → Int → (List (Int × Int)) → (List Bool) → Prop} (hM : route_Routes_Hear_W r_now r_till_at r_fixed now t port Q) :
    HC Try.prog 31 #[.pointer (some ⟨br, 0, none⟩), .int .i64 now, .agg (e_api_Tune t).toArray, .int .i64 port] h0 fun u h' => ∃ (F' : Fz) (r_1 : Bool) (r_now_1 : Int) (rm_1 : List (Int × Int)) (r_fixed_1 : List Bool) (v_1 : Value), u = .bool r_1 ∧ Kp F h0 F' h' ∧ St F' (Ow.box br 94 #[.int .i64 r_now_1, .pointer (some ⟨br_till, 0, none⟩), v_1] :: Ow.box br_till 106 #[.map (some rr_till_at)] :: Ow.map rr_till_at kI kI rm_1 :: Ow.own 4 1 encB v_1 r_fixed_1 :: fr) h' ∧ Q r_1 r_now_1 rm_1 r_fixed_1 := by
  unfold route_Routes_Hear_W at hM
  have hK := Kp.refl F h0
  refine HC.of_HW (n := 39) Try.func31 rfl rfl (Nat.le_of_ble_eq_true rfl) ?_
  refine HW.seq ?_
  refine HW.region ?_
  refine HO.eff (want_none) rfl (st_box (c := (e_api_Tune t).toArray) (k' := 5) hS rfl rfl) ?_
  rintro _ h_1 ⟨b_1, rfl, hS, hk⟩
  replace hK := hK.trans hk
  refine HO.val (v := .bool false) (want_none) rfl (q_assign rfl) ?_
  refine HO.nil (thenQ_normal (?_))
  refine HW.seq ?_
  refine HW.seq ?_
  refine HW.region ?_
  refine HO.val (v := .pointer (some ⟨br, 0, none⟩)) (want_none) rfl (q_move rfl) ?_
  refine HO.val (v := .int .i64 port) (want_none) rfl (q_move rfl) ?_
  replace hS : St F (Ow.box br 94 #[.int .i64 r_now, .pointer (some ⟨br_till, 0, none⟩), vr_fixed] :: Ow.box b_1 50 (e_api_Tune t).toArray :: Ow.box br_till 106 #[.map (some rr_till_at)] :: Ow.map rr_till_at kI kI r_till_at :: Ow.own 4 1 encB vr_fixed r_fixed :: fr) h_1 := hS.perm2 [1, 0, 2, 3, 4] 5 rfl rfl
  have hZ_1 := hS
  have hkz_1 := (hS.freeze).2
  replace hS := hS.freeze.1
  have hL_1 := hZ_1.lent
  replace hS : St (fun b => F b ∨ (Ow.box br 94 #[.int .i64 r_now, .pointer (some ⟨br_till, 0, none⟩), vr_fixed]).foot b) (Ow.box br_till 106 #[.map (some rr_till_at)] :: Ow.box b_1 50 (e_api_Tune t).toArray :: Ow.map rr_till_at kI kI r_till_at :: Ow.own 4 1 encB vr_fixed r_fixed :: fr) h_1 := hS.perm2 [1, 0, 2, 3] 4 rfl rfl
  have hZ_2 := hS
  have hkz_2 := (hS.freeze).2
  replace hS := hS.freeze.1
  have hL_2 := hZ_2.lent
  replace hS : St (fun b => (fun b => F b ∨ (Ow.box br 94 #[.int .i64 r_now, .pointer (some ⟨br_till, 0, none⟩), vr_fixed]).foot b) b ∨ (Ow.box br_till 106 #[.map (some rr_till_at)]).foot b) (Ow.map rr_till_at kI kI r_till_at :: Ow.box b_1 50 (e_api_Tune t).toArray :: Ow.own 4 1 encB vr_fixed r_fixed :: fr) h_1 := hS.perm2 [1, 0, 2] 3 rfl rfl
  have hZ_3 := hS
  have hkz_3 := (hS.freeze).2
  replace hS := hS.freeze.1
  have hL_3 := hZ_3.lent
  replace hS : St (fun b => (fun b => (fun b => F b ∨ (Ow.box br 94 #[.int .i64 r_now, .pointer (some ⟨br_till, 0, none⟩), vr_fixed]).foot b) b ∨ (Ow.box br_till 106 #[.map (some rr_till_at)]).foot b) b ∨ (Ow.map rr_till_at kI kI r_till_at).foot b) (Ow.own 4 1 encB vr_fixed r_fixed :: Ow.box b_1 50 (e_api_Tune t).toArray :: fr) h_1 := hS.perm2 [1, 0] 2 rfl rfl
  have hZ_4 := hS
  have hkz_4 := (hS.freeze).2
  replace hS := hS.freeze.1
  have hL_4 : SliceF (fun b => (fun b => (fun b => (fun b => F b ∨ (Ow.box br 94 #[.int .i64 r_now, .pointer (some ⟨br_till, 0, none⟩), vr_fixed]).foot b) b ∨ (Ow.box br_till 106 #[.map (some rr_till_at)]).foot b) b ∨ (Ow.map rr_till_at kI kI r_till_at).foot b) b ∨ (Ow.own 4 1 encB vr_fixed r_fixed).foot b) h_1 1 encB vr_fixed r_fixed := ⟨(hZ_4.own 0 rfl).slice, fun _ b hb => .inr hb⟩
  refine HO.call (want_none) rfl (ec en_55 rfl rfl) (route_Routes_in_walk (fr := (Ow.box b_1 50 (e_api_Tune t).toArray :: fr)) r_now r_till_at r_fixed port br br_till rr_till_at vr_fixed hS (hL_3.kp hkz_4) ((hL_2.kp hkz_3).kp hkz_4) hL_4 (((hL_1.kp hkz_2).kp hkz_3).kp hkz_4) hM) ?_
  rintro _ h_2 ⟨F_1, r_2, rfl, hk, hS, _, _, _, _, hM⟩
  obtain ⟨hS, hk⟩ := hZ_4.back hk hS
  obtain ⟨hS, hk⟩ := hZ_3.back hk hS
  obtain ⟨hS, hk⟩ := hZ_2.back hk hS
  obtain ⟨hS, hk⟩ := hZ_1.back hk hS
  generalize (fun b => (fun b => (fun b => (fun b => F_1 b ∧ ¬ (Ow.own 4 1 encB vr_fixed r_fixed).foot b) b ∧ ¬ (Ow.map rr_till_at kI kI r_till_at).foot b) b ∧ ¬ (Ow.box br_till 106 #[.map (some rr_till_at)]).foot b) b ∧ ¬ (Ow.box br 94 #[.int .i64 r_now, .pointer (some ⟨br_till, 0, none⟩), vr_fixed]).foot b) = F_2 at hS hk
  replace hK := hK.trans hk
  refine HO.val (v := .bool (!r_2)) (want_none) rfl (q_not rfl) ?_
  refine HO.nil (thenQ_normal (?_))
  refine HW.cond (!r_2) rfl (fun c_1 => ?_) (fun c_1 => ?_)
  · replace hM := hM.1 c_1
    refine HW.seq ?_
    refine HW.region ?_
    refine HO.val (v := .bool false) (want_none) rfl (q_assign rfl) ?_
    refine HO.nil (thenQ_normal (?_))
    refine HW.ret (thenQ_ret (?_))
    refine ⟨.inr rfl, .bool false, res1 rfl (rt rfl), ?_⟩
    replace hS : St F_2 (Ow.box br 94 #[.int .i64 r_now, .pointer (some ⟨br_till, 0, none⟩), vr_fixed] :: Ow.box br_till 106 #[.map (some rr_till_at)] :: Ow.map rr_till_at kI kI r_till_at :: Ow.own 4 1 encB vr_fixed r_fixed :: fr) h_2 := hS.perm2 [0, 1, 2, 3] 5 rfl rfl
    exact ⟨F_2, false, r_now, r_till_at, r_fixed, vr_fixed, rfl, hK, hS, hM⟩
  · replace hM := hM.2 c_1
    refine HW.skip (thenQ_normal (?_))
    refine HW.seq ?_
    refine HW.region ?_
    refine HO.val (v := .pointer (some ⟨br, 0, none⟩)) (want_none) rfl (q_move rfl) ?_
    refine HO.val (v := .int .i64 now) (want_none) rfl (q_move rfl) ?_
    refine HO.call (want_none) rfl (ec en_56 rfl rfl) (route_Routes_settle_walk (fr := (Ow.box b_1 50 (e_api_Tune t).toArray :: fr)) r_now r_till_at r_fixed now br br_till rr_till_at vr_fixed hS hM) ?_
    rintro _ h_3 ⟨F_3, r_3, r_now_2, rm_2, r_fixed_2, v_2, rfl, hk, hS, hM⟩
    replace hK := hK.trans hk
    refine HO.val (v := .int .i64 r_3) (want_none) rfl (q_assign rfl) ?_
    refine HO.nil (thenQ_normal (?_))
    refine HW.seq ?_
    refine HW.region ?_
    refine HO.val (v := .pointer (some ⟨br, 0, none⟩)) (want_none) rfl (q_move rfl) ?_
    refine HO.val (v := .pointer (some ⟨br, 0, none⟩)) (want_none) rfl (q_nilCheck rfl) ?_
    refine HO.val (v := .pointer (some ⟨br, 1, none⟩)) (want_none) rfl (q_fieldAddr fa_94_1 rfl rfl) ?_
    refine HO.val (v := .pointer (some ⟨br_till, 0, none⟩)) (want_none) rfl (q_load to_90 rfl (Blk.cell (hS.box 0 rfl) rfl)) ?_
    refine HO.val (v := .int .i64 port) (want_none) rfl (q_move rfl) ?_
    replace hS : St F_3 (Ow.box br_till 106 #[.map (some rr_till_at)] :: Ow.box br 94 #[.int .i64 r_now_2, .pointer (some ⟨br_till, 0, none⟩), v_2] :: Ow.map rr_till_at kI kI rm_2 :: Ow.own 4 1 encB v_2 r_fixed_2 :: Ow.box b_1 50 (e_api_Tune t).toArray :: fr) h_3 := hS.perm2 [1, 0, 2, 3, 4] 5 rfl rfl
    have hZ_5 := hS
    have hkz_5 := (hS.freeze).2
    replace hS := hS.freeze.1
    have hL_5 := hZ_5.lent
    replace hS : St (fun b => F_3 b ∨ (Ow.box br_till 106 #[.map (some rr_till_at)]).foot b) (Ow.map rr_till_at kI kI rm_2 :: Ow.box br 94 #[.int .i64 r_now_2, .pointer (some ⟨br_till, 0, none⟩), v_2] :: Ow.own 4 1 encB v_2 r_fixed_2 :: Ow.box b_1 50 (e_api_Tune t).toArray :: fr) h_3 := hS.perm2 [1, 0, 2, 3] 4 rfl rfl
    have hZ_6 := hS
    have hkz_6 := (hS.freeze).2
    replace hS := hS.freeze.1
    have hL_6 := hZ_6.lent
    refine HO.call (want_none) rfl (ec en_57 rfl rfl) (clock_Clock_At_int_walk (fr := (Ow.box br 94 #[.int .i64 r_now_2, .pointer (some ⟨br_till, 0, none⟩), v_2] :: Ow.own 4 1 encB v_2 r_fixed_2 :: Ow.box b_1 50 (e_api_Tune t).toArray :: fr)) rm_2 port br_till rr_till_at hS hL_6 (hL_5.kp hkz_6) hM) ?_
    rintro _ h_4 ⟨F_4, r0_1, r1_1, rfl, hk, hS, _, _, hM⟩
    obtain ⟨hS, hk⟩ := hZ_6.back hk hS
    obtain ⟨hS, hk⟩ := hZ_5.back hk hS
    generalize (fun b => (fun b => F_4 b ∧ ¬ (Ow.map rr_till_at kI kI rm_2).foot b) b ∧ ¬ (Ow.box br_till 106 #[.map (some rr_till_at)]).foot b) = F_5 at hS hk
    replace hK := hK.trans hk
    refine HO.val (v := .tuple #[.int .i64 r0_1, .bool r1_1]) (want_none) rfl (q_move rfl) ?_
    refine HO.val (v := .int .i64 r0_1) (want_none) rfl (q_extract rfl rfl) ?_
    refine HO.val (v := .bool r1_1) (want_none) rfl (q_extract rfl rfl) ?_
    refine HO.val (v := .int .i64 r0_1) (want_none) rfl (q_assign rfl) ?_
    refine HO.val (v := .bool r1_1) (want_none) rfl (q_assign rfl) ?_
    refine HO.nil (thenQ_normal (?_))
    refine HW.seq ?_
    refine HW.regionA 12 mixed (fun h => (Blk h br (.cells #[.int .i64 r_now_2, .pointer (some ⟨br_till, 0, none⟩), v_2] 94 (0, 0))) ∧ (Blk h b_1 (.cells (e_api_Tune t).toArray 50 (0, 0)))) [] (by kernel_rfl) ?_
    refine HA.val (k := 0) (v := .pointer (some ⟨br, 0, none⟩)) rfl rfl (by kernel_rfl) (by kernel_rfl) (want_none) rfl (fun _ ⟨c1, c213⟩ => q_move rfl) ?_
    refine HA.val (k := 1) (v := .pointer (some ⟨br, 0, none⟩)) rfl rfl (by kernel_rfl) (by kernel_rfl) (want_none) rfl (fun _ ⟨c1, c213⟩ => q_nilCheck rfl) ?_
    refine HA.val (k := 2) (v := .pointer (some ⟨br, 1, none⟩)) rfl rfl (by kernel_rfl) (by kernel_rfl) (want_none) rfl (fun _ ⟨c1, c213⟩ => q_fieldAddr fa_94_1 rfl rfl) ?_
    refine HA.val (k := 3) (v := .pointer (some ⟨br_till, 0, none⟩)) rfl rfl (by kernel_rfl) (by kernel_rfl) (want_none) rfl (fun _ ⟨c1, c213⟩ => q_load to_90 rfl (Blk.cell c1 rfl)) ?_
    refine HA.val (k := 4) (v := .int .i64 port) rfl rfl (by kernel_rfl) (by kernel_rfl) (want_none) rfl (fun _ ⟨c1, c213⟩ => q_move rfl) ?_
    refine HA.val (k := 5) (v := .int .i64 r0_1) rfl rfl (by kernel_rfl) (by kernel_rfl) (want_none) rfl (fun _ ⟨c1, c213⟩ => q_move rfl) ?_
    refine HA.val (k := 6) (v := .int .i64 r_3) rfl rfl (by kernel_rfl) (by kernel_rfl) (want_none) rfl (fun _ ⟨c1, c213⟩ => q_move rfl) ?_
    refine HA.val (k := 7) (v := .agg (e_api_Tune t).toArray) rfl rfl (by kernel_rfl) (by kernel_rfl) (want_none) rfl (fun _ ⟨c1, c213⟩ => q_loadAgg (cs := (e_api_Tune t)) ta_50 rfl rfl (Blk.cells (k := 5) c213 rfl)) ?_
    refine HA.one (k := 8) ⟨⟨(hS.box 2 rfl), (hS.box 4 rfl)⟩, (Go.Wk.at_nil _ _)⟩ (by kernel_rfl) ?_
    refine HS.call rfl (want_none) rfl (ec en_59 rfl rfl) (tune_Other_walk (fr := (Ow.box br_till 106 #[.map (some rr_till_at)] :: Ow.map rr_till_at kI kI rm_2 :: Ow.box br 94 #[.int .i64 r_now_2, .pointer (some ⟨br_till, 0, none⟩), v_2] :: Ow.own 4 1 encB v_2 r_fixed_2 :: Ow.box b_1 50 (e_api_Tune t).toArray :: fr)) t hS hM) ?_
    rintro _ h_5 ⟨F_6, r_4, rfl, hk, hS, hM⟩
    replace hK := hK.trans hk
    obtain ⟨ho_1, hM⟩ := hM
    refine HA.val (k := 9) (v := .int .i64 (r_3 + r_4)) rfl rfl (by kernel_rfl) (by kernel_rfl) (want_none) rfl (fun _ ⟨c1, c213⟩ => q_addN _ rfl rfl rfl ho_1.1 ho_1.2) ?_
    refine HA.val (k := 10) (v := .int .i64 (max r0_1 (r_3 + r_4))) rfl rfl (by kernel_rfl) (by kernel_rfl) (want_none) rfl (fun _ ⟨c1, c213⟩ => q_max rfl rfl) ?_
    refine HA.one (k := 11) ⟨⟨(hS.box 2 rfl), (hS.box 4 rfl)⟩, (Go.Wk.at_nil _ _)⟩ (by kernel_rfl) ?_
    refine HS.call rfl (want_none) rfl (ec en_58 rfl rfl) (clock_Clock_Set_int_walk (fr := (Ow.box br 94 #[.int .i64 r_now_2, .pointer (some ⟨br_till, 0, none⟩), v_2] :: Ow.own 4 1 encB v_2 r_fixed_2 :: Ow.box b_1 50 (e_api_Tune t).toArray :: fr)) rm_2 port (max r0_1 (r_3 + r_4)) br_till rr_till_at hS hM) ?_
    rintro _ h_6 ⟨F_7, r_5, cm_1, rfl, hk, hS, hM⟩
    replace hK := hK.trans hk
    refine HA.nil ⟨⟨(hS.box 2 rfl), (hS.box 4 rfl)⟩, (Go.Wk.at_nil _ _)⟩ (by kernel_rfl) (thenQ_normal (?_))
    refine HW.seq ?_
    refine HW.region ?_
    refine HO.val (v := .bool true) (want_none) rfl (q_assign rfl) ?_
    refine HO.nil (thenQ_normal (?_))
    refine HW.ret (?_)
    refine ⟨.inr rfl, .bool true, res1 rfl (rt rfl), ?_⟩
    replace hS : St F_7 (Ow.box br 94 #[.int .i64 r_now_2, .pointer (some ⟨br_till, 0, none⟩), v_2] :: Ow.box br_till 106 #[.map (some rr_till_at)] :: Ow.map rr_till_at kI kI cm_1 :: Ow.own 4 1 encB v_2 r_fixed_2 :: fr) h_6 := hS.perm2 [2, 0, 1, 3] 5 rfl rfl
    exact ⟨F_7, true, r_now_2, cm_1, r_fixed_2, v_2, rfl, hK, hS, hM⟩

def route_Routes_is_W (r_now : Int) (r_till_at : List (Int × Int)) (r_fixed : List Bool) (port : Int) (Q : Bool → Prop) : Prop :=
  clock_Clock_At_int_W r_till_at port (fun r0_1 r1_1 => (r1_1 = true → Q true) ∧ (r1_1 = false → ((0 : Int) ≤ port ∧ port < (r_fixed.length : Int)) ∧ (Q (gi r_fixed port))))
set_option maxHeartbeats 40000000 in
set_option maxRecDepth 100000 in
theorem route_Routes_is_walk {F : Fz} {fr : List Ow} {h0 : Heap} (r_now : Int) (r_till_at : List (Int × Int)) (r_fixed : List Bool) (port : Int) (br : Nat) (br_till : Nat) (rr_till_at : Nat) (vr_fixed : Value) (hS : St F (fr) h0) (hM_rr_till_at : RoF (Ow.map rr_till_at kI kI r_till_at) F h0) (hB_br_till : RoF (Ow.box br_till 106 #[.map (some rr_till_at)]) F h0) (hL_r_fixed : SliceF F h0 1 encB vr_fixed r_fixed) (hB_br : RoF (Ow.box br 94 #[.int .i64 r_now, .pointer (some ⟨br_till, 0, none⟩), vr_fixed]) F h0) {Q : Bool → Prop} (hM : route_Routes_is_W r_now r_till_at r_fixed port Q) :
    HC Try.prog 63 #[.pointer (some ⟨br, 0, none⟩), .int .i64 port] h0 fun u h' => ∃ (F' : Fz) (r_1 : Bool), u = .bool r_1 ∧ Kp F h0 F' h' ∧ St F' (fr) h' ∧ (RoF (Ow.map rr_till_at kI kI r_till_at) F' h') ∧ (RoF (Ow.box br_till 106 #[.map (some rr_till_at)]) F' h') ∧ (SliceF F' h' 1 encB vr_fixed r_fixed) ∧ (RoF (Ow.box br 94 #[.int .i64 r_now, .pointer (some ⟨br_till, 0, none⟩), vr_fixed]) F' h') ∧ Q r_1 := by
  unfold route_Routes_is_W at hM
  have hK := Kp.refl F h0
  refine HC.of_HW (n := 26) Try.func63 rfl rfl (Nat.le_of_ble_eq_true rfl) ?_
  refine HW.seq ?_
  refine HW.region ?_
  refine HO.val (v := .bool false) (want_none) rfl (q_assign rfl) ?_
  refine HO.nil (thenQ_normal (?_))
  refine HW.seq ?_
  refine HW.region ?_
  refine HO.val (v := .pointer (some ⟨br, 0, none⟩)) (want_none) rfl (q_move rfl) ?_
  refine HO.val (v := .pointer (some ⟨br, 0, none⟩)) (want_none) rfl (q_nilCheck rfl) ?_
  refine HO.val (v := .pointer (some ⟨br, 1, none⟩)) (want_none) rfl (q_fieldAddr fa_94_1 rfl rfl) ?_
  refine HO.val (v := .pointer (some ⟨br_till, 0, none⟩)) (want_none) rfl (q_load to_90 rfl (Blk.cell hB_br.box rfl)) ?_
  refine HO.val (v := .int .i64 port) (want_none) rfl (q_move rfl) ?_
  refine HO.call (want_none) rfl (ec en_57 rfl rfl) (clock_Clock_At_int_walk (fr := (fr)) r_till_at port br_till rr_till_at hS hM_rr_till_at hB_br_till hM) ?_
  rintro _ h_1 ⟨F_1, r0_1, r1_1, rfl, hk, hS, _, _, hM⟩
  replace hK := hK.trans hk
  replace hM_rr_till_at := hM_rr_till_at.kp hk
  replace hB_br_till := hB_br_till.kp hk
  replace hL_r_fixed := hL_r_fixed.kp hk
  replace hB_br := hB_br.kp hk
  refine HO.val (v := .tuple #[.int .i64 r0_1, .bool r1_1]) (want_none) rfl (q_move rfl) ?_
  refine HO.val (v := .int .i64 r0_1) (want_none) rfl (q_extract rfl rfl) ?_
  refine HO.val (v := .bool r1_1) (want_none) rfl (q_extract rfl rfl) ?_
  refine HO.val (v := .int .i64 r0_1) (want_none) rfl (q_assign rfl) ?_
  refine HO.val (v := .bool r1_1) (want_none) rfl (q_assign rfl) ?_
  refine HO.nil (thenQ_normal (?_))
  refine HW.seq ?_
  refine HW.region ?_
  refine HO.val (v := .bool r1_1) (want_none) rfl (q_move rfl) ?_
  refine HO.val (v := .bool r1_1) (want_none) rfl (q_move rfl) ?_
  rcases Bool.eq_false_or_eq_true r1_1 with c_1 | c_1
  · replace hM := hM.1 c_1
    refine HO.past (past_by rfl rfl c_1) rfl ?_
    refine HO.past (past_by rfl rfl c_1) rfl ?_
    refine HO.past (past_by rfl rfl c_1) rfl ?_
    refine HO.past (past_by rfl rfl c_1) rfl ?_
    refine HO.past (past_by rfl rfl c_1) rfl ?_
    refine HO.past (past_by rfl rfl c_1) rfl ?_
    refine HO.past (past_by rfl rfl c_1) rfl ?_
    refine HO.val (v := .bool true) (want_none) rfl (q_pickK true rfl c_1 rfl) ?_
    refine HO.val (v := .bool true) (want_none) rfl (q_assign rfl) ?_
    refine HO.nil (thenQ_normal (?_))
    refine HW.ret (?_)
    refine ⟨.inr rfl, .bool true, res1 rfl (rt rfl), ?_⟩
    exact ⟨F_1, true, rfl, hK, hS, hM_rr_till_at, hB_br_till, hL_r_fixed, hB_br, hM⟩
  · replace hM := hM.2 c_1
    refine HO.val (v := .pointer (some ⟨br, 0, none⟩)) (want_by rfl rfl c_1) rfl (q_move rfl) ?_
    refine HO.val (v := .pointer (some ⟨br, 0, none⟩)) (want_by rfl rfl c_1) rfl (q_nilCheck rfl) ?_
    refine HO.val (v := .pointer (some ⟨br, 2, none⟩)) (want_by rfl rfl c_1) rfl (q_fieldAddr fa_94_2 rfl rfl) ?_
    refine HO.val (v := vr_fixed) (want_by rfl rfl c_1) rfl (q_load to_92 rfl (Blk.cell hB_br.box rfl)) ?_
    refine HO.val (v := .int .i64 port) (want_by rfl rfl c_1) rfl (q_move rfl) ?_
    obtain ⟨ho_1, hM⟩ := hM
    refine HO.val (v := elemPtr 1 vr_fixed (port).toNat) (want_by rfl rfl c_1) rfl (q_idx ts_92 hL_r_fixed.is rfl rfl ho_1) ?_
    refine HO.val (v := .bool (gi r_fixed port)) (want_by rfl rfl c_1) rfl (q_ldElem to_4 hL_r_fixed.is rfl ho_1 rfl) ?_
    refine HO.val (v := .bool (gi r_fixed port)) (want_none) rfl (q_pickK false rfl c_1 rfl) ?_
    refine HO.val (v := .bool (gi r_fixed port)) (want_none) rfl (q_assign rfl) ?_
    refine HO.nil (thenQ_normal (?_))
    refine HW.ret (?_)
    refine ⟨.inr rfl, .bool (gi r_fixed port), res1 rfl (rt rfl), ?_⟩
    exact ⟨F_1, (gi r_fixed port), rfl, hK, hS, hM_rr_till_at, hB_br_till, hL_r_fixed, hB_br, hM⟩

def route_Routes_Is_W (r_now : Int) (r_till_at : List (Int × Int)) (r_fixed : List Bool) (now : Int) (port : Int) (Q : Bool → Int → (List (Int × Int)) → (List Bool) → Prop) : Prop :=
  route_Routes_in_W r_now r_till_at r_fixed port (fun r_2 => ((!r_2) = true → Q false r_now r_till_at r_fixed) ∧ ((!r_2) = false → route_Routes_settle_W r_now r_till_at r_fixed now (fun r_3 r_now_2 rm_2 r_fixed_2 => route_Routes_is_W r_now_2 rm_2 r_fixed_2 port (fun r_4 => Q r_4 r_now_2 rm_2 r_fixed_2))))
set_option maxHeartbeats 40000000 in
set_option maxRecDepth 100000 in
theorem route_Routes_Is_walk {F : Fz} {fr : List Ow} {h0 : Heap} (r_now : Int) (r_till_at : List (Int × Int)) (r_fixed : List Bool) (now : Int) (port : Int) (br : Nat) (br_till : Nat) (rr_till_at : Nat) (vr_fixed : Value) (hS : St F (Ow.box br 94 #[.int .i64 r_now, .pointer (some ⟨br_till, 0, none⟩), vr_fixed] :: Ow.box br_till 106 #[.map (some rr_till_at)] :: Ow.map rr_till_at kI kI r_till_at :: Ow.own 4 1 encB vr_fixed r_fixed :: fr) h0)  {Q : Bool → Int → (List (Int × Int)) → (List Bool) → Prop} (hM : route_Routes_Is_W r_now r_till_at r_fixed now port Q) :
    HC Try.prog 41 #[.pointer (some ⟨br, 0, none⟩), .int .i64 now, .int .i64 port] h0 fun u h' => ∃ (F' : Fz) (r_1 : Bool) (r_now_1 : Int) (rm_1 : List (Int × Int)) (r_fixed_1 : List Bool) (v_1 : Value), u = .bool r_1 ∧ Kp F h0 F' h' ∧ St F' (Ow.box br 94 #[.int .i64 r_now_1, .pointer (some ⟨br_till, 0, none⟩), v_1] :: Ow.box br_till 106 #[.map (some rr_till_at)] :: Ow.map rr_till_at kI kI rm_1 :: Ow.own 4 1 encB v_1 r_fixed_1 :: fr) h' ∧ Q r_1 r_now_1 rm_1 r_fixed_1 := by
  unfold route_Routes_Is_W at hM
  have hK := Kp.refl F h0
  refine HC.of_HW (n := 17) Try.func41 rfl rfl (Nat.le_of_ble_eq_true rfl) ?_
  refine HW.seq ?_
  refine HW.region ?_
  refine HO.val (v := .bool false) (want_none) rfl (q_assign rfl) ?_
  refine HO.nil (thenQ_normal (?_))
  refine HW.seq ?_
  refine HW.seq ?_
  refine HW.region ?_
  refine HO.val (v := .pointer (some ⟨br, 0, none⟩)) (want_none) rfl (q_move rfl) ?_
  refine HO.val (v := .int .i64 port) (want_none) rfl (q_move rfl) ?_
  have hZ_1 := hS
  have hkz_1 := (hS.freeze).2
  replace hS := hS.freeze.1
  have hL_1 := hZ_1.lent
  have hZ_2 := hS
  have hkz_2 := (hS.freeze).2
  replace hS := hS.freeze.1
  have hL_2 := hZ_2.lent
  have hZ_3 := hS
  have hkz_3 := (hS.freeze).2
  replace hS := hS.freeze.1
  have hL_3 := hZ_3.lent
  have hZ_4 := hS
  have hkz_4 := (hS.freeze).2
  replace hS := hS.freeze.1
  have hL_4 : SliceF (fun b => (fun b => (fun b => (fun b => F b ∨ (Ow.box br 94 #[.int .i64 r_now, .pointer (some ⟨br_till, 0, none⟩), vr_fixed]).foot b) b ∨ (Ow.box br_till 106 #[.map (some rr_till_at)]).foot b) b ∨ (Ow.map rr_till_at kI kI r_till_at).foot b) b ∨ (Ow.own 4 1 encB vr_fixed r_fixed).foot b) h0 1 encB vr_fixed r_fixed := ⟨(hZ_4.own 0 rfl).slice, fun _ b hb => .inr hb⟩
  refine HO.call (want_none) rfl (ec en_55 rfl rfl) (route_Routes_in_walk (fr := (fr)) r_now r_till_at r_fixed port br br_till rr_till_at vr_fixed hS (hL_3.kp hkz_4) ((hL_2.kp hkz_3).kp hkz_4) hL_4 (((hL_1.kp hkz_2).kp hkz_3).kp hkz_4) hM) ?_
  rintro _ h_1 ⟨F_1, r_2, rfl, hk, hS, _, _, _, _, hM⟩
  obtain ⟨hS, hk⟩ := hZ_4.back hk hS
  obtain ⟨hS, hk⟩ := hZ_3.back hk hS
  obtain ⟨hS, hk⟩ := hZ_2.back hk hS
  obtain ⟨hS, hk⟩ := hZ_1.back hk hS
  generalize (fun b => (fun b => (fun b => (fun b => F_1 b ∧ ¬ (Ow.own 4 1 encB vr_fixed r_fixed).foot b) b ∧ ¬ (Ow.map rr_till_at kI kI r_till_at).foot b) b ∧ ¬ (Ow.box br_till 106 #[.map (some rr_till_at)]).foot b) b ∧ ¬ (Ow.box br 94 #[.int .i64 r_now, .pointer (some ⟨br_till, 0, none⟩), vr_fixed]).foot b) = F_2 at hS hk
  replace hK := hK.trans hk
  refine HO.val (v := .bool (!r_2)) (want_none) rfl (q_not rfl) ?_
  refine HO.nil (thenQ_normal (?_))
  refine HW.cond (!r_2) rfl (fun c_1 => ?_) (fun c_1 => ?_)
  · replace hM := hM.1 c_1
    refine HW.seq ?_
    refine HW.region ?_
    refine HO.val (v := .bool false) (want_none) rfl (q_assign rfl) ?_
    refine HO.nil (thenQ_normal (?_))
    refine HW.ret (thenQ_ret (?_))
    refine ⟨.inr rfl, .bool false, res1 rfl (rt rfl), ?_⟩
    exact ⟨F_2, false, r_now, r_till_at, r_fixed, vr_fixed, rfl, hK, hS, hM⟩
  · replace hM := hM.2 c_1
    refine HW.skip (thenQ_normal (?_))
    refine HW.seq ?_
    refine HW.region ?_
    refine HO.val (v := .pointer (some ⟨br, 0, none⟩)) (want_none) rfl (q_move rfl) ?_
    refine HO.val (v := .int .i64 now) (want_none) rfl (q_move rfl) ?_
    refine HO.call (want_none) rfl (ec en_56 rfl rfl) (route_Routes_settle_walk (fr := (fr)) r_now r_till_at r_fixed now br br_till rr_till_at vr_fixed hS hM) ?_
    rintro _ h_2 ⟨F_3, r_3, r_now_2, rm_2, r_fixed_2, v_2, rfl, hk, hS, hM⟩
    replace hK := hK.trans hk
    refine HO.nil (thenQ_normal (?_))
    refine HW.seq ?_
    refine HW.region ?_
    refine HO.val (v := .pointer (some ⟨br, 0, none⟩)) (want_none) rfl (q_move rfl) ?_
    refine HO.val (v := .int .i64 port) (want_none) rfl (q_move rfl) ?_
    have hZ_5 := hS
    have hkz_5 := (hS.freeze).2
    replace hS := hS.freeze.1
    have hL_5 := hZ_5.lent
    have hZ_6 := hS
    have hkz_6 := (hS.freeze).2
    replace hS := hS.freeze.1
    have hL_6 := hZ_6.lent
    have hZ_7 := hS
    have hkz_7 := (hS.freeze).2
    replace hS := hS.freeze.1
    have hL_7 := hZ_7.lent
    have hZ_8 := hS
    have hkz_8 := (hS.freeze).2
    replace hS := hS.freeze.1
    have hL_8 : SliceF (fun b => (fun b => (fun b => (fun b => F_3 b ∨ (Ow.box br 94 #[.int .i64 r_now_2, .pointer (some ⟨br_till, 0, none⟩), v_2]).foot b) b ∨ (Ow.box br_till 106 #[.map (some rr_till_at)]).foot b) b ∨ (Ow.map rr_till_at kI kI rm_2).foot b) b ∨ (Ow.own 4 1 encB v_2 r_fixed_2).foot b) h_2 1 encB v_2 r_fixed_2 := ⟨(hZ_8.own 0 rfl).slice, fun _ b hb => .inr hb⟩
    refine HO.call (want_none) rfl (ec en_63 rfl rfl) (route_Routes_is_walk (fr := (fr)) r_now_2 rm_2 r_fixed_2 port br br_till rr_till_at v_2 hS (hL_7.kp hkz_8) ((hL_6.kp hkz_7).kp hkz_8) hL_8 (((hL_5.kp hkz_6).kp hkz_7).kp hkz_8) hM) ?_
    rintro _ h_3 ⟨F_4, r_4, rfl, hk, hS, _, _, _, _, hM⟩
    obtain ⟨hS, hk⟩ := hZ_8.back hk hS
    obtain ⟨hS, hk⟩ := hZ_7.back hk hS
    obtain ⟨hS, hk⟩ := hZ_6.back hk hS
    obtain ⟨hS, hk⟩ := hZ_5.back hk hS
    generalize (fun b => (fun b => (fun b => (fun b => F_4 b ∧ ¬ (Ow.own 4 1 encB v_2 r_fixed_2).foot b) b ∧ ¬ (Ow.map rr_till_at kI kI rm_2).foot b) b ∧ ¬ (Ow.box br_till 106 #[.map (some rr_till_at)]).foot b) b ∧ ¬ (Ow.box br 94 #[.int .i64 r_now_2, .pointer (some ⟨br_till, 0, none⟩), v_2]).foot b) = F_5 at hS hk
    replace hK := hK.trans hk
    refine HO.val (v := .bool r_4) (want_none) rfl (q_assign rfl) ?_
    refine HO.nil (thenQ_normal (?_))
    refine HW.ret (?_)
    refine ⟨.inr rfl, .bool r_4, res1 rfl (rt rfl), ?_⟩
    exact ⟨F_5, r_4, r_now_2, rm_2, r_fixed_2, v_2, rfl, hK, hS, hM⟩

def law23_lives_W (Q : Bool → Prop) : Prop :=
  route_New_W 2 (route_Routes_Len_W 0 [] (List.replicate (min (max 2 0) 32 : Int).toNat (default : Bool)) (fun r_3 => (r_3 = 2 → law18_Usual_W  (fun r_4 => route_Routes_Hear_W 0 [] (List.replicate (min (max 2 0) 32 : Int).toNat (default : Bool)) 0 r_4 1 (fun r_5 r_now_1 rm_1 r_fixed_1 => (r_5 = true → route_Routes_Is_W r_now_1 rm_1 r_fixed_1 24 1 (fun r_6 r_now_2 rm_2 r_fixed_2 => (r_6 = true → route_Routes_Is_W r_now_2 rm_2 r_fixed_2 24 0 (fun r_7 r_now_3 rm_3 r_fixed_3 => ((!r_7) = true → route_Routes_Is_W r_now_3 rm_3 r_fixed_3 25 1 (fun r_8 r_now_4 rm_4 r_fixed_4 => Q (!r_8))) ∧ ((!r_7) = false → Q false))) ∧ (r_6 = false → Q false))) ∧ (r_5 = false → Q false)))) ∧ (¬ (r_3 = 2) → Q false)))
set_option maxHeartbeats 40000000 in
set_option maxRecDepth 100000 in
theorem law23_lives_walk {F : Fz} {fr : List Ow} {h0 : Heap}  (hS : St F (fr) h0)  {Q : Bool → Prop} (hM : law23_lives_W Q) :
    HC Try.prog 27 #[] h0 fun u h' => ∃ (F' : Fz) (r_1 : Bool), u = .bool r_1 ∧ Kp F h0 F' h' ∧ St F' (fr) h' ∧ Q r_1 := by
  unfold law23_lives_W at hM
  have hK := Kp.refl F h0
  refine HC.of_HW (n := 25) Try.func27 rfl rfl (Nat.le_of_ble_eq_true rfl) ?_
  refine HW.seq ?_
  refine HW.region ?_
  refine HO.val (v := .bool false) (want_none) rfl (q_assign rfl) ?_
  refine HO.nil (thenQ_normal (?_))
  refine HW.seq ?_
  refine HW.region ?_
  refine HO.call (want_none) rfl (ec en_28 rfl rfl) (route_New_walk (fr := (fr)) 2 hS hM) ?_
  rintro _ h_1 ⟨F_1, b_1, b_2, r_2, vr_2_1, rfl, hk, hS, hM⟩
  replace hK := hK.trans hk
  refine HO.val (v := .pointer (some ⟨b_1, 0, none⟩)) (want_none) rfl (q_assign rfl) ?_
  refine HO.nil (thenQ_normal (?_))
  refine HW.seq ?_
  refine HW.region ?_
  refine HO.val (v := .pointer (some ⟨b_1, 0, none⟩)) (want_none) rfl (q_move rfl) ?_
  have hZ_1 := hS
  have hkz_1 := (hS.freeze).2
  replace hS := hS.freeze.1
  have hL_1 := hZ_1.lent
  have hZ_2 := hS
  have hkz_2 := (hS.freeze).2
  replace hS := hS.freeze.1
  have hL_2 := hZ_2.lent
  have hZ_3 := hS
  have hkz_3 := (hS.freeze).2
  replace hS := hS.freeze.1
  have hL_3 := hZ_3.lent
  have hZ_4 := hS
  have hkz_4 := (hS.freeze).2
  replace hS := hS.freeze.1
  have hL_4 : SliceF (fun b => (fun b => (fun b => (fun b => F_1 b ∨ (Ow.box b_1 94 #[.int .i64 0, .pointer (some ⟨b_2, 0, none⟩), vr_2_1]).foot b) b ∨ (Ow.box b_2 106 #[.map (some r_2)]).foot b) b ∨ (Ow.map r_2 kI kI ([] : List (Int × Int))).foot b) b ∨ (Ow.own 4 1 encB vr_2_1 (List.replicate (min (max 2 0) 32 : Int).toNat (default : Bool))).foot b) h_1 1 encB vr_2_1 (List.replicate (min (max 2 0) 32 : Int).toNat (default : Bool)) := ⟨(hZ_4.own 0 rfl).slice, fun _ b hb => .inr hb⟩
  refine HO.call (want_none) rfl (ec en_30 rfl rfl) (route_Routes_Len_walk (fr := (fr)) 0 [] (List.replicate (min (max 2 0) 32 : Int).toNat (default : Bool)) b_1 b_2 r_2 vr_2_1 hS (hL_3.kp hkz_4) ((hL_2.kp hkz_3).kp hkz_4) hL_4 (((hL_1.kp hkz_2).kp hkz_3).kp hkz_4) hM) ?_
  rintro _ h_2 ⟨F_2, r_3, rfl, hk, hS, _, _, _, _, hM⟩
  obtain ⟨hS, hk⟩ := hZ_4.back hk hS
  obtain ⟨hS, hk⟩ := hZ_3.back hk hS
  obtain ⟨hS, hk⟩ := hZ_2.back hk hS
  obtain ⟨hS, hk⟩ := hZ_1.back hk hS
  generalize (fun b => (fun b => (fun b => (fun b => F_2 b ∧ ¬ (Ow.own 4 1 encB vr_2_1 (List.replicate (min (max 2 0) 32 : Int).toNat (default : Bool))).foot b) b ∧ ¬ (Ow.map r_2 kI kI ([] : List (Int × Int))).foot b) b ∧ ¬ (Ow.box b_2 106 #[.map (some r_2)]).foot b) b ∧ ¬ (Ow.box b_1 94 #[.int .i64 0, .pointer (some ⟨b_2, 0, none⟩), vr_2_1]).foot b) = F_3 at hS hk
  replace hK := hK.trans hk
  refine HO.val (v := .bool (decide (r_3 = 2))) (want_none) rfl (q_eql rfl rfl) ?_
  refine HO.val (v := .bool (decide (r_3 = 2))) (want_none) rfl (q_move rfl) ?_
  rcases Bool.eq_false_or_eq_true (decide (r_3 = 2)) with c_1 | c_1
  · replace hM := hM.1 (of_decide_eq_true c_1)
    refine HO.val (v := .pointer (some ⟨b_1, 0, none⟩)) (want_by rfl rfl c_1) rfl (q_move rfl) ?_
    refine HO.call (want_by rfl rfl c_1) rfl (ec en_52 rfl rfl) (law18_Usual_walk (fr := (Ow.box b_1 94 #[.int .i64 0, .pointer (some ⟨b_2, 0, none⟩), vr_2_1] :: Ow.box b_2 106 #[.map (some r_2)] :: Ow.map r_2 kI kI ([] : List (Int × Int)) :: Ow.own 4 1 encB vr_2_1 (List.replicate (min (max 2 0) 32 : Int).toNat (default : Bool)) :: fr))  hS hM) ?_
    rintro _ h_3 ⟨F_4, r_4, rfl, hk, hS, hM⟩
    replace hK := hK.trans hk
    refine HO.call (want_by rfl rfl c_1) rfl (ec en_31 rfl rfl) (route_Routes_Hear_walk (fr := (fr)) 0 [] (List.replicate (min (max 2 0) 32 : Int).toNat (default : Bool)) 0 r_4 1 b_1 b_2 r_2 vr_2_1 hS hM) ?_
    rintro _ h_4 ⟨F_5, r_5, r_now_1, rm_1, r_fixed_1, v_1, rfl, hk, hS, hM⟩
    replace hK := hK.trans hk
    refine HO.val (v := .bool r_5) (want_none) rfl (q_pickK true rfl c_1 rfl) ?_
    refine HO.val (v := .bool r_5) (want_none) rfl (q_move rfl) ?_
    rcases Bool.eq_false_or_eq_true r_5 with c_2 | c_2
    · replace hM := hM.1 c_2
      refine HO.val (v := .pointer (some ⟨b_1, 0, none⟩)) (want_by rfl rfl c_2) rfl (q_move rfl) ?_
      refine HO.call (want_by rfl rfl c_2) rfl (ec en_41 rfl rfl) (route_Routes_Is_walk (fr := (fr)) r_now_1 rm_1 r_fixed_1 24 1 b_1 b_2 r_2 v_1 hS hM) ?_
      rintro _ h_5 ⟨F_6, r_6, r_now_2, rm_2, r_fixed_2, v_2, rfl, hk, hS, hM⟩
      replace hK := hK.trans hk
      refine HO.val (v := .bool r_6) (want_none) rfl (q_pickK true rfl c_2 rfl) ?_
      refine HO.val (v := .bool r_6) (want_none) rfl (q_move rfl) ?_
      rcases Bool.eq_false_or_eq_true r_6 with c_3 | c_3
      · replace hM := hM.1 c_3
        refine HO.val (v := .pointer (some ⟨b_1, 0, none⟩)) (want_by rfl rfl c_3) rfl (q_move rfl) ?_
        refine HO.call (want_by rfl rfl c_3) rfl (ec en_41 rfl rfl) (route_Routes_Is_walk (fr := (fr)) r_now_2 rm_2 r_fixed_2 24 0 b_1 b_2 r_2 v_2 hS hM) ?_
        rintro _ h_6 ⟨F_7, r_7, r_now_3, rm_3, r_fixed_3, v_3, rfl, hk, hS, hM⟩
        replace hK := hK.trans hk
        refine HO.val (v := .bool (!r_7)) (want_by rfl rfl c_3) rfl (q_not rfl) ?_
        refine HO.val (v := .bool (!r_7)) (want_none) rfl (q_pickK true rfl c_3 rfl) ?_
        refine HO.val (v := .bool (!r_7)) (want_none) rfl (q_move rfl) ?_
        rcases Bool.eq_false_or_eq_true (!r_7) with c_4 | c_4
        · replace hM := hM.1 c_4
          refine HO.val (v := .pointer (some ⟨b_1, 0, none⟩)) (want_by rfl rfl c_4) rfl (q_move rfl) ?_
          refine HO.call (want_by rfl rfl c_4) rfl (ec en_41 rfl rfl) (route_Routes_Is_walk (fr := (fr)) r_now_3 rm_3 r_fixed_3 25 1 b_1 b_2 r_2 v_3 hS hM) ?_
          rintro _ h_7 ⟨F_8, r_8, r_now_4, rm_4, r_fixed_4, v_4, rfl, hk, hS, hM⟩
          replace hK := hK.trans hk
          refine HO.val (v := .bool (!r_8)) (want_by rfl rfl c_4) rfl (q_not rfl) ?_
          refine HO.val (v := .bool (!r_8)) (want_none) rfl (q_pickK true rfl c_4 rfl) ?_
          refine HO.val (v := .bool (!r_8)) (want_none) rfl (q_assign rfl) ?_
          refine HO.nil (thenQ_normal (?_))
          refine HW.ret (?_)
          refine ⟨.inr rfl, .bool (!r_8), res1 rfl (rt rfl), ?_⟩
          replace hS : St F_8 (fr) h_7 := hS.perm2 [] 4 rfl rfl
          exact ⟨F_8, !r_8, rfl, hK, hS, hM⟩
        · replace hM := hM.2 c_4
          refine HO.past (past_by rfl rfl c_4) rfl ?_
          refine HO.past (past_by rfl rfl c_4) rfl ?_
          refine HO.past (past_by rfl rfl c_4) rfl ?_
          refine HO.val (v := .bool false) (want_none) rfl (q_pickK false rfl c_4 rfl) ?_
          refine HO.val (v := .bool false) (want_none) rfl (q_assign rfl) ?_
          refine HO.nil (thenQ_normal (?_))
          refine HW.ret (?_)
          refine ⟨.inr rfl, .bool false, res1 rfl (rt rfl), ?_⟩
          replace hS : St F_7 (fr) h_6 := hS.perm2 [] 4 rfl rfl
          exact ⟨F_7, false, rfl, hK, hS, hM⟩
      · replace hM := hM.2 c_3
        refine HO.past (past_by rfl rfl c_3) rfl ?_
        refine HO.past (past_by rfl rfl c_3) rfl ?_
        refine HO.past (past_by rfl rfl c_3) rfl ?_
        refine HO.val (v := .bool false) (want_none) rfl (q_pickK false rfl c_3 rfl) ?_
        refine HO.val (v := .bool false) (want_none) rfl (q_move rfl) ?_
        refine HO.past (past_some rfl rfl) rfl ?_
        refine HO.past (past_some rfl rfl) rfl ?_
        refine HO.past (past_some rfl rfl) rfl ?_
        refine HO.val (v := .bool false) (want_none) rfl (q_pick rfl rfl) ?_
        refine HO.val (v := .bool false) (want_none) rfl (q_assign rfl) ?_
        refine HO.nil (thenQ_normal (?_))
        refine HW.ret (?_)
        refine ⟨.inr rfl, .bool false, res1 rfl (rt rfl), ?_⟩
        replace hS : St F_6 (fr) h_5 := hS.perm2 [] 4 rfl rfl
        exact ⟨F_6, false, rfl, hK, hS, hM⟩
    · replace hM := hM.2 c_2
      refine HO.past (past_by rfl rfl c_2) rfl ?_
      refine HO.past (past_by rfl rfl c_2) rfl ?_
      refine HO.val (v := .bool false) (want_none) rfl (q_pickK false rfl c_2 rfl) ?_
      refine HO.val (v := .bool false) (want_none) rfl (q_move rfl) ?_
      refine HO.past (past_some rfl rfl) rfl ?_
      refine HO.past (past_some rfl rfl) rfl ?_
      refine HO.past (past_some rfl rfl) rfl ?_
      refine HO.val (v := .bool false) (want_none) rfl (q_pick rfl rfl) ?_
      refine HO.val (v := .bool false) (want_none) rfl (q_move rfl) ?_
      refine HO.past (past_some rfl rfl) rfl ?_
      refine HO.past (past_some rfl rfl) rfl ?_
      refine HO.past (past_some rfl rfl) rfl ?_
      refine HO.val (v := .bool false) (want_none) rfl (q_pick rfl rfl) ?_
      refine HO.val (v := .bool false) (want_none) rfl (q_assign rfl) ?_
      refine HO.nil (thenQ_normal (?_))
      refine HW.ret (?_)
      refine ⟨.inr rfl, .bool false, res1 rfl (rt rfl), ?_⟩
      replace hS : St F_5 (fr) h_4 := hS.perm2 [] 4 rfl rfl
      exact ⟨F_5, false, rfl, hK, hS, hM⟩
  · replace hM := hM.2 (of_decide_eq_false c_1)
    refine HO.past (past_by rfl rfl c_1) rfl ?_
    refine HO.past (past_by rfl rfl c_1) rfl ?_
    refine HO.past (past_by rfl rfl c_1) rfl ?_
    refine HO.val (v := .bool false) (want_none) rfl (q_pickK false rfl c_1 rfl) ?_
    refine HO.val (v := .bool false) (want_none) rfl (q_move rfl) ?_
    refine HO.past (past_some rfl rfl) rfl ?_
    refine HO.past (past_some rfl rfl) rfl ?_
    refine HO.val (v := .bool false) (want_none) rfl (q_pick rfl rfl) ?_
    refine HO.val (v := .bool false) (want_none) rfl (q_move rfl) ?_
    refine HO.past (past_some rfl rfl) rfl ?_
    refine HO.past (past_some rfl rfl) rfl ?_
    refine HO.past (past_some rfl rfl) rfl ?_
    refine HO.val (v := .bool false) (want_none) rfl (q_pick rfl rfl) ?_
    refine HO.val (v := .bool false) (want_none) rfl (q_move rfl) ?_
    refine HO.past (past_some rfl rfl) rfl ?_
    refine HO.past (past_some rfl rfl) rfl ?_
    refine HO.past (past_some rfl rfl) rfl ?_
    refine HO.val (v := .bool false) (want_none) rfl (q_pick rfl rfl) ?_
    refine HO.val (v := .bool false) (want_none) rfl (q_assign rfl) ?_
    refine HO.nil (thenQ_normal (?_))
    refine HW.ret (?_)
    refine ⟨.inr rfl, .bool false, res1 rfl (rt rfl), ?_⟩
    replace hS : St F_3 (fr) h_2 := hS.perm2 [] 4 rfl rfl
    exact ⟨F_3, false, rfl, hK, hS, hM⟩

def ref01_Within_W (n : Int) (least : Int) (most : Int) (Q : Int → Prop) : Prop :=
  (n < least → Q least) ∧ (¬ (n < least) → (most < n → Q most) ∧ (¬ (most < n) → Q n))
set_option maxHeartbeats 40000000 in
set_option maxRecDepth 100000 in
theorem ref01_Within_walk {F : Fz} {fr : List Ow} {h0 : Heap} (n : Int) (least : Int) (most : Int) (hS : St F (fr) h0)  {Q : Int → Prop} (hM : ref01_Within_W n least most Q) :
    HC Try.prog 54 #[.int .i64 n, .int .i64 least, .int .i64 most] h0 fun u h' => ∃ (F' : Fz) (r_1 : Int), u = .int .i64 r_1 ∧ Kp F h0 F' h' ∧ St F' (fr) h' ∧ Q r_1 := by
  unfold ref01_Within_W at hM
  have hK := Kp.refl F h0
  refine HC.of_HW (n := 16) Try.func54 rfl rfl (Nat.le_of_ble_eq_true rfl) ?_
  refine HW.seq ?_
  refine HW.region ?_
  refine HO.val (v := .int .i64 0) (want_none) rfl (q_assign rfl) ?_
  refine HO.nil (thenQ_normal (?_))
  refine HW.seq ?_
  refine HW.seq ?_
  refine HW.region ?_
  refine HO.val (v := .int .i64 n) (want_none) rfl (q_move rfl) ?_
  refine HO.val (v := .int .i64 least) (want_none) rfl (q_move rfl) ?_
  refine HO.val (v := .bool (decide (n < least))) (want_none) rfl (q_lss rfl rfl) ?_
  refine HO.nil (thenQ_normal (?_))
  refine HW.cond (decide (n < least)) rfl (fun c_1 => ?_) (fun c_1 => ?_)
  · replace hM := hM.1 (of_decide_eq_true c_1)
    refine HW.seq ?_
    refine HW.region ?_
    refine HO.val (v := .int .i64 least) (want_none) rfl (q_move rfl) ?_
    refine HO.val (v := .int .i64 least) (want_none) rfl (q_assign rfl) ?_
    refine HO.nil (thenQ_normal (?_))
    refine HW.ret (thenQ_ret (?_))
    refine ⟨.inr rfl, .int .i64 least, res1 rfl (rt rfl), ?_⟩
    exact ⟨F, least, rfl, hK, hS, hM⟩
  · replace hM := hM.2 (of_decide_eq_false c_1)
    refine HW.skip (thenQ_normal (?_))
    refine HW.seq ?_
    refine HW.seq ?_
    refine HW.region ?_
    refine HO.val (v := .int .i64 n) (want_none) rfl (q_move rfl) ?_
    refine HO.val (v := .int .i64 most) (want_none) rfl (q_move rfl) ?_
    refine HO.val (v := .bool (decide (most < n))) (want_none) rfl (q_gtr rfl rfl) ?_
    refine HO.nil (thenQ_normal (?_))
    refine HW.cond (decide (most < n)) rfl (fun c_2 => ?_) (fun c_2 => ?_)
    · replace hM := hM.1 (of_decide_eq_true c_2)
      refine HW.seq ?_
      refine HW.region ?_
      refine HO.val (v := .int .i64 most) (want_none) rfl (q_move rfl) ?_
      refine HO.val (v := .int .i64 most) (want_none) rfl (q_assign rfl) ?_
      refine HO.nil (thenQ_normal (?_))
      refine HW.ret (thenQ_ret (?_))
      refine ⟨.inr rfl, .int .i64 most, res1 rfl (rt rfl), ?_⟩
      exact ⟨F, most, rfl, hK, hS, hM⟩
    · replace hM := hM.2 (of_decide_eq_false c_2)
      refine HW.skip (thenQ_normal (?_))
      refine HW.seq ?_
      refine HW.region ?_
      refine HO.val (v := .int .i64 n) (want_none) rfl (q_move rfl) ?_
      refine HO.val (v := .int .i64 n) (want_none) rfl (q_assign rfl) ?_
      refine HO.nil (thenQ_normal (?_))
      refine HW.ret (?_)
      refine ⟨.inr rfl, .int .i64 n, res1 rfl (rt rfl), ?_⟩
      exact ⟨F, n, rfl, hK, hS, hM⟩

def ref23_New_W (n : Int) (Q : (List T_acequiaref23_One) → Prop) : Prop :=
  ref01_Within_W n 0 32 (fun r_1 => ((0 : Int) ≤ r_1 ∧ 16 * r_1 ≤ 281474976710656) ∧ (Q (List.replicate (r_1 : Int).toNat (default : T_acequiaref23_One))))
set_option maxHeartbeats 40000000 in
set_option maxRecDepth 100000 in
theorem ref23_New_walk {F : Fz} {fr : List Ow} {h0 : Heap} (n : Int) (hS : St F (fr) h0)  {Q : (List T_acequiaref23_One) → Prop} (hM : ref23_New_W n Q) :
    HC Try.prog 29 #[.int .i64 n] h0 fun u h' => ∃ (F' : Fz) (r_1_1 : List T_acequiaref23_One) (b_1 : Nat) (vr_1_1 : Value), u = .pointer (some ⟨b_1, 0, none⟩) ∧ Kp F h0 F' h' ∧ St F' (Ow.box b_1 59 #[.int .i64 0, vr_1_1] :: Ow.own 98 2 e_acequiaref23_One vr_1_1 r_1_1 :: fr) h' ∧ Q r_1_1 := by
  unfold ref23_New_W at hM
  have hK := Kp.refl F h0
  refine HC.of_HW (n := 8) Try.func29 rfl rfl (Nat.le_of_ble_eq_true rfl) ?_
  refine HW.seq ?_
  refine HW.region ?_
  refine HO.val (v := .pointer none) (want_none) rfl (q_assign rfl) ?_
  refine HO.nil (thenQ_normal (?_))
  refine HW.seq ?_
  refine HW.region ?_
  refine HO.val (v := .int .i64 n) (want_none) rfl (q_move rfl) ?_
  refine HO.call (want_none) rfl (ec en_54 rfl rfl) (ref01_Within_walk (fr := (fr)) n 0 32 hS hM) ?_
  rintro _ h_1 ⟨F_1, r_1, rfl, hk, hS, hM⟩
  replace hK := hK.trans hk
  obtain ⟨ho_1, hM⟩ := hM
  refine HO.eff (want_none) rfl (st_makeSlice (enc := e_acequiaref23_One) (r_1 : Int).toNat (default : T_acequiaref23_One) hS te_57 tz_98 rfl rfl (by omega) (by omega) (by omega)) ?_
  rintro _ h_2 ⟨b_2, rfl, hS, hk⟩
  replace hK := hK.trans hk
  refine HO.val (v := .agg #[.int .i64 0, .slice (some ⟨b_2, 0, none⟩) (r_1 : Int).toNat (r_1 : Int).toNat]) (want_none) rfl (q_build tp_59 rfl) ?_
  refine HO.eff (want_none) rfl (st_box (c := #[.int .i64 0, .slice (some ⟨b_2, 0, none⟩) (r_1 : Int).toNat (r_1 : Int).toNat]) (k' := 2) hS rfl rfl) ?_
  rintro _ h_3 ⟨b_3, rfl, hS, hk⟩
  replace hK := hK.trans hk
  refine HO.val (v := .pointer (some ⟨b_3, 0, none⟩)) (want_none) rfl (q_assign rfl) ?_
  refine HO.nil (thenQ_normal (?_))
  refine HW.ret (?_)
  refine ⟨.inr rfl, .pointer (some ⟨b_3, 0, none⟩), res1 rfl (rt rfl), ?_⟩
  exact ⟨F_1, List.replicate (r_1 : Int).toNat (default : T_acequiaref23_One), b_3, .slice (some ⟨b_2, 0, none⟩) (r_1 : Int).toNat (r_1 : Int).toNat, rfl, hK, hS, hM⟩

def ref23_R_in_W (r_Now : Int) (r_L : List T_acequiaref23_One) (port : Int) (Q : Bool → Prop) : Prop :=
  (0 ≤ port → Q (decide (port < (r_L.length : Int)))) ∧ (¬ (0 ≤ port) → Q false)
set_option maxHeartbeats 40000000 in
set_option maxRecDepth 100000 in
theorem ref23_R_in_walk {F : Fz} {fr : List Ow} {h0 : Heap} (r_Now : Int) (r_L : List T_acequiaref23_One) (port : Int) (br : Nat) (vr_L : Value) (hS : St F (fr) h0) (hL_r_L : SliceF F h0 2 e_acequiaref23_One vr_L r_L) (hB_br : RoF (Ow.box br 59 #[.int .i64 r_Now, vr_L]) F h0) {Q : Bool → Prop} (hM : ref23_R_in_W r_Now r_L port Q) :
    HC Try.prog 60 #[.pointer (some ⟨br, 0, none⟩), .int .i64 port] h0 fun u h' => ∃ (F' : Fz) (r_1 : Bool), u = .bool r_1 ∧ Kp F h0 F' h' ∧ St F' (fr) h' ∧ (SliceF F' h' 2 e_acequiaref23_One vr_L r_L) ∧ (RoF (Ow.box br 59 #[.int .i64 r_Now, vr_L]) F' h') ∧ Q r_1 := by
  unfold ref23_R_in_W at hM
  have hK := Kp.refl F h0
  refine HC.of_HW (n := 16) Try.func60 rfl rfl (Nat.le_of_ble_eq_true rfl) ?_
  refine HW.seq ?_
  refine HW.region ?_
  refine HO.val (v := .bool false) (want_none) rfl (q_assign rfl) ?_
  refine HO.nil (thenQ_normal (?_))
  refine HW.seq ?_
  refine HW.region ?_
  refine HO.val (v := .int .i64 port) (want_none) rfl (q_move rfl) ?_
  refine HO.val (v := .bool (decide (0 ≤ port))) (want_none) rfl (q_geq rfl rfl) ?_
  refine HO.val (v := .bool (decide (0 ≤ port))) (want_none) rfl (q_move rfl) ?_
  rcases Bool.eq_false_or_eq_true (decide (0 ≤ port)) with c_1 | c_1
  · replace hM := hM.1 (of_decide_eq_true c_1)
    refine HO.val (v := .int .i64 port) (want_by rfl rfl c_1) rfl (q_move rfl) ?_
    refine HO.val (v := .pointer (some ⟨br, 0, none⟩)) (want_by rfl rfl c_1) rfl (q_move rfl) ?_
    refine HO.val (v := .pointer (some ⟨br, 0, none⟩)) (want_by rfl rfl c_1) rfl (q_nilCheck rfl) ?_
    refine HO.val (v := .pointer (some ⟨br, 1, none⟩)) (want_by rfl rfl c_1) rfl (q_fieldAddr fa_59_1 rfl rfl) ?_
    refine HO.val (v := vr_L) (want_by rfl rfl c_1) rfl (q_load to_57 rfl (Blk.cell hB_br.box rfl)) ?_
    refine HO.val (v := .int .i64 (r_L.length : Int)) (want_by rfl rfl c_1) rfl (q_len ts_57 (shp hL_r_L.is) rfl rfl) ?_
    refine HO.val (v := .bool (decide (port < (r_L.length : Int)))) (want_by rfl rfl c_1) rfl (q_lss rfl rfl) ?_
    refine HO.val (v := .bool (decide (port < (r_L.length : Int)))) (want_none) rfl (q_pickK true rfl c_1 rfl) ?_
    refine HO.val (v := .bool (decide (port < (r_L.length : Int)))) (want_none) rfl (q_assign rfl) ?_
    refine HO.nil (thenQ_normal (?_))
    refine HW.ret (?_)
    refine ⟨.inr rfl, .bool (decide (port < (r_L.length : Int))), res1 rfl (rt rfl), ?_⟩
    exact ⟨F, decide (port < (r_L.length : Int)), rfl, hK, hS, hL_r_L, hB_br, hM⟩
  · replace hM := hM.2 (of_decide_eq_false c_1)
    refine HO.past (past_by rfl rfl c_1) rfl ?_
    refine HO.past (past_by rfl rfl c_1) rfl ?_
    refine HO.past (past_by rfl rfl c_1) rfl ?_
    refine HO.past (past_by rfl rfl c_1) rfl ?_
    refine HO.past (past_by rfl rfl c_1) rfl ?_
    refine HO.past (past_by rfl rfl c_1) rfl ?_
    refine HO.past (past_by rfl rfl c_1) rfl ?_
    refine HO.val (v := .bool false) (want_none) rfl (q_pickK false rfl c_1 rfl) ?_
    refine HO.val (v := .bool false) (want_none) rfl (q_assign rfl) ?_
    refine HO.nil (thenQ_normal (?_))
    refine HW.ret (?_)
    refine ⟨.inr rfl, .bool false, res1 rfl (rt rfl), ?_⟩
    exact ⟨F, false, rfl, hK, hS, hL_r_L, hB_br, hM⟩

def ref23_R_Settle_W (r_Now : Int) (r_L : List T_acequiaref23_One) (now : Int) (Q : Int → (List T_acequiaref23_One) → Prop) : Prop :=
  ref01_Within_W now 0 1000000000000 (fun r_1 => (r_Now < r_1 → Q r_1 r_L) ∧ (¬ (r_Now < r_1) → Q r_Now r_L))
set_option maxHeartbeats 40000000 in
set_option maxRecDepth 100000 in
theorem ref23_R_Settle_walk {F : Fz} {fr : List Ow} {h0 : Heap} (r_Now : Int) (r_L : List T_acequiaref23_One) (now : Int) (br : Nat) (vr_L : Value) (hS : St F (Ow.box br 59 #[.int .i64 r_Now, vr_L] :: Ow.own 98 2 e_acequiaref23_One vr_L r_L :: fr) h0)  {Q : Int → (List T_acequiaref23_One) → Prop} (hM : ref23_R_Settle_W r_Now r_L now Q) :
    HC Try.prog 35 #[.pointer (some ⟨br, 0, none⟩), .int .i64 now] h0 fun u h' => ∃ (F' : Fz) (r_Now_1 : Int) (r_L_1 : List T_acequiaref23_One) (v_1 : Value), u = .tuple #[] ∧ Kp F h0 F' h' ∧ St F' (Ow.box br 59 #[.int .i64 r_Now_1, v_1] :: Ow.own 98 2 e_acequiaref23_One v_1 r_L_1 :: fr) h' ∧ Q r_Now_1 r_L_1 := by
  unfold ref23_R_Settle_W at hM
  have hK := Kp.refl F h0
  refine HC.of_HW (n := 16) Try.func35 rfl rfl (Nat.le_of_ble_eq_true rfl) ?_
  refine HW.seq ?_
  refine HW.region ?_
  refine HO.val (v := .int .i64 now) (want_none) rfl (q_move rfl) ?_
  refine HO.call (want_none) rfl (ec en_54 rfl rfl) (ref01_Within_walk (fr := (Ow.box br 59 #[.int .i64 r_Now, vr_L] :: Ow.own 98 2 e_acequiaref23_One vr_L r_L :: fr)) now 0 1000000000000 hS hM) ?_
  rintro _ h_1 ⟨F_1, r_1, rfl, hk, hS, hM⟩
  replace hK := hK.trans hk
  refine HO.val (v := .int .i64 r_1) (want_none) rfl (q_assign rfl) ?_
  refine HO.nil (thenQ_normal (?_))
  refine HW.seq ?_
  refine HW.region ?_
  refine HO.val (v := .int .i64 r_1) (want_none) rfl (q_move rfl) ?_
  refine HO.val (v := .pointer (some ⟨br, 0, none⟩)) (want_none) rfl (q_move rfl) ?_
  refine HO.val (v := .pointer (some ⟨br, 0, none⟩)) (want_none) rfl (q_nilCheck rfl) ?_
  refine HO.val (v := .pointer (some ⟨br, 0, none⟩)) (want_none) rfl (q_fieldAddr fa_59_0 rfl rfl) ?_
  refine HO.val (v := .int .i64 r_Now) (want_none) rfl (q_load to_3 rfl (Blk.cell (hS.box 0 rfl) rfl)) ?_
  refine HO.val (v := .bool (decide (r_Now < r_1))) (want_none) rfl (q_gtr rfl rfl) ?_
  refine HO.nil (thenQ_normal (?_))
  refine HW.cond (decide (r_Now < r_1)) rfl (fun c_1 => ?_) (fun c_1 => ?_)
  · replace hM := hM.1 (of_decide_eq_true c_1)
    refine HW.region ?_
    refine HO.val (v := .pointer (some ⟨br, 0, none⟩)) (want_none) rfl (q_move rfl) ?_
    refine HO.val (v := .int .i64 r_1) (want_none) rfl (q_move rfl) ?_
    refine HO.val (v := .pointer (some ⟨br, 0, none⟩)) (want_none) rfl (q_nilCheck rfl) ?_
    refine HO.val (v := .pointer (some ⟨br, 0, none⟩)) (want_none) rfl (q_fieldAddr fa_59_0 rfl rfl) ?_
    refine HO.sto (want_none) rfl (st_store (c' := #[.int .i64 r_1, vr_L]) hS (i := 0) rfl to_3 rfl rfl rfl rfl (Nat.le_of_ble_eq_true rfl) rfl) ?_
    rintro h_2 ⟨hS, hk⟩
    replace hS : St F_1 (Ow.box br 59 #[.int .i64 r_1, vr_L] :: Ow.own 98 2 e_acequiaref23_One vr_L r_L :: fr) h_2 := hS
    replace hK := hK.trans hk
    refine HO.nil (?_)
    refine ⟨.inl rfl, .tuple #[], res0 rfl , ?_⟩
    exact ⟨F_1, r_1, r_L, vr_L, rfl, hK, hS, hM⟩
  · replace hM := hM.2 (of_decide_eq_false c_1)
    refine HW.skip (?_)
    refine ⟨.inl rfl, .tuple #[], res0 rfl , ?_⟩
    exact ⟨F_1, r_Now, r_L, vr_L, rfl, hK, hS, hM⟩

def ref14_Other_W (t : T_api_Tune) (Q : Int → Prop) : Prop :=
  (I64 (t.1 * t.2.1)) ∧ ((I64 (t.2.2.1.tdiv 2)) ∧ ((I64 ((t.1 * t.2.1) + (t.2.2.1.tdiv 2))) ∧ (Q ((t.1 * t.2.1) + (t.2.2.1.tdiv 2)))))
set_option maxHeartbeats 40000000 in
set_option maxRecDepth 100000 in
theorem ref14_Other_walk {F : Fz} {fr : List Ow} {h0 : Heap} (t : T_api_Tune) (hS : St F (fr) h0)  {Q : Int → Prop} (hM : ref14_Other_W t Q) :
    HC Try.prog 61 #[.agg (e_api_Tune t).toArray] h0 fun u h' => ∃ (F' : Fz) (r_1 : Int), u = .int .i64 r_1 ∧ Kp F h0 F' h' ∧ St F' (fr) h' ∧ Q r_1 := by
  unfold ref14_Other_W at hM
  have hK := Kp.refl F h0
  refine HC.of_HW (n := 12) Try.func61 rfl rfl (Nat.le_of_ble_eq_true rfl) ?_
  refine HW.seq ?_
  refine HW.region ?_
  refine HO.eff (want_none) rfl (st_box (c := (e_api_Tune t).toArray) (k' := 5) hS rfl rfl) ?_
  rintro _ h_1 ⟨b_1, rfl, hS, hk⟩
  replace hK := hK.trans hk
  refine HO.val (v := .int .i64 0) (want_none) rfl (q_assign rfl) ?_
  refine HO.nil (thenQ_normal (?_))
  refine HW.seq ?_
  refine HW.region ?_
  refine HO.val (v := .pointer (some ⟨b_1, 0, none⟩)) (want_none) rfl (q_fieldAddr fa_50_0 rfl rfl) ?_
  refine HO.val (v := .int .i64 t.1) (want_none) rfl (q_load to_3 rfl (Blk.cell (hS.box 0 rfl) rfl)) ?_
  refine HO.val (v := .pointer (some ⟨b_1, 1, none⟩)) (want_none) rfl (q_fieldAddr fa_50_1 rfl rfl) ?_
  refine HO.val (v := .int .i64 t.2.1) (want_none) rfl (q_load to_3 rfl (Blk.cell (hS.box 0 rfl) rfl)) ?_
  obtain ⟨ho_1, hM⟩ := hM
  refine HO.val (v := .int .i64 (t.1 * t.2.1)) (want_none) rfl (q_mulN _ rfl rfl rfl ho_1.1 ho_1.2) ?_
  refine HO.val (v := .pointer (some ⟨b_1, 2, none⟩)) (want_none) rfl (q_fieldAddr fa_50_2 rfl rfl) ?_
  refine HO.val (v := .int .i64 t.2.2.1) (want_none) rfl (q_load to_3 rfl (Blk.cell (hS.box 0 rfl) rfl)) ?_
  obtain ⟨ho_2, hM⟩ := hM
  refine HO.val (v := .int .i64 (t.2.2.1.tdiv 2)) (want_none) rfl (q_quoN _ rfl rfl (by decide) rfl ho_2.1 ho_2.2) ?_
  obtain ⟨ho_3, hM⟩ := hM
  refine HO.val (v := .int .i64 ((t.1 * t.2.1) + (t.2.2.1.tdiv 2))) (want_none) rfl (q_addN _ rfl rfl rfl ho_3.1 ho_3.2) ?_
  refine HO.val (v := .int .i64 ((t.1 * t.2.1) + (t.2.2.1.tdiv 2))) (want_none) rfl (q_assign rfl) ?_
  refine HO.nil (thenQ_normal (?_))
  refine HW.ret (?_)
  refine ⟨.inr rfl, .int .i64 ((t.1 * t.2.1) + (t.2.2.1.tdiv 2)), res1 rfl (rt rfl), ?_⟩
  replace hS : St F (fr) h_1 := hS.perm2 [] 1 rfl rfl
  exact ⟨F, (t.1 * t.2.1) + (t.2.2.1.tdiv 2), rfl, hK, hS, hM⟩

def ref23_R_Hear_W (r_Now : Int) (r_L : List T_acequiaref23_One) (now : Int) (t : T_api_Tune) (port : Int) (Q : Bool → Int → (List T_acequiaref23_One) → Prop) : Prop :=
  ref23_R_in_W r_Now r_L port (fun r_2 => ((!r_2) = true → Q false r_Now r_L) ∧ ((!r_2) = false → ref23_R_Settle_W r_Now r_L now (fun r_Now_2 r_L_2 => ref14_Other_W t (fun r_3 => (I64 (r_Now_2 + r_3)) ∧ (((0 : Int) ≤ port ∧ port < (r_L_2.length : Int)) ∧ ((((gi r_L_2 port).1) < (r_Now_2 + r_3) → Q true r_Now_2 (r_L_2.set (port).toNat (r_Now_2 + r_3, (gi r_L_2 port).2))) ∧ (¬ (((gi r_L_2 port).1) < (r_Now_2 + r_3)) → Q true r_Now_2 r_L_2)))))))
set_option maxHeartbeats 40000000 in
set_option maxRecDepth 100000 in
theorem ref23_R_Hear_walk {F : Fz} {fr : List Ow} {h0 : Heap} (r_Now : Int) (r_L : List T_acequiaref23_One) (now : Int) (t : T_api_Tune) (port : Int) (br : Nat) (vr_L : Value) (hS : St F (Ow.box br 59 #[.int .i64 r_Now, vr_L] :: Ow.own 98 2 e_acequiaref23_One vr_L r_L :: fr) h0)  {Q : Bool → Int → (List T_acequiaref23_One) → Prop} (hM : ref23_R_Hear_W r_Now r_L now t port Q) :
    HC Try.prog 32 #[.pointer (some ⟨br, 0, none⟩), .int .i64 now, .agg (e_api_Tune t).toArray, .int .i64 port] h0 fun u h' => ∃ (F' : Fz) (r_1 : Bool) (r_Now_1 : Int) (r_L_1 : List T_acequiaref23_One) (v_1 : Value), u = .bool r_1 ∧ Kp F h0 F' h' ∧ St F' (Ow.box br 59 #[.int .i64 r_Now_1, v_1] :: Ow.own 98 2 e_acequiaref23_One v_1 r_L_1 :: fr) h' ∧ Q r_1 r_Now_1 r_L_1 := by
  unfold ref23_R_Hear_W at hM
  have hK := Kp.refl F h0
  refine HC.of_HW (n := 42) Try.func32 rfl rfl (Nat.le_of_ble_eq_true rfl) ?_
  refine HW.seq ?_
  refine HW.region ?_
  refine HO.eff (want_none) rfl (st_box (c := (e_api_Tune t).toArray) (k' := 5) hS rfl rfl) ?_
  rintro _ h_1 ⟨b_1, rfl, hS, hk⟩
  replace hK := hK.trans hk
  refine HO.val (v := .bool false) (want_none) rfl (q_assign rfl) ?_
  refine HO.nil (thenQ_normal (?_))
  refine HW.seq ?_
  refine HW.seq ?_
  refine HW.region ?_
  refine HO.val (v := .pointer (some ⟨br, 0, none⟩)) (want_none) rfl (q_move rfl) ?_
  refine HO.val (v := .int .i64 port) (want_none) rfl (q_move rfl) ?_
  replace hS : St F (Ow.box br 59 #[.int .i64 r_Now, vr_L] :: Ow.box b_1 50 (e_api_Tune t).toArray :: Ow.own 98 2 e_acequiaref23_One vr_L r_L :: fr) h_1 := hS.perm2 [1, 0, 2] 3 rfl rfl
  have hZ_1 := hS
  have hkz_1 := (hS.freeze).2
  replace hS := hS.freeze.1
  have hL_1 := hZ_1.lent
  replace hS : St (fun b => F b ∨ (Ow.box br 59 #[.int .i64 r_Now, vr_L]).foot b) (Ow.own 98 2 e_acequiaref23_One vr_L r_L :: Ow.box b_1 50 (e_api_Tune t).toArray :: fr) h_1 := hS.perm2 [1, 0] 2 rfl rfl
  have hZ_2 := hS
  have hkz_2 := (hS.freeze).2
  replace hS := hS.freeze.1
  have hL_2 : SliceF (fun b => (fun b => F b ∨ (Ow.box br 59 #[.int .i64 r_Now, vr_L]).foot b) b ∨ (Ow.own 98 2 e_acequiaref23_One vr_L r_L).foot b) h_1 2 e_acequiaref23_One vr_L r_L := ⟨(hZ_2.own 0 rfl).slice, fun _ b hb => .inr hb⟩
  refine HO.call (want_none) rfl (ec en_60 rfl rfl) (ref23_R_in_walk (fr := (Ow.box b_1 50 (e_api_Tune t).toArray :: fr)) r_Now r_L port br vr_L hS hL_2 (hL_1.kp hkz_2) hM) ?_
  rintro _ h_2 ⟨F_1, r_2, rfl, hk, hS, _, _, hM⟩
  obtain ⟨hS, hk⟩ := hZ_2.back hk hS
  obtain ⟨hS, hk⟩ := hZ_1.back hk hS
  generalize (fun b => (fun b => F_1 b ∧ ¬ (Ow.own 98 2 e_acequiaref23_One vr_L r_L).foot b) b ∧ ¬ (Ow.box br 59 #[.int .i64 r_Now, vr_L]).foot b) = F_2 at hS hk
  replace hK := hK.trans hk
  refine HO.val (v := .bool (!r_2)) (want_none) rfl (q_not rfl) ?_
  refine HO.nil (thenQ_normal (?_))
  refine HW.cond (!r_2) rfl (fun c_1 => ?_) (fun c_1 => ?_)
  · replace hM := hM.1 c_1
    refine HW.seq ?_
    refine HW.region ?_
    refine HO.val (v := .bool false) (want_none) rfl (q_assign rfl) ?_
    refine HO.nil (thenQ_normal (?_))
    refine HW.ret (thenQ_ret (?_))
    refine ⟨.inr rfl, .bool false, res1 rfl (rt rfl), ?_⟩
    replace hS : St F_2 (Ow.box br 59 #[.int .i64 r_Now, vr_L] :: Ow.own 98 2 e_acequiaref23_One vr_L r_L :: fr) h_2 := hS.perm2 [0, 1] 3 rfl rfl
    exact ⟨F_2, false, r_Now, r_L, vr_L, rfl, hK, hS, hM⟩
  · replace hM := hM.2 c_1
    refine HW.skip (thenQ_normal (?_))
    refine HW.seq ?_
    refine HW.region ?_
    refine HO.val (v := .pointer (some ⟨br, 0, none⟩)) (want_none) rfl (q_move rfl) ?_
    refine HO.val (v := .int .i64 now) (want_none) rfl (q_move rfl) ?_
    refine HO.call (want_none) rfl (ec en_35 rfl rfl) (ref23_R_Settle_walk (fr := (Ow.box b_1 50 (e_api_Tune t).toArray :: fr)) r_Now r_L now br vr_L hS hM) ?_
    rintro _ h_3 ⟨F_3, r_Now_2, r_L_2, v_2, rfl, hk, hS, hM⟩
    replace hK := hK.trans hk
    refine HO.nil (thenQ_normal (?_))
    refine HW.seq ?_
    refine HW.seq ?_
    refine HW.regionA 8 mixed (fun h => (Blk h br (.cells #[.int .i64 r_Now_2, v_2] 59 (0, 0))) ∧ (Blk h b_1 (.cells (e_api_Tune t).toArray 50 (0, 0)))) [] (by kernel_rfl) ?_
    refine HA.val (k := 0) (v := .pointer (some ⟨br, 0, none⟩)) rfl rfl (by kernel_rfl) (by kernel_rfl) (want_none) rfl (fun _ ⟨c1, c207⟩ => q_move rfl) ?_
    refine HA.val (k := 1) (v := .pointer (some ⟨br, 0, none⟩)) rfl rfl (by kernel_rfl) (by kernel_rfl) (want_none) rfl (fun _ ⟨c1, c207⟩ => q_nilCheck rfl) ?_
    refine HA.val (k := 2) (v := .pointer (some ⟨br, 0, none⟩)) rfl rfl (by kernel_rfl) (by kernel_rfl) (want_none) rfl (fun _ ⟨c1, c207⟩ => q_fieldAddr fa_59_0 rfl rfl) ?_
    refine HA.val (k := 3) (v := .int .i64 r_Now_2) rfl rfl (by kernel_rfl) (by kernel_rfl) (want_none) rfl (fun _ ⟨c1, c207⟩ => q_load to_3 rfl (Blk.cell c1 rfl)) ?_
    refine HA.val (k := 4) (v := .agg (e_api_Tune t).toArray) rfl rfl (by kernel_rfl) (by kernel_rfl) (want_none) rfl (fun _ ⟨c1, c207⟩ => q_loadAgg (cs := (e_api_Tune t)) ta_50 rfl rfl (Blk.cells (k := 5) c207 rfl)) ?_
    refine HA.one (k := 5) ⟨⟨(hS.box 0 rfl), (hS.box 2 rfl)⟩, (Go.Wk.at_nil _ _)⟩ (by kernel_rfl) ?_
    refine HS.call rfl (want_none) rfl (ec en_61 rfl rfl) (ref14_Other_walk (fr := (Ow.box br 59 #[.int .i64 r_Now_2, v_2] :: Ow.own 98 2 e_acequiaref23_One v_2 r_L_2 :: Ow.box b_1 50 (e_api_Tune t).toArray :: fr)) t hS hM) ?_
    rintro _ h_4 ⟨F_4, r_3, rfl, hk, hS, hM⟩
    replace hK := hK.trans hk
    obtain ⟨ho_1, hM⟩ := hM
    refine HA.val (k := 6) (v := .int .i64 (r_Now_2 + r_3)) rfl rfl (by kernel_rfl) (by kernel_rfl) (want_none) rfl (fun _ ⟨c1, c207⟩ => q_addN _ rfl rfl rfl ho_1.1 ho_1.2) ?_
    refine HA.val (k := 7) (v := .int .i64 (r_Now_2 + r_3)) rfl rfl (by kernel_rfl) (by kernel_rfl) (want_none) rfl (fun _ ⟨c1, c207⟩ => q_assign rfl) ?_
    refine HA.nil ⟨⟨(hS.box 0 rfl), (hS.box 2 rfl)⟩, (Go.Wk.at_nil _ _)⟩ (by kernel_rfl) (thenQ_normal (?_))
    refine HW.seq ?_
    refine HW.region ?_
    refine HO.val (v := .int .i64 (r_Now_2 + r_3)) (want_none) rfl (q_move rfl) ?_
    refine HO.val (v := .pointer (some ⟨br, 0, none⟩)) (want_none) rfl (q_move rfl) ?_
    refine HO.val (v := .pointer (some ⟨br, 0, none⟩)) (want_none) rfl (q_nilCheck rfl) ?_
    refine HO.val (v := .pointer (some ⟨br, 1, none⟩)) (want_none) rfl (q_fieldAddr fa_59_1 rfl rfl) ?_
    refine HO.val (v := v_2) (want_none) rfl (q_load to_57 rfl (Blk.cell (hS.box 0 rfl) rfl)) ?_
    refine HO.val (v := .int .i64 port) (want_none) rfl (q_move rfl) ?_
    obtain ⟨ho_2, hM⟩ := hM
    refine HO.val (v := elemPtr 2 v_2 (port).toNat) (want_none) rfl (q_idx ts_57 (hS.own 1 rfl).slice rfl rfl ho_2) ?_
    refine HO.val (v := fieldPtr 2 v_2 (port).toNat 0) (want_none) rfl (q_fldElem fa_98_0 (hS.own 1 rfl).slice rfl ho_2) ?_
    refine HO.val (v := .int .i64 ((gi r_L_2 port).1)) (want_none) rfl (q_ldField to_3 (hS.own 1 rfl).slice rfl ho_2 (by decide) rfl) ?_
    refine HO.val (v := .bool (decide (((gi r_L_2 port).1) < (r_Now_2 + r_3)))) (want_none) rfl (q_gtr rfl rfl) ?_
    refine HO.nil (thenQ_normal (?_))
    refine HW.cond (decide (((gi r_L_2 port).1) < (r_Now_2 + r_3))) rfl (fun c_2 => ?_) (fun c_2 => ?_)
    · replace hM := hM.1 (of_decide_eq_true c_2)
      refine HW.region ?_
      refine HO.val (v := .pointer (some ⟨br, 0, none⟩)) (want_none) rfl (q_move rfl) ?_
      refine HO.val (v := .pointer (some ⟨br, 0, none⟩)) (want_none) rfl (q_nilCheck rfl) ?_
      refine HO.val (v := .pointer (some ⟨br, 1, none⟩)) (want_none) rfl (q_fieldAddr fa_59_1 rfl rfl) ?_
      refine HO.val (v := v_2) (want_none) rfl (q_load to_57 rfl (Blk.cell (hS.box 0 rfl) rfl)) ?_
      refine HO.val (v := .int .i64 port) (want_none) rfl (q_move rfl) ?_
      refine HO.val (v := .int .i64 (r_Now_2 + r_3)) (want_none) rfl (q_move rfl) ?_
      refine HO.val (v := elemPtr 2 v_2 (port).toNat) (want_none) rfl (q_idx ts_57 (hS.own 1 rfl).slice rfl rfl ho_2) ?_
      refine HO.val (v := fieldPtr 2 v_2 (port).toNat 0) (want_none) rfl (q_fldElem fa_98_0 (hS.own 1 rfl).slice rfl ho_2) ?_
      refine HO.sto (want_none) rfl (st_storeField (a := (r_Now_2 + r_3, (gi r_L_2 port).2)) (n := (port).toNat) (j := 0) hS (i := 1) rfl to_3 rfl (by omega) (by decide) rfl (by rw [← gi_lt ho_2.1 ho_2.2]; rfl) rfl rfl) ?_
      rintro h_5 ⟨hS, hk⟩
      replace hS : St F_4 (Ow.box br 59 #[.int .i64 r_Now_2, v_2] :: Ow.own 98 2 e_acequiaref23_One v_2 (r_L_2.set (port).toNat (r_Now_2 + r_3, (gi r_L_2 port).2)) :: Ow.box b_1 50 (e_api_Tune t).toArray :: fr) h_5 := hS
      replace hK := hK.trans hk
      refine HO.nil (thenQ_normal (?_))
      refine HW.seq ?_
      refine HW.region ?_
      refine HO.val (v := .bool true) (want_none) rfl (q_assign rfl) ?_
      refine HO.nil (thenQ_normal (?_))
      refine HW.ret (?_)
      refine ⟨.inr rfl, .bool true, res1 rfl (rt rfl), ?_⟩
      replace hS : St F_4 (Ow.box br 59 #[.int .i64 r_Now_2, v_2] :: Ow.own 98 2 e_acequiaref23_One v_2 (r_L_2.set (port).toNat (r_Now_2 + r_3, (gi r_L_2 port).2)) :: fr) h_5 := hS.perm2 [0, 1] 3 rfl rfl
      exact ⟨F_4, true, r_Now_2, r_L_2.set (port).toNat (r_Now_2 + r_3, (gi r_L_2 port).2), v_2, rfl, hK, hS, hM⟩
    · replace hM := hM.2 (of_decide_eq_false c_2)
      refine HW.skip (thenQ_normal (?_))
      refine HW.seq ?_
      refine HW.region ?_
      refine HO.val (v := .bool true) (want_none) rfl (q_assign rfl) ?_
      refine HO.nil (thenQ_normal (?_))
      refine HW.ret (?_)
      refine ⟨.inr rfl, .bool true, res1 rfl (rt rfl), ?_⟩
      replace hS : St F_4 (Ow.box br 59 #[.int .i64 r_Now_2, v_2] :: Ow.own 98 2 e_acequiaref23_One v_2 r_L_2 :: fr) h_4 := hS.perm2 [0, 1] 3 rfl rfl
      exact ⟨F_4, true, r_Now_2, r_L_2, v_2, rfl, hK, hS, hM⟩

def route_Routes_Fix_W (r_now : Int) (r_till_at : List (Int × Int)) (r_fixed : List Bool) (port : Int) (is : Bool) (Q : Bool → Int → (List (Int × Int)) → (List Bool) → Prop) : Prop :=
  route_Routes_in_W r_now r_till_at r_fixed port (fun r_2 => ((!r_2) = true → Q false r_now r_till_at r_fixed) ∧ ((!r_2) = false → ((0 : Int) ≤ port ∧ port < (r_fixed.length : Int)) ∧ (Q (gi r_fixed port) r_now r_till_at (r_fixed.set (port).toNat is))))
set_option maxHeartbeats 40000000 in
set_option maxRecDepth 100000 in
theorem route_Routes_Fix_walk {F : Fz} {fr : List Ow} {h0 : Heap} (r_now : Int) (r_till_at : List (Int × Int)) (r_fixed : List Bool) (port : Int) (is : Bool) (br : Nat) (br_till : Nat) (rr_till_at : Nat) (vr_fixed : Value) (hS : St F (Ow.box br 94 #[.int .i64 r_now, .pointer (some ⟨br_till, 0, none⟩), vr_fixed] :: Ow.box br_till 106 #[.map (some rr_till_at)] :: Ow.map rr_till_at kI kI r_till_at :: Ow.own 4 1 encB vr_fixed r_fixed :: fr) h0)  {Q : Bool → Int → (List (Int × Int)) → (List Bool) → Prop} (hM : route_Routes_Fix_W r_now r_till_at r_fixed port is Q) :
    HC Try.prog 33 #[.pointer (some ⟨br, 0, none⟩), .int .i64 port, .bool is] h0 fun u h' => ∃ (F' : Fz) (r_1 : Bool) (r_now_1 : Int) (rm_1 : List (Int × Int)) (r_fixed_1 : List Bool) (v_1 : Value), u = .bool r_1 ∧ Kp F h0 F' h' ∧ St F' (Ow.box br 94 #[.int .i64 r_now_1, .pointer (some ⟨br_till, 0, none⟩), v_1] :: Ow.box br_till 106 #[.map (some rr_till_at)] :: Ow.map rr_till_at kI kI rm_1 :: Ow.own 4 1 encB v_1 r_fixed_1 :: fr) h' ∧ Q r_1 r_now_1 rm_1 r_fixed_1 := by
  unfold route_Routes_Fix_W at hM
  have hK := Kp.refl F h0
  refine HC.of_HW (n := 27) Try.func33 rfl rfl (Nat.le_of_ble_eq_true rfl) ?_
  refine HW.seq ?_
  refine HW.region ?_
  refine HO.val (v := .bool false) (want_none) rfl (q_assign rfl) ?_
  refine HO.nil (thenQ_normal (?_))
  refine HW.seq ?_
  refine HW.seq ?_
  refine HW.region ?_
  refine HO.val (v := .pointer (some ⟨br, 0, none⟩)) (want_none) rfl (q_move rfl) ?_
  refine HO.val (v := .int .i64 port) (want_none) rfl (q_move rfl) ?_
  have hZ_1 := hS
  have hkz_1 := (hS.freeze).2
  replace hS := hS.freeze.1
  have hL_1 := hZ_1.lent
  have hZ_2 := hS
  have hkz_2 := (hS.freeze).2
  replace hS := hS.freeze.1
  have hL_2 := hZ_2.lent
  have hZ_3 := hS
  have hkz_3 := (hS.freeze).2
  replace hS := hS.freeze.1
  have hL_3 := hZ_3.lent
  have hZ_4 := hS
  have hkz_4 := (hS.freeze).2
  replace hS := hS.freeze.1
  have hL_4 : SliceF (fun b => (fun b => (fun b => (fun b => F b ∨ (Ow.box br 94 #[.int .i64 r_now, .pointer (some ⟨br_till, 0, none⟩), vr_fixed]).foot b) b ∨ (Ow.box br_till 106 #[.map (some rr_till_at)]).foot b) b ∨ (Ow.map rr_till_at kI kI r_till_at).foot b) b ∨ (Ow.own 4 1 encB vr_fixed r_fixed).foot b) h0 1 encB vr_fixed r_fixed := ⟨(hZ_4.own 0 rfl).slice, fun _ b hb => .inr hb⟩
  refine HO.call (want_none) rfl (ec en_55 rfl rfl) (route_Routes_in_walk (fr := (fr)) r_now r_till_at r_fixed port br br_till rr_till_at vr_fixed hS (hL_3.kp hkz_4) ((hL_2.kp hkz_3).kp hkz_4) hL_4 (((hL_1.kp hkz_2).kp hkz_3).kp hkz_4) hM) ?_
  rintro _ h_1 ⟨F_1, r_2, rfl, hk, hS, _, _, _, _, hM⟩
  obtain ⟨hS, hk⟩ := hZ_4.back hk hS
  obtain ⟨hS, hk⟩ := hZ_3.back hk hS
  obtain ⟨hS, hk⟩ := hZ_2.back hk hS
  obtain ⟨hS, hk⟩ := hZ_1.back hk hS
  generalize (fun b => (fun b => (fun b => (fun b => F_1 b ∧ ¬ (Ow.own 4 1 encB vr_fixed r_fixed).foot b) b ∧ ¬ (Ow.map rr_till_at kI kI r_till_at).foot b) b ∧ ¬ (Ow.box br_till 106 #[.map (some rr_till_at)]).foot b) b ∧ ¬ (Ow.box br 94 #[.int .i64 r_now, .pointer (some ⟨br_till, 0, none⟩), vr_fixed]).foot b) = F_2 at hS hk
  replace hK := hK.trans hk
  refine HO.val (v := .bool (!r_2)) (want_none) rfl (q_not rfl) ?_
  refine HO.nil (thenQ_normal (?_))
  refine HW.cond (!r_2) rfl (fun c_1 => ?_) (fun c_1 => ?_)
  · replace hM := hM.1 c_1
    refine HW.seq ?_
    refine HW.region ?_
    refine HO.val (v := .bool false) (want_none) rfl (q_assign rfl) ?_
    refine HO.nil (thenQ_normal (?_))
    refine HW.ret (thenQ_ret (?_))
    refine ⟨.inr rfl, .bool false, res1 rfl (rt rfl), ?_⟩
    exact ⟨F_2, false, r_now, r_till_at, r_fixed, vr_fixed, rfl, hK, hS, hM⟩
  · replace hM := hM.2 c_1
    refine HW.skip (thenQ_normal (?_))
    refine HW.seq ?_
    refine HW.region ?_
    refine HO.val (v := .pointer (some ⟨br, 0, none⟩)) (want_none) rfl (q_move rfl) ?_
    refine HO.val (v := .pointer (some ⟨br, 0, none⟩)) (want_none) rfl (q_nilCheck rfl) ?_
    refine HO.val (v := .pointer (some ⟨br, 2, none⟩)) (want_none) rfl (q_fieldAddr fa_94_2 rfl rfl) ?_
    refine HO.val (v := vr_fixed) (want_none) rfl (q_load to_92 rfl (Blk.cell (hS.box 0 rfl) rfl)) ?_
    refine HO.val (v := .int .i64 port) (want_none) rfl (q_move rfl) ?_
    obtain ⟨ho_1, hM⟩ := hM
    refine HO.val (v := elemPtr 1 vr_fixed (port).toNat) (want_none) rfl (q_idx ts_92 (hS.own 3 rfl).slice rfl rfl ho_1) ?_
    refine HO.val (v := .bool (gi r_fixed port)) (want_none) rfl (q_ldElem to_4 (hS.own 3 rfl).slice rfl ho_1 rfl) ?_
    refine HO.val (v := .bool (gi r_fixed port)) (want_none) rfl (q_assign rfl) ?_
    refine HO.nil (thenQ_normal (?_))
    refine HW.seq ?_
    refine HW.region ?_
    refine HO.val (v := .pointer (some ⟨br, 0, none⟩)) (want_none) rfl (q_move rfl) ?_
    refine HO.val (v := .pointer (some ⟨br, 0, none⟩)) (want_none) rfl (q_nilCheck rfl) ?_
    refine HO.val (v := .pointer (some ⟨br, 2, none⟩)) (want_none) rfl (q_fieldAddr fa_94_2 rfl rfl) ?_
    refine HO.val (v := vr_fixed) (want_none) rfl (q_load to_92 rfl (Blk.cell (hS.box 0 rfl) rfl)) ?_
    refine HO.val (v := .int .i64 port) (want_none) rfl (q_move rfl) ?_
    refine HO.val (v := .bool is) (want_none) rfl (q_move rfl) ?_
    refine HO.val (v := elemPtr 1 vr_fixed (port).toNat) (want_none) rfl (q_idx ts_92 (hS.own 3 rfl).slice rfl rfl ho_1) ?_
    refine HO.sto (want_none) rfl (st_storeField (a := is) (n := (port).toNat) (j := 0) hS (i := 3) rfl to_4 (elem_field _ _ _) (by omega) (by decide) rfl (by rw [← gi_lt ho_1.1 ho_1.2]; rfl) rfl rfl) ?_
    rintro h_2 ⟨hS, hk⟩
    replace hS : St F_2 (Ow.box br 94 #[.int .i64 r_now, .pointer (some ⟨br_till, 0, none⟩), vr_fixed] :: Ow.box br_till 106 #[.map (some rr_till_at)] :: Ow.map rr_till_at kI kI r_till_at :: Ow.own 4 1 encB vr_fixed (r_fixed.set (port).toNat is) :: fr) h_2 := hS
    replace hK := hK.trans hk
    refine HO.nil (thenQ_normal (?_))
    refine HW.seq ?_
    refine HW.region ?_
    refine HO.val (v := .bool (gi r_fixed port)) (want_none) rfl (q_move rfl) ?_
    refine HO.val (v := .bool (gi r_fixed port)) (want_none) rfl (q_assign rfl) ?_
    refine HO.nil (thenQ_normal (?_))
    refine HW.ret (?_)
    refine ⟨.inr rfl, .bool (gi r_fixed port), res1 rfl (rt rfl), ?_⟩
    exact ⟨F_2, (gi r_fixed port), r_now, r_till_at, r_fixed.set (port).toNat is, vr_fixed, rfl, hK, hS, hM⟩

def ref23_R_Fix_W (r_Now : Int) (r_L : List T_acequiaref23_One) (port : Int) (is : Bool) (Q : Bool → Int → (List T_acequiaref23_One) → Prop) : Prop :=
  ref23_R_in_W r_Now r_L port (fun r_2 => ((!r_2) = true → Q false r_Now r_L) ∧ ((!r_2) = false → ((0 : Int) ≤ port ∧ port < (r_L.length : Int)) ∧ (Q ((gi r_L port).2) r_Now (r_L.set (port).toNat ((gi r_L port).1, is)))))
set_option maxHeartbeats 40000000 in
set_option maxRecDepth 100000 in
theorem ref23_R_Fix_walk {F : Fz} {fr : List Ow} {h0 : Heap} (r_Now : Int) (r_L : List T_acequiaref23_One) (port : Int) (is : Bool) (br : Nat) (vr_L : Value) (hS : St F (Ow.box br 59 #[.int .i64 r_Now, vr_L] :: Ow.own 98 2 e_acequiaref23_One vr_L r_L :: fr) h0)  {Q : Bool → Int → (List T_acequiaref23_One) → Prop} (hM : ref23_R_Fix_W r_Now r_L port is Q) :
    HC Try.prog 34 #[.pointer (some ⟨br, 0, none⟩), .int .i64 port, .bool is] h0 fun u h' => ∃ (F' : Fz) (r_1 : Bool) (r_Now_1 : Int) (r_L_1 : List T_acequiaref23_One) (v_1 : Value), u = .bool r_1 ∧ Kp F h0 F' h' ∧ St F' (Ow.box br 59 #[.int .i64 r_Now_1, v_1] :: Ow.own 98 2 e_acequiaref23_One v_1 r_L_1 :: fr) h' ∧ Q r_1 r_Now_1 r_L_1 := by
  unfold ref23_R_Fix_W at hM
  have hK := Kp.refl F h0
  refine HC.of_HW (n := 29) Try.func34 rfl rfl (Nat.le_of_ble_eq_true rfl) ?_
  refine HW.seq ?_
  refine HW.region ?_
  refine HO.val (v := .bool false) (want_none) rfl (q_assign rfl) ?_
  refine HO.nil (thenQ_normal (?_))
  refine HW.seq ?_
  refine HW.seq ?_
  refine HW.region ?_
  refine HO.val (v := .pointer (some ⟨br, 0, none⟩)) (want_none) rfl (q_move rfl) ?_
  refine HO.val (v := .int .i64 port) (want_none) rfl (q_move rfl) ?_
  have hZ_1 := hS
  have hkz_1 := (hS.freeze).2
  replace hS := hS.freeze.1
  have hL_1 := hZ_1.lent
  have hZ_2 := hS
  have hkz_2 := (hS.freeze).2
  replace hS := hS.freeze.1
  have hL_2 : SliceF (fun b => (fun b => F b ∨ (Ow.box br 59 #[.int .i64 r_Now, vr_L]).foot b) b ∨ (Ow.own 98 2 e_acequiaref23_One vr_L r_L).foot b) h0 2 e_acequiaref23_One vr_L r_L := ⟨(hZ_2.own 0 rfl).slice, fun _ b hb => .inr hb⟩
  refine HO.call (want_none) rfl (ec en_60 rfl rfl) (ref23_R_in_walk (fr := (fr)) r_Now r_L port br vr_L hS hL_2 (hL_1.kp hkz_2) hM) ?_
  rintro _ h_1 ⟨F_1, r_2, rfl, hk, hS, _, _, hM⟩
  obtain ⟨hS, hk⟩ := hZ_2.back hk hS
  obtain ⟨hS, hk⟩ := hZ_1.back hk hS
  generalize (fun b => (fun b => F_1 b ∧ ¬ (Ow.own 98 2 e_acequiaref23_One vr_L r_L).foot b) b ∧ ¬ (Ow.box br 59 #[.int .i64 r_Now, vr_L]).foot b) = F_2 at hS hk
  replace hK := hK.trans hk
  refine HO.val (v := .bool (!r_2)) (want_none) rfl (q_not rfl) ?_
  refine HO.nil (thenQ_normal (?_))
  refine HW.cond (!r_2) rfl (fun c_1 => ?_) (fun c_1 => ?_)
  · replace hM := hM.1 c_1
    refine HW.seq ?_
    refine HW.region ?_
    refine HO.val (v := .bool false) (want_none) rfl (q_assign rfl) ?_
    refine HO.nil (thenQ_normal (?_))
    refine HW.ret (thenQ_ret (?_))
    refine ⟨.inr rfl, .bool false, res1 rfl (rt rfl), ?_⟩
    exact ⟨F_2, false, r_Now, r_L, vr_L, rfl, hK, hS, hM⟩
  · replace hM := hM.2 c_1
    refine HW.skip (thenQ_normal (?_))
    refine HW.seq ?_
    refine HW.region ?_
    refine HO.val (v := .pointer (some ⟨br, 0, none⟩)) (want_none) rfl (q_move rfl) ?_
    refine HO.val (v := .pointer (some ⟨br, 0, none⟩)) (want_none) rfl (q_nilCheck rfl) ?_
    refine HO.val (v := .pointer (some ⟨br, 1, none⟩)) (want_none) rfl (q_fieldAddr fa_59_1 rfl rfl) ?_
    refine HO.val (v := vr_L) (want_none) rfl (q_load to_57 rfl (Blk.cell (hS.box 0 rfl) rfl)) ?_
    refine HO.val (v := .int .i64 port) (want_none) rfl (q_move rfl) ?_
    obtain ⟨ho_1, hM⟩ := hM
    refine HO.val (v := elemPtr 2 vr_L (port).toNat) (want_none) rfl (q_idx ts_57 (hS.own 1 rfl).slice rfl rfl ho_1) ?_
    refine HO.val (v := fieldPtr 2 vr_L (port).toNat 1) (want_none) rfl (q_fldElem fa_98_1 (hS.own 1 rfl).slice rfl ho_1) ?_
    refine HO.val (v := .bool ((gi r_L port).2)) (want_none) rfl (q_ldField to_4 (hS.own 1 rfl).slice rfl ho_1 (by decide) rfl) ?_
    refine HO.val (v := .bool ((gi r_L port).2)) (want_none) rfl (q_assign rfl) ?_
    refine HO.nil (thenQ_normal (?_))
    refine HW.seq ?_
    refine HW.region ?_
    refine HO.val (v := .pointer (some ⟨br, 0, none⟩)) (want_none) rfl (q_move rfl) ?_
    refine HO.val (v := .pointer (some ⟨br, 0, none⟩)) (want_none) rfl (q_nilCheck rfl) ?_
    refine HO.val (v := .pointer (some ⟨br, 1, none⟩)) (want_none) rfl (q_fieldAddr fa_59_1 rfl rfl) ?_
    refine HO.val (v := vr_L) (want_none) rfl (q_load to_57 rfl (Blk.cell (hS.box 0 rfl) rfl)) ?_
    refine HO.val (v := .int .i64 port) (want_none) rfl (q_move rfl) ?_
    refine HO.val (v := .bool is) (want_none) rfl (q_move rfl) ?_
    refine HO.val (v := elemPtr 2 vr_L (port).toNat) (want_none) rfl (q_idx ts_57 (hS.own 1 rfl).slice rfl rfl ho_1) ?_
    refine HO.val (v := fieldPtr 2 vr_L (port).toNat 1) (want_none) rfl (q_fldElem fa_98_1 (hS.own 1 rfl).slice rfl ho_1) ?_
    refine HO.sto (want_none) rfl (st_storeField (a := ((gi r_L port).1, is)) (n := (port).toNat) (j := 1) hS (i := 1) rfl to_4 rfl (by omega) (by decide) rfl (by rw [← gi_lt ho_1.1 ho_1.2]; rfl) rfl rfl) ?_
    rintro h_2 ⟨hS, hk⟩
    replace hS : St F_2 (Ow.box br 59 #[.int .i64 r_Now, vr_L] :: Ow.own 98 2 e_acequiaref23_One vr_L (r_L.set (port).toNat ((gi r_L port).1, is)) :: fr) h_2 := hS
    replace hK := hK.trans hk
    refine HO.nil (thenQ_normal (?_))
    refine HW.seq ?_
    refine HW.region ?_
    refine HO.val (v := .bool ((gi r_L port).2)) (want_none) rfl (q_move rfl) ?_
    refine HO.val (v := .bool ((gi r_L port).2)) (want_none) rfl (q_assign rfl) ?_
    refine HO.nil (thenQ_normal (?_))
    refine HW.ret (?_)
    refine ⟨.inr rfl, .bool ((gi r_L port).2), res1 rfl (rt rfl), ?_⟩
    exact ⟨F_2, (gi r_L port).2, r_Now, r_L.set (port).toNat ((gi r_L port).1, is), vr_L, rfl, hK, hS, hM⟩

def clock_Clock_Next_int_l1 (c_at : List (Int × Int)) (Q : Int → Int → Bool → (List (Int × Int)) → Prop) (K_1 : (List (Int × Int)) → Int → Bool → Prop) (rem_1 : List (Int × Int)) (out_1 : Int) (found_1 : Bool) : Prop :=
  (rem_1 = [] → Q out_1 (mget0 c_at out_1) found_1 c_at) ∧ (∀ (p_1 : Int × Int) (rem_2 : List (Int × Int)), List.Perm rem_1 (p_1 :: rem_2) → ((!found_1) = true → K_1 rem_2 p_1.1 true) ∧ ((!found_1) = false → clock_Clock_before_int_W c_at p_1.1 out_1 (fun r_1 => (r_1 < 0 → K_1 rem_2 p_1.1 true) ∧ (¬ (r_1 < 0) → K_1 rem_2 out_1 found_1))))
def clock_Clock_Next_int_W (c_at : List (Int × Int)) (Q : Int → Int → Bool → (List (Int × Int)) → Prop) : Prop :=
  loopW (fun (K_1 : ((List (Int × Int)) × Int × Bool) → Prop) (s : (List (Int × Int)) × Int × Bool) => clock_Clock_Next_int_l1 c_at Q (fun rem_1 out_1 found_1 => K_1 (rem_1, out_1, found_1)) s.1 s.2.1 s.2.2) (c_at, 0, false)
set_option maxHeartbeats 40000000 in
set_option maxRecDepth 100000 in
theorem clock_Clock_Next_int_walk {F : Fz} {fr : List Ow} {h0 : Heap} (c_at : List (Int × Int)) (bc : Nat) (rc_at : Nat) (hS : St F (Ow.box bc 106 #[.map (some rc_at)] :: Ow.map rc_at kI kI c_at :: fr) h0)  {Q : Int → Int → Bool → (List (Int × Int)) → Prop} (hM : clock_Clock_Next_int_W c_at Q) :
    HC Try.prog 62 #[.pointer (some ⟨bc, 0, none⟩)] h0 fun u h' => ∃ (F' : Fz) (r0_1 : Int) (r1_1 : Int) (r2_1 : Bool) (cm_1 : List (Int × Int)), u = .tuple #[.int .i64 r0_1, .int .i64 r1_1, .bool r2_1] ∧ Kp F h0 F' h' ∧ St F' (Ow.box bc 106 #[.map (some rc_at)] :: Ow.map rc_at kI kI cm_1 :: fr) h' ∧ Q r0_1 r1_1 r2_1 cm_1 := by
  unfold clock_Clock_Next_int_W at hM
  have hK := Kp.refl F h0
  refine HC.of_HW (n := 38) Try.func62 rfl rfl (Nat.le_of_ble_eq_true rfl) ?_
  refine HW.seq ?_
  refine HW.region ?_
  refine HO.val (v := .int .i64 0) (want_none) rfl (q_assign rfl) ?_
  refine HO.val (v := .int .i64 0) (want_none) rfl (q_assign rfl) ?_
  refine HO.val (v := .bool false) (want_none) rfl (q_assign rfl) ?_
  refine HO.nil (thenQ_normal (?_))
  refine HW.seq ?_
  refine HW.region ?_
  refine HO.val (v := .int .i64 0) (want_none) rfl (q_assign rfl) ?_
  refine HO.nil (thenQ_normal (?_))
  refine HW.seq ?_
  refine HW.region ?_
  refine HO.val (v := .bool false) (want_none) rfl (q_assign rfl) ?_
  refine HO.nil (thenQ_normal (?_))
  refine HW.seq ?_
  refine HW.seq ?_
  refine HW.region ?_
  refine HO.val (v := .pointer (some ⟨bc, 0, none⟩)) (want_none) rfl (q_move rfl) ?_
  refine HO.val (v := .bool false) (want_none) rfl (q_eqlPnil Try.underlying90 rfl rfl rfl) ?_
  refine HO.nil (thenQ_normal (?_))
  refine HW.condF rfl ?_
  refine HW.skip (thenQ_normal (?_))
  refine HW.seq ?_
  refine HW.seq ?_
  refine HW.region ?_
  refine HO.val (v := .pointer (some ⟨bc, 0, none⟩)) (want_none) rfl (q_move rfl) ?_
  refine HO.val (v := .pointer (some ⟨bc, 0, none⟩)) (want_none) rfl (q_nilCheck rfl) ?_
  refine HO.val (v := .pointer (some ⟨bc, 0, none⟩)) (want_none) rfl (q_fieldAddr fa_106_0 rfl rfl) ?_
  refine HO.val (v := .map (some rc_at)) (want_none) rfl (q_load to_104 rfl (Blk.cell (hS.box 0 rfl) rfl)) ?_
  refine HO.eff (want_none) rfl (st_range hS (i := 1) rfl Try.underlying104 rfl) ?_
  rintro _ h_1 ⟨it_1, rfl, hS, hk⟩
  replace hS : St F (Ow.box bc 106 #[.map (some rc_at)] :: Ow.iter it_1 rc_at kI kI c_at c_at :: fr) h_1 := hS
  replace hK := hK.trans hk
  refine HO.nil (thenQ_normal (?_))
  refine HW.block ?_
  obtain ⟨I_1, m_1, hI_1, hR_1⟩ := hM
  refine HW.loop (S := (List (Int × Int)) × Int × Bool) (fun s f h => match s with | (rem_1, out_1, found_1) => ∃ (F' : Fz), f 0 = .pointer (some ⟨bc, 0, none⟩) ∧ f 2 = .int .i64 0 ∧ f 3 = .int .i64 0 ∧ f 4 = .bool false ∧ f 5 = .int .i64 out_1 ∧ f 6 = .bool found_1 ∧ f 15 = .pointer (some ⟨it_1, 0, none⟩) ∧ Kp F h0 F' h ∧ St F' (Ow.box bc 106 #[.map (some rc_at)] :: Ow.iter it_1 rc_at kI kI c_at rem_1 :: fr) h ∧ I_1 (rem_1, out_1, found_1)) m_1 (c_at, 0, false) ⟨F, rfl, rfl, rfl, rfl, rfl, rfl, rfl, hK, hS, hI_1⟩ ?_
  rintro ⟨rem_1, out_1, found_1⟩ f_1 h_2 ⟨F_1, e0, e2, e3, e4, e5, e6, e15, hK, hS, hI0⟩
  obtain ⟨K_1, hKe_1⟩ : ∃ K : (List (Int × Int)) → Int → Bool → Prop, K = fun rem_1' out_1' found_1' => I_1 (rem_1', out_1', found_1') ∧ m_1 (rem_1', out_1', found_1') < m_1 (rem_1, out_1, found_1) := ⟨_, rfl⟩
  have hM : clock_Clock_Next_int_l1 c_at Q K_1 rem_1 out_1 found_1 := by rw [hKe_1]; exact hR_1 (rem_1, out_1, found_1) hI0
  unfold clock_Clock_Next_int_l1 at hM
  refine HW.fr [(0, .pointer (some ⟨bc, 0, none⟩)), (2, .int .i64 0), (3, .int .i64 0), (4, .bool false), (5, .int .i64 out_1), (6, .bool found_1), (15, .pointer (some ⟨it_1, 0, none⟩))] ⟨e0, e2, e3, e4, e5, e6, e15, trivial⟩ ?_
  refine HW.seq ?_
  refine HW.region ?_
  refine HO.eff (want_none) rfl (st_next hS (i := 1) rfl rfl) ?_
  rintro _ h_3 (⟨hrem, rfl, hEq⟩ | ⟨p_1, rem_2, hperm, rfl, hS, hk⟩)
  · rw [hEq]
    replace hM := hM.1 hrem
    replace hS := hS.done 1 rfl
    replace hS : St F_1 (Ow.box bc 106 #[.map (some rc_at)] :: Ow.map rc_at kI kI c_at :: fr) h_2 := hS
    refine HO.val (v := .bool false) (want_none) rfl (q_extract rfl rfl) ?_
    refine HO.nil (thenQ_normal (?_))
    refine HW.seq ?_
    refine HW.condF rfl ?_
    refine HW.exit (thenQ_exit (thenQ_exit (blockQ_exit (thenQ_normal (?_)))))
    refine HW.seq ?_
    refine HW.regionA 11 mixed (fun h => (Blk h bc (.cells #[.map (some rc_at)] 106 (0, 0))) ∧ (MapIs h rc_at kI kI c_at)) [] (by kernel_rfl) ?_
    refine HA.val (k := 0) (v := .int .i64 out_1) rfl rfl (by kernel_rfl) (by kernel_rfl) (want_none) rfl (fun _ ⟨c307, c308⟩ => q_move rfl) ?_
    refine HA.val (k := 1) (v := .pointer (some ⟨bc, 0, none⟩)) rfl rfl (by kernel_rfl) (by kernel_rfl) (want_none) rfl (fun _ ⟨c307, c308⟩ => q_move rfl) ?_
    refine HA.val (k := 2) (v := .pointer (some ⟨bc, 0, none⟩)) rfl rfl (by kernel_rfl) (by kernel_rfl) (want_none) rfl (fun _ ⟨c307, c308⟩ => q_nilCheck rfl) ?_
    refine HA.val (k := 3) (v := .pointer (some ⟨bc, 0, none⟩)) rfl rfl (by kernel_rfl) (by kernel_rfl) (want_none) rfl (fun _ ⟨c307, c308⟩ => q_fieldAddr fa_106_0 rfl rfl) ?_
    refine HA.val (k := 4) (v := .map (some rc_at)) rfl rfl (by kernel_rfl) (by kernel_rfl) (want_none) rfl (fun _ ⟨c307, c308⟩ => q_load to_104 rfl (Blk.cell c307 rfl)) ?_
    refine HA.val (k := 5) (v := .int .i64 out_1) rfl rfl (by kernel_rfl) (by kernel_rfl) (want_none) rfl (fun _ ⟨c307, c308⟩ => q_move rfl) ?_
    refine HA.val (k := 6) (v := .int .i64 (mget0 c_at out_1)) rfl rfl (by kernel_rfl) (by kernel_rfl) (want_none) rfl (fun _ ⟨c307, c308⟩ => (q_lookup (k := out_1) ka_3 tmk_104 c308 rfl rfl).of_eq (mval0 (z := .int .i64 0) rfl)) ?_
    refine HA.val (k := 7) (v := .bool found_1) rfl rfl (by kernel_rfl) (by kernel_rfl) (want_none) rfl (fun _ ⟨c307, c308⟩ => q_move rfl) ?_
    refine HA.val (k := 8) (v := .int .i64 out_1) rfl rfl (by kernel_rfl) (by kernel_rfl) (want_none) rfl (fun _ ⟨c307, c308⟩ => q_assign rfl) ?_
    refine HA.val (k := 9) (v := .int .i64 (mget0 c_at out_1)) rfl rfl (by kernel_rfl) (by kernel_rfl) (want_none) rfl (fun _ ⟨c307, c308⟩ => q_assign rfl) ?_
    refine HA.val (k := 10) (v := .bool found_1) rfl rfl (by kernel_rfl) (by kernel_rfl) (want_none) rfl (fun _ ⟨c307, c308⟩ => q_assign rfl) ?_
    refine HA.nil ⟨⟨(hS.box 0 rfl), (hS.mp 1 rfl)⟩, (Go.Wk.at_nil _ _)⟩ (by kernel_rfl) (thenQ_normal (?_))
    refine HW.ret (?_)
    refine ⟨.inr rfl, .tuple #[.int .i64 out_1, .int .i64 (mget0 c_at out_1), .bool found_1], res3 rfl (rt rfl) (rt rfl) (rt rfl), ?_⟩
    exact ⟨F_1, out_1, mget0 c_at out_1, found_1, c_at, rfl, hK, hS, hM⟩
  · replace hM := hM.2 p_1 rem_2 hperm
    replace hS : St F_1 (Ow.box bc 106 #[.map (some rc_at)] :: Ow.cur it_1 rc_at kI kI c_at rem_2 p_1 :: fr) h_3 := hS
    replace hK := hK.trans hk
    refine HO.val (v := .bool true) (want_none) rfl (q_extract rfl rfl) ?_
    refine HO.nil (thenQ_normal (?_))
    refine HW.seq ?_
    refine HW.condT rfl ?_
    refine HW.skip (thenQ_normal (?_))
    refine HW.block ?_
    refine HW.seq ?_
    refine HW.region ?_
    refine HO.val (v := .tuple #[.int .i64 p_1.1, .int .i64 p_1.2]) (want_none) rfl (q_entry (hS.cu 1 rfl) rfl) ?_
    refine HO.val (v := .int .i64 p_1.1) (want_none) rfl (q_extract rfl rfl) ?_
    refine HO.val (v := .int .i64 p_1.1) (want_none) rfl (q_assign rfl) ?_
    refine HO.nil (thenQ_normal (?_))
    refine HW.seq ?_
    refine HW.region ?_
    refine HO.val (v := .bool found_1) (want_none) rfl (q_move rfl) ?_
    refine HO.val (v := .bool (!found_1)) (want_none) rfl (q_not rfl) ?_
    refine HO.val (v := .bool (!found_1)) (want_none) rfl (q_move rfl) ?_
    rcases Bool.eq_false_or_eq_true (!found_1) with c_1 | c_1
    · replace hM := hM.1 c_1
      refine HO.past (past_by rfl rfl c_1) rfl ?_
      refine HO.past (past_by rfl rfl c_1) rfl ?_
      refine HO.past (past_by rfl rfl c_1) rfl ?_
      refine HO.past (past_by rfl rfl c_1) rfl ?_
      refine HO.past (past_by rfl rfl c_1) rfl ?_
      refine HO.val (v := .bool true) (want_none) rfl (q_pickK true rfl c_1 rfl) ?_
      refine HO.nil (thenQ_normal (?_))
      refine HW.condT rfl ?_
      refine HW.region ?_
      refine HO.val (v := .int .i64 p_1.1) (want_none) rfl (q_move rfl) ?_
      refine HO.val (v := .int .i64 p_1.1) (want_none) rfl (q_assign rfl) ?_
      refine HO.val (v := .bool true) (want_none) rfl (q_assign rfl) ?_
      refine HO.nil (blockQ_normal (thenQ_normal (?_)))
      replace hS := hS.again 1 rfl
      replace hS : St F_1 (Ow.box bc 106 #[.map (some rc_at)] :: Ow.iter it_1 rc_at kI kI c_at rem_2 :: fr) h_3 := hS
      rw [hKe_1] at hM
      exact ⟨(rem_2, p_1.1, true), ⟨F_1, rfl, rfl, rfl, rfl, rfl, rfl, rfl, hK, hS, hM.1⟩, hM.2⟩
    · replace hM := hM.2 c_1
      refine HO.val (v := .pointer (some ⟨bc, 0, none⟩)) (want_by rfl rfl c_1) rfl (q_move rfl) ?_
      refine HO.val (v := .int .i64 p_1.1) (want_by rfl rfl c_1) rfl (q_move rfl) ?_
      refine HO.val (v := .int .i64 out_1) (want_by rfl rfl c_1) rfl (q_move rfl) ?_
      have hZ_1 := hS
      have hkz_1 := (hS.freeze).2
      replace hS := hS.freeze.1
      have hL_1 := hZ_1.lent
      have hZ_2 := hS
      have hkz_2 := (hS.freeze).2
      replace hS := hS.freeze.1
      have hL_2 := hZ_2.lent.cur
      refine HO.call (want_by rfl rfl c_1) rfl (ec en_72 rfl rfl) (clock_Clock_before_int_walk (fr := (fr)) c_at p_1.1 out_1 bc rc_at hS hL_2 (hL_1.kp hkz_2) hM) ?_
      rintro _ h_4 ⟨F_2, r_1, rfl, hk, hS, _, _, hM⟩
      obtain ⟨hS, hk⟩ := hZ_2.back hk hS
      obtain ⟨hS, hk⟩ := hZ_1.back hk hS
      generalize (fun b => (fun b => F_2 b ∧ ¬ (Ow.cur it_1 rc_at kI kI c_at rem_2 p_1).foot b) b ∧ ¬ (Ow.box bc 106 #[.map (some rc_at)]).foot b) = F_3 at hS hk
      replace hK := hK.trans hk
      refine HO.val (v := .bool (decide (r_1 < 0))) (want_by rfl rfl c_1) rfl (q_lss rfl rfl) ?_
      refine HO.val (v := .bool (decide (r_1 < 0))) (want_none) rfl (q_pickK false rfl c_1 rfl) ?_
      refine HO.nil (thenQ_normal (?_))
      refine HW.cond (decide (r_1 < 0)) rfl (fun c_2 => ?_) (fun c_2 => ?_)
      · replace hM := hM.1 (of_decide_eq_true c_2)
        refine HW.region ?_
        refine HO.val (v := .int .i64 p_1.1) (want_none) rfl (q_move rfl) ?_
        refine HO.val (v := .int .i64 p_1.1) (want_none) rfl (q_assign rfl) ?_
        refine HO.val (v := .bool true) (want_none) rfl (q_assign rfl) ?_
        refine HO.nil (blockQ_normal (thenQ_normal (?_)))
        replace hS := hS.again 1 rfl
        replace hS : St F_3 (Ow.box bc 106 #[.map (some rc_at)] :: Ow.iter it_1 rc_at kI kI c_at rem_2 :: fr) h_4 := hS
        rw [hKe_1] at hM
        exact ⟨(rem_2, p_1.1, true), ⟨F_3, rfl, rfl, rfl, rfl, rfl, rfl, rfl, hK, hS, hM.1⟩, hM.2⟩
      · replace hM := hM.2 (of_decide_eq_false c_2)
        refine HW.skip (blockQ_normal (thenQ_normal (?_)))
        replace hS := hS.again 1 rfl
        replace hS : St F_3 (Ow.box bc 106 #[.map (some rc_at)] :: Ow.iter it_1 rc_at kI kI c_at rem_2 :: fr) h_4 := hS
        rw [hKe_1] at hM
        exact ⟨(rem_2, out_1, found_1), ⟨F_3, rfl, rfl, rfl, rfl, rfl, rfl, rfl, hK, hS, hM.1⟩, hM.2⟩

def route_Routes_Next_W (r_now : Int) (r_till_at : List (Int × Int)) (r_fixed : List Bool) (now : Int) (Q : Int → Bool → Int → (List (Int × Int)) → (List Bool) → Prop) : Prop :=
  route_Routes_settle_W r_now r_till_at r_fixed now (fun r_1 r_now_2 rm_2 r_fixed_2 => clock_Clock_Next_int_W rm_2 (fun r0_2 r1_2 r2_1 cm_1 => Q r1_2 r2_1 r_now_2 cm_1 r_fixed_2))
set_option maxHeartbeats 40000000 in
set_option maxRecDepth 100000 in
theorem route_Routes_Next_walk {F : Fz} {fr : List Ow} {h0 : Heap} (r_now : Int) (r_till_at : List (Int × Int)) (r_fixed : List Bool) (now : Int) (br : Nat) (br_till : Nat) (rr_till_at : Nat) (vr_fixed : Value) (hS : St F (Ow.box br 94 #[.int .i64 r_now, .pointer (some ⟨br_till, 0, none⟩), vr_fixed] :: Ow.box br_till 106 #[.map (some rr_till_at)] :: Ow.map rr_till_at kI kI r_till_at :: Ow.own 4 1 encB vr_fixed r_fixed :: fr) h0)  {Q : Int → Bool → Int → (List (Int × Int)) → (List Bool) → Prop} (hM : route_Routes_Next_W r_now r_till_at r_fixed now Q) :
    HC Try.prog 36 #[.pointer (some ⟨br, 0, none⟩), .int .i64 now] h0 fun u h' => ∃ (F' : Fz) (r0_1 : Int) (r1_1 : Bool) (r_now_1 : Int) (rm_1 : List (Int × Int)) (r_fixed_1 : List Bool) (v_1 : Value), u = .tuple #[.int .i64 r0_1, .bool r1_1] ∧ Kp F h0 F' h' ∧ St F' (Ow.box br 94 #[.int .i64 r_now_1, .pointer (some ⟨br_till, 0, none⟩), v_1] :: Ow.box br_till 106 #[.map (some rr_till_at)] :: Ow.map rr_till_at kI kI rm_1 :: Ow.own 4 1 encB v_1 r_fixed_1 :: fr) h' ∧ Q r0_1 r1_1 r_now_1 rm_1 r_fixed_1 := by
  unfold route_Routes_Next_W at hM
  have hK := Kp.refl F h0
  refine HC.of_HW (n := 25) Try.func36 rfl rfl (Nat.le_of_ble_eq_true rfl) ?_
  refine HW.seq ?_
  refine HW.region ?_
  refine HO.val (v := .int .i64 0) (want_none) rfl (q_assign rfl) ?_
  refine HO.val (v := .bool false) (want_none) rfl (q_assign rfl) ?_
  refine HO.nil (thenQ_normal (?_))
  refine HW.seq ?_
  refine HW.seq ?_
  refine HW.region ?_
  refine HO.val (v := .pointer (some ⟨br, 0, none⟩)) (want_none) rfl (q_move rfl) ?_
  refine HO.val (v := .bool false) (want_none) rfl (q_eqlPnil Try.underlying53 rfl rfl rfl) ?_
  refine HO.nil (thenQ_normal (?_))
  refine HW.condF rfl ?_
  refine HW.skip (thenQ_normal (?_))
  refine HW.seq ?_
  refine HW.region ?_
  refine HO.val (v := .pointer (some ⟨br, 0, none⟩)) (want_none) rfl (q_move rfl) ?_
  refine HO.val (v := .int .i64 now) (want_none) rfl (q_move rfl) ?_
  refine HO.call (want_none) rfl (ec en_56 rfl rfl) (route_Routes_settle_walk (fr := (fr)) r_now r_till_at r_fixed now br br_till rr_till_at vr_fixed hS hM) ?_
  rintro _ h_1 ⟨F_1, r_1, r_now_2, rm_2, r_fixed_2, v_2, rfl, hk, hS, hM⟩
  replace hK := hK.trans hk
  refine HO.nil (thenQ_normal (?_))
  refine HW.seq ?_
  refine HW.region ?_
  refine HO.val (v := .pointer (some ⟨br, 0, none⟩)) (want_none) rfl (q_move rfl) ?_
  refine HO.val (v := .pointer (some ⟨br, 0, none⟩)) (want_none) rfl (q_nilCheck rfl) ?_
  refine HO.val (v := .pointer (some ⟨br, 1, none⟩)) (want_none) rfl (q_fieldAddr fa_94_1 rfl rfl) ?_
  refine HO.val (v := .pointer (some ⟨br_till, 0, none⟩)) (want_none) rfl (q_load to_90 rfl (Blk.cell (hS.box 0 rfl) rfl)) ?_
  replace hS : St F_1 (Ow.box br_till 106 #[.map (some rr_till_at)] :: Ow.map rr_till_at kI kI rm_2 :: Ow.box br 94 #[.int .i64 r_now_2, .pointer (some ⟨br_till, 0, none⟩), v_2] :: Ow.own 4 1 encB v_2 r_fixed_2 :: fr) h_1 := hS.perm2 [1, 2, 0, 3] 4 rfl rfl
  refine HO.call (want_none) rfl (ec en_62 rfl rfl) (clock_Clock_Next_int_walk (fr := (Ow.box br 94 #[.int .i64 r_now_2, .pointer (some ⟨br_till, 0, none⟩), v_2] :: Ow.own 4 1 encB v_2 r_fixed_2 :: fr)) rm_2 br_till rr_till_at hS hM) ?_
  rintro _ h_2 ⟨F_2, r0_2, r1_2, r2_1, cm_1, rfl, hk, hS, hM⟩
  replace hK := hK.trans hk
  refine HO.val (v := .tuple #[.int .i64 r0_2, .int .i64 r1_2, .bool r2_1]) (want_none) rfl (q_move rfl) ?_
  refine HO.val (v := .int .i64 r0_2) (want_none) rfl (q_extract rfl rfl) ?_
  refine HO.val (v := .int .i64 r1_2) (want_none) rfl (q_extract rfl rfl) ?_
  refine HO.val (v := .bool r2_1) (want_none) rfl (q_extract rfl rfl) ?_
  refine HO.val (v := .int .i64 r0_2) (want_none) rfl (q_assign rfl) ?_
  refine HO.val (v := .int .i64 r1_2) (want_none) rfl (q_assign rfl) ?_
  refine HO.val (v := .bool r2_1) (want_none) rfl (q_assign rfl) ?_
  refine HO.nil (thenQ_normal (?_))
  refine HW.seq ?_
  refine HW.region ?_
  refine HO.val (v := .int .i64 r1_2) (want_none) rfl (q_move rfl) ?_
  refine HO.val (v := .bool r2_1) (want_none) rfl (q_move rfl) ?_
  refine HO.val (v := .int .i64 r1_2) (want_none) rfl (q_assign rfl) ?_
  refine HO.val (v := .bool r2_1) (want_none) rfl (q_assign rfl) ?_
  refine HO.nil (thenQ_normal (?_))
  refine HW.ret (?_)
  refine ⟨.inr rfl, .tuple #[.int .i64 r1_2, .bool r2_1], res2 rfl (rt rfl) (rt rfl), ?_⟩
  replace hS : St F_2 (Ow.box br 94 #[.int .i64 r_now_2, .pointer (some ⟨br_till, 0, none⟩), v_2] :: Ow.box br_till 106 #[.map (some rr_till_at)] :: Ow.map rr_till_at kI kI cm_1 :: Ow.own 4 1 encB v_2 r_fixed_2 :: fr) h_2 := hS.perm2 [2, 0, 1, 3] 4 rfl rfl
  exact ⟨F_2, r1_2, r2_1, r_now_2, cm_1, r_fixed_2, v_2, rfl, hK, hS, hM⟩

def ref23_R_Left_j1 (r_Now : Int) (r_L : List T_acequiaref23_One) (port : Int) (Q : Int → Prop) (b_1 : Bool) : Prop :=
  (b_1 = true → Q 0) ∧ (b_1 = false → ((0 : Int) ≤ port ∧ port < (r_L.length : Int)) ∧ ((I64 (((gi r_L port).1) - r_Now)) ∧ (Q (((gi r_L port).1) - r_Now))))
def ref23_R_Left_W (r_Now : Int) (r_L : List T_acequiaref23_One) (port : Int) (Q : Int → Prop) : Prop :=
  ref23_R_in_W r_Now r_L port (fun r_2 => ((!r_2) = true → ref23_R_Left_j1 r_Now r_L port Q true) ∧ ((!r_2) = false → ((0 : Int) ≤ port ∧ port < (r_L.length : Int)) ∧ (ref23_R_Left_j1 r_Now r_L port Q (decide (((gi r_L port).1) < r_Now)))))
set_option maxHeartbeats 40000000 in
set_option maxRecDepth 100000 in
theorem ref23_R_Left_walk {F : Fz} {fr : List Ow} {h0 : Heap} (r_Now : Int) (r_L : List T_acequiaref23_One) (port : Int) (br : Nat) (vr_L : Value) (hS : St F (fr) h0) (hL_r_L : SliceF F h0 2 e_acequiaref23_One vr_L r_L) (hB_br : RoF (Ow.box br 59 #[.int .i64 r_Now, vr_L]) F h0) {Q : Int → Prop} (hM : ref23_R_Left_W r_Now r_L port Q) :
    HC Try.prog 44 #[.pointer (some ⟨br, 0, none⟩), .int .i64 port] h0 fun u h' => ∃ (F' : Fz) (r_1 : Int), u = .int .i64 r_1 ∧ Kp F h0 F' h' ∧ St F' (fr) h' ∧ (SliceF F' h' 2 e_acequiaref23_One vr_L r_L) ∧ (RoF (Ow.box br 59 #[.int .i64 r_Now, vr_L]) F' h') ∧ Q r_1 := by
  unfold ref23_R_Left_W at hM
  have hK := Kp.refl F h0
  refine HC.of_HW (n := 37) Try.func44 rfl rfl (Nat.le_of_ble_eq_true rfl) ?_
  refine HW.seq ?_
  refine HW.region ?_
  refine HO.val (v := .int .i64 0) (want_none) rfl (q_assign rfl) ?_
  refine HO.nil (thenQ_normal (?_))
  refine HW.seq ?_
  refine HW.seq_mid (fun f h => ∃ (F' : Fz) (b_1 : Bool), f 0 = .pointer (some ⟨br, 0, none⟩) ∧ f 1 = .int .i64 port ∧ f 4 = .int .i64 0 ∧ f 23 = .bool b_1 ∧ Kp F h0 F' h ∧ St F' (fr) h ∧ (SliceF F' h 2 e_acequiaref23_One vr_L r_L) ∧ (RoF (Ow.box br 59 #[.int .i64 r_Now, vr_L]) F' h) ∧ ref23_R_Left_j1 r_Now r_L port Q b_1) ?_ ?_
  · refine HW.regionA 19 mixed (fun h => (SliceIs h 2 e_acequiaref23_One vr_L r_L) ∧ (Blk h br (.cells #[.int .i64 r_Now, vr_L] 59 (0, 0)))) [] (by kernel_rfl) ?_
    refine HA.val (k := 0) (v := .pointer (some ⟨br, 0, none⟩)) rfl rfl (by kernel_rfl) (by kernel_rfl) (want_none) rfl (fun _ ⟨hL_r_L, hB_br⟩ => q_move rfl) ?_
    refine HA.val (k := 1) (v := .int .i64 port) rfl rfl (by kernel_rfl) (by kernel_rfl) (want_none) rfl (fun _ ⟨hL_r_L, hB_br⟩ => q_move rfl) ?_
    refine HA.one (k := 2) ⟨⟨hL_r_L.is, hB_br.box⟩, (Go.Wk.at_nil _ _)⟩ (by kernel_rfl) ?_
    refine HS.call rfl (want_none) rfl (ec en_60 rfl rfl) (ref23_R_in_walk (fr := (fr)) r_Now r_L port br vr_L hS hL_r_L hB_br hM) ?_
    rintro _ h_1 ⟨F_1, r_2, rfl, hk, hS, _, _, hM⟩
    replace hK := hK.trans hk
    replace hL_r_L := hL_r_L.kp hk
    replace hB_br := hB_br.kp hk
    refine HA.val (k := 3) (v := .bool (!r_2)) rfl rfl (by kernel_rfl) (by kernel_rfl) (want_none) rfl (fun _ ⟨hL_r_L, hB_br⟩ => q_not rfl) ?_
    refine HA.val (k := 4) (v := .bool (!r_2)) rfl rfl (by kernel_rfl) (by kernel_rfl) (want_none) rfl (fun _ ⟨hL_r_L, hB_br⟩ => q_move rfl) ?_
    rcases Bool.eq_false_or_eq_true (!r_2) with c_1 | c_1
    · replace hM := hM.1 c_1
      refine HA.past (k := 5) rfl rfl (by kernel_rfl) (by kernel_rfl) (past_by rfl rfl c_1) rfl ?_
      refine HA.past (k := 6) rfl rfl (by kernel_rfl) (by kernel_rfl) (past_by rfl rfl c_1) rfl ?_
      refine HA.past (k := 7) rfl rfl (by kernel_rfl) (by kernel_rfl) (past_by rfl rfl c_1) rfl ?_
      refine HA.past (k := 8) rfl rfl (by kernel_rfl) (by kernel_rfl) (past_by rfl rfl c_1) rfl ?_
      refine HA.past (k := 9) rfl rfl (by kernel_rfl) (by kernel_rfl) (past_by rfl rfl c_1) rfl ?_
      refine HA.past (k := 10) rfl rfl (by kernel_rfl) (by kernel_rfl) (past_by rfl rfl c_1) rfl ?_
      refine HA.past (k := 11) rfl rfl (by kernel_rfl) (by kernel_rfl) (past_by rfl rfl c_1) rfl ?_
      refine HA.past (k := 12) rfl rfl (by kernel_rfl) (by kernel_rfl) (past_by rfl rfl c_1) rfl ?_
      refine HA.past (k := 13) rfl rfl (by kernel_rfl) (by kernel_rfl) (past_by rfl rfl c_1) rfl ?_
      refine HA.past (k := 14) rfl rfl (by kernel_rfl) (by kernel_rfl) (past_by rfl rfl c_1) rfl ?_
      refine HA.past (k := 15) rfl rfl (by kernel_rfl) (by kernel_rfl) (past_by rfl rfl c_1) rfl ?_
      refine HA.past (k := 16) rfl rfl (by kernel_rfl) (by kernel_rfl) (past_by rfl rfl c_1) rfl ?_
      refine HA.past (k := 17) rfl rfl (by kernel_rfl) (by kernel_rfl) (past_by rfl rfl c_1) rfl ?_
      refine HA.val (k := 18) (v := .bool true) rfl rfl (by kernel_rfl) (by kernel_rfl) (want_none) rfl (fun _ ⟨hL_r_L, hB_br⟩ => q_pickK true rfl c_1 rfl) ?_
      refine HA.nil ⟨⟨hL_r_L.is, hB_br.box⟩, (Go.Wk.at_nil _ _)⟩ (by kernel_rfl) (thenQ_normal (?_))
      exact ⟨F_1, true, rfl, rfl, rfl, rfl, hK, hS, hL_r_L, hB_br, hM⟩
    · replace hM := hM.2 c_1
      refine HA.val (k := 5) (v := .pointer (some ⟨br, 0, none⟩)) rfl rfl (by kernel_rfl) (by kernel_rfl) (want_by rfl rfl c_1) rfl (fun _ ⟨hL_r_L, hB_br⟩ => q_move rfl) ?_
      refine HA.val (k := 6) (v := .pointer (some ⟨br, 0, none⟩)) rfl rfl (by kernel_rfl) (by kernel_rfl) (want_by rfl rfl c_1) rfl (fun _ ⟨hL_r_L, hB_br⟩ => q_nilCheck rfl) ?_
      refine HA.val (k := 7) (v := .pointer (some ⟨br, 1, none⟩)) rfl rfl (by kernel_rfl) (by kernel_rfl) (want_by rfl rfl c_1) rfl (fun _ ⟨hL_r_L, hB_br⟩ => q_fieldAddr fa_59_1 rfl rfl) ?_
      refine HA.val (k := 8) (v := vr_L) rfl rfl (by kernel_rfl) (by kernel_rfl) (want_by rfl rfl c_1) rfl (fun _ ⟨hL_r_L, hB_br⟩ => q_load to_57 rfl (Blk.cell hB_br rfl)) ?_
      refine HA.val (k := 9) (v := .int .i64 port) rfl rfl (by kernel_rfl) (by kernel_rfl) (want_by rfl rfl c_1) rfl (fun _ ⟨hL_r_L, hB_br⟩ => q_move rfl) ?_
      obtain ⟨ho_1, hM⟩ := hM
      refine HA.val (k := 10) (v := elemPtr 2 vr_L (port).toNat) rfl rfl (by kernel_rfl) (by kernel_rfl) (want_by rfl rfl c_1) rfl (fun _ ⟨hL_r_L, hB_br⟩ => q_idx ts_57 hL_r_L rfl rfl ho_1) ?_
      refine HA.val (k := 11) (v := fieldPtr 2 vr_L (port).toNat 0) rfl rfl (by kernel_rfl) (by kernel_rfl) (want_by rfl rfl c_1) rfl (fun _ ⟨hL_r_L, hB_br⟩ => q_fldElem fa_98_0 hL_r_L rfl ho_1) ?_
      refine HA.val (k := 12) (v := .int .i64 ((gi r_L port).1)) rfl rfl (by kernel_rfl) (by kernel_rfl) (want_by rfl rfl c_1) rfl (fun _ ⟨hL_r_L, hB_br⟩ => q_ldField to_3 hL_r_L rfl ho_1 (by decide) rfl) ?_
      refine HA.val (k := 13) (v := .pointer (some ⟨br, 0, none⟩)) rfl rfl (by kernel_rfl) (by kernel_rfl) (want_by rfl rfl c_1) rfl (fun _ ⟨hL_r_L, hB_br⟩ => q_move rfl) ?_
      refine HA.val (k := 14) (v := .pointer (some ⟨br, 0, none⟩)) rfl rfl (by kernel_rfl) (by kernel_rfl) (want_by rfl rfl c_1) rfl (fun _ ⟨hL_r_L, hB_br⟩ => q_nilCheck rfl) ?_
      refine HA.val (k := 15) (v := .pointer (some ⟨br, 0, none⟩)) rfl rfl (by kernel_rfl) (by kernel_rfl) (want_by rfl rfl c_1) rfl (fun _ ⟨hL_r_L, hB_br⟩ => q_fieldAddr fa_59_0 rfl rfl) ?_
      refine HA.val (k := 16) (v := .int .i64 r_Now) rfl rfl (by kernel_rfl) (by kernel_rfl) (want_by rfl rfl c_1) rfl (fun _ ⟨hL_r_L, hB_br⟩ => q_load to_3 rfl (Blk.cell hB_br rfl)) ?_
      refine HA.val (k := 17) (v := .bool (decide (((gi r_L port).1) < r_Now))) rfl rfl (by kernel_rfl) (by kernel_rfl) (want_by rfl rfl c_1) rfl (fun _ ⟨hL_r_L, hB_br⟩ => q_lss rfl rfl) ?_
      refine HA.val (k := 18) (v := .bool (decide (((gi r_L port).1) < r_Now))) rfl rfl (by kernel_rfl) (by kernel_rfl) (want_none) rfl (fun _ ⟨hL_r_L, hB_br⟩ => q_pickK false rfl c_1 rfl) ?_
      refine HA.nil ⟨⟨hL_r_L.is, hB_br.box⟩, (Go.Wk.at_nil _ _)⟩ (by kernel_rfl) (thenQ_normal (?_))
      exact ⟨F_1, decide (((gi r_L port).1) < r_Now), rfl, rfl, rfl, rfl, hK, hS, hL_r_L, hB_br, hM⟩
  · rintro f_1 h_2 ⟨F_2, b_1, e0, e1, e4, e23, hK, hS, hL_r_L, hB_br, hM⟩
    unfold ref23_R_Left_j1 at hM
    refine HW.fr [(0, .pointer (some ⟨br, 0, none⟩)), (1, .int .i64 port), (4, .int .i64 0), (23, .bool b_1)] ⟨e0, e1, e4, e23, trivial⟩ ?_
    refine HW.cond b_1 rfl (fun c_2 => ?_) (fun c_2 => ?_)
    · replace hM := hM.1 c_2
      refine HW.seq ?_
      refine HW.region ?_
      refine HO.val (v := .int .i64 0) (want_none) rfl (q_assign rfl) ?_
      refine HO.nil (thenQ_normal (?_))
      refine HW.ret (thenQ_ret (?_))
      refine ⟨.inr rfl, .int .i64 0, res1 rfl (rt rfl), ?_⟩
      exact ⟨F_2, 0, rfl, hK, hS, hL_r_L, hB_br, hM⟩
    · replace hM := hM.2 c_2
      refine HW.skip (thenQ_normal (?_))
      refine HW.seq ?_
      refine HW.regionA 14 mixed (fun h => (SliceIs h 2 e_acequiaref23_One vr_L r_L) ∧ (Blk h br (.cells #[.int .i64 r_Now, vr_L] 59 (0, 0)))) [] (by kernel_rfl) ?_
      refine HA.val (k := 0) (v := .pointer (some ⟨br, 0, none⟩)) rfl rfl (by kernel_rfl) (by kernel_rfl) (want_none) rfl (fun _ ⟨hL_r_L, hB_br⟩ => q_move rfl) ?_
      refine HA.val (k := 1) (v := .pointer (some ⟨br, 0, none⟩)) rfl rfl (by kernel_rfl) (by kernel_rfl) (want_none) rfl (fun _ ⟨hL_r_L, hB_br⟩ => q_nilCheck rfl) ?_
      refine HA.val (k := 2) (v := .pointer (some ⟨br, 1, none⟩)) rfl rfl (by kernel_rfl) (by kernel_rfl) (want_none) rfl (fun _ ⟨hL_r_L, hB_br⟩ => q_fieldAddr fa_59_1 rfl rfl) ?_
      refine HA.val (k := 3) (v := vr_L) rfl rfl (by kernel_rfl) (by kernel_rfl) (want_none) rfl (fun _ ⟨hL_r_L, hB_br⟩ => q_load to_57 rfl (Blk.cell hB_br rfl)) ?_
      refine HA.val (k := 4) (v := .int .i64 port) rfl rfl (by kernel_rfl) (by kernel_rfl) (want_none) rfl (fun _ ⟨hL_r_L, hB_br⟩ => q_move rfl) ?_
      obtain ⟨ho_2, hM⟩ := hM
      refine HA.val (k := 5) (v := elemPtr 2 vr_L (port).toNat) rfl rfl (by kernel_rfl) (by kernel_rfl) (want_none) rfl (fun _ ⟨hL_r_L, hB_br⟩ => q_idx ts_57 hL_r_L rfl rfl ho_2) ?_
      refine HA.val (k := 6) (v := fieldPtr 2 vr_L (port).toNat 0) rfl rfl (by kernel_rfl) (by kernel_rfl) (want_none) rfl (fun _ ⟨hL_r_L, hB_br⟩ => q_fldElem fa_98_0 hL_r_L rfl ho_2) ?_
      refine HA.val (k := 7) (v := .int .i64 ((gi r_L port).1)) rfl rfl (by kernel_rfl) (by kernel_rfl) (want_none) rfl (fun _ ⟨hL_r_L, hB_br⟩ => q_ldField to_3 hL_r_L rfl ho_2 (by decide) rfl) ?_
      refine HA.val (k := 8) (v := .pointer (some ⟨br, 0, none⟩)) rfl rfl (by kernel_rfl) (by kernel_rfl) (want_none) rfl (fun _ ⟨hL_r_L, hB_br⟩ => q_move rfl) ?_
      refine HA.val (k := 9) (v := .pointer (some ⟨br, 0, none⟩)) rfl rfl (by kernel_rfl) (by kernel_rfl) (want_none) rfl (fun _ ⟨hL_r_L, hB_br⟩ => q_nilCheck rfl) ?_
      refine HA.val (k := 10) (v := .pointer (some ⟨br, 0, none⟩)) rfl rfl (by kernel_rfl) (by kernel_rfl) (want_none) rfl (fun _ ⟨hL_r_L, hB_br⟩ => q_fieldAddr fa_59_0 rfl rfl) ?_
      refine HA.val (k := 11) (v := .int .i64 r_Now) rfl rfl (by kernel_rfl) (by kernel_rfl) (want_none) rfl (fun _ ⟨hL_r_L, hB_br⟩ => q_load to_3 rfl (Blk.cell hB_br rfl)) ?_
      obtain ⟨ho_3, hM⟩ := hM
      refine HA.val (k := 12) (v := .int .i64 (((gi r_L port).1) - r_Now)) rfl rfl (by kernel_rfl) (by kernel_rfl) (want_none) rfl (fun _ ⟨hL_r_L, hB_br⟩ => q_subN _ rfl rfl rfl ho_3.1 ho_3.2) ?_
      refine HA.val (k := 13) (v := .int .i64 (((gi r_L port).1) - r_Now)) rfl rfl (by kernel_rfl) (by kernel_rfl) (want_none) rfl (fun _ ⟨hL_r_L, hB_br⟩ => q_assign rfl) ?_
      refine HA.nil ⟨⟨hL_r_L.is, hB_br.box⟩, (Go.Wk.at_nil _ _)⟩ (by kernel_rfl) (thenQ_normal (?_))
      refine HW.ret (?_)
      refine ⟨.inr rfl, .int .i64 (((gi r_L port).1) - r_Now), res1 rfl (rt rfl), ?_⟩
      exact ⟨F_2, ((gi r_L port).1) - r_Now, rfl, hK, hS, hL_r_L, hB_br, hM⟩

def ref23_R_Next_j1 (r_L : List T_acequiaref23_One) (n_1 : Int) (is_1 : Bool) (i_1 : Int) (K_1 : Int → Bool → Int → Prop) (b_1 : Bool) : Prop :=
  (b_1 = true → ((0 : Int) ≤ i_1 ∧ i_1 < (r_L.length : Int)) ∧ ((I64 (i_1 + 1)) ∧ (K_1 ((gi r_L i_1).1) true (i_1 + 1)))) ∧ (b_1 = false → (I64 (i_1 + 1)) ∧ (K_1 n_1 is_1 (i_1 + 1)))
def ref23_R_Next_l1 (r_Now : Int) (r_L : List T_acequiaref23_One) (Q : Int → Bool → Prop) (K_1 : Int → Bool → Int → Prop) (n_1 : Int) (is_1 : Bool) (i_1 : Int) : Prop :=
  (i_1 < (r_L.length : Int) → ref23_R_Left_W r_Now r_L i_1 (fun r_1 => (0 < r_1 → ((!is_1) = true → ref23_R_Next_j1 r_L n_1 is_1 i_1 K_1 true) ∧ ((!is_1) = false → ((0 : Int) ≤ i_1 ∧ i_1 < (r_L.length : Int)) ∧ (ref23_R_Next_j1 r_L n_1 is_1 i_1 K_1 (decide (((gi r_L i_1).1) < n_1))))) ∧ (¬ (0 < r_1) → ref23_R_Next_j1 r_L n_1 is_1 i_1 K_1 false))) ∧ (¬ (i_1 < (r_L.length : Int)) → Q n_1 is_1)
def ref23_R_Next_W (r_Now : Int) (r_L : List T_acequiaref23_One) (Q : Int → Bool → Prop) : Prop :=
  loopW (fun (K_1 : (Int × Bool × Int) → Prop) (s : Int × Bool × Int) => ref23_R_Next_l1 r_Now r_L Q (fun n_1 is_1 i_1 => K_1 (n_1, is_1, i_1)) s.1 s.2.1 s.2.2) (0, false, 0)
set_option maxHeartbeats 40000000 in
set_option maxRecDepth 100000 in
theorem ref23_R_Next_walk {F : Fz} {fr : List Ow} {h0 : Heap} (r_Now : Int) (r_L : List T_acequiaref23_One) (br : Nat) (vr_L : Value) (hS : St F (fr) h0) (hL_r_L : SliceF F h0 2 e_acequiaref23_One vr_L r_L) (hB_br : RoF (Ow.box br 59 #[.int .i64 r_Now, vr_L]) F h0) {Q : Int → Bool → Prop} (hM : ref23_R_Next_W r_Now r_L Q) :
    HC Try.prog 37 #[.pointer (some ⟨br, 0, none⟩)] h0 fun u h' => ∃ (F' : Fz) (r0_1 : Int) (r1_1 : Bool), u = .tuple #[.int .i64 r0_1, .bool r1_1] ∧ Kp F h0 F' h' ∧ St F' (fr) h' ∧ (SliceF F' h' 2 e_acequiaref23_One vr_L r_L) ∧ (RoF (Ow.box br 59 #[.int .i64 r_Now, vr_L]) F' h') ∧ Q r0_1 r1_1 := by
  unfold ref23_R_Next_W at hM
  have hK := Kp.refl F h0
  refine HC.of_HW (n := 46) Try.func37 rfl rfl (Nat.le_of_ble_eq_true rfl) ?_
  refine HW.seq ?_
  refine HW.region ?_
  refine HO.val (v := .int .i64 0) (want_none) rfl (q_assign rfl) ?_
  refine HO.val (v := .bool false) (want_none) rfl (q_assign rfl) ?_
  refine HO.nil (thenQ_normal (?_))
  refine HW.seq ?_
  refine HW.region ?_
  refine HO.val (v := .int .i64 0) (want_none) rfl (q_assign rfl) ?_
  refine HO.val (v := .bool false) (want_none) rfl (q_assign rfl) ?_
  refine HO.nil (thenQ_normal (?_))
  refine HW.seq ?_
  refine HW.seq ?_
  refine HW.region ?_
  refine HO.val (v := .int .i64 0) (want_none) rfl (q_assign rfl) ?_
  refine HO.nil (thenQ_normal (?_))
  refine HW.block ?_
  obtain ⟨I_1, m_1, hI_1, hR_1⟩ := hM
  refine HW.loop (S := Int × Bool × Int) (fun s f h => match s with | (n_1, is_1, i_1) => ∃ (F' : Fz), f 0 = .pointer (some ⟨br, 0, none⟩) ∧ f 2 = .int .i64 0 ∧ f 3 = .bool false ∧ f 4 = .int .i64 n_1 ∧ f 5 = .bool is_1 ∧ f 6 = .int .i64 i_1 ∧ Kp F h0 F' h ∧ St F' (fr) h ∧ (SliceF F' h 2 e_acequiaref23_One vr_L r_L) ∧ (RoF (Ow.box br 59 #[.int .i64 r_Now, vr_L]) F' h) ∧ I_1 (n_1, is_1, i_1)) m_1 (0, false, 0) ⟨F, rfl, rfl, rfl, rfl, rfl, rfl, hK, hS, hL_r_L, hB_br, hI_1⟩ ?_
  rintro ⟨n_1, is_1, i_1⟩ f_1 h_1 ⟨F_1, e0, e2, e3, e4, e5, e6, hK, hS, hL_r_L, hB_br, hI0⟩
  obtain ⟨K_1, hKe_1⟩ : ∃ K : Int → Bool → Int → Prop, K = fun n_1' is_1' i_1' => I_1 (n_1', is_1', i_1') ∧ m_1 (n_1', is_1', i_1') < m_1 (n_1, is_1, i_1) := ⟨_, rfl⟩
  have hM : ref23_R_Next_l1 r_Now r_L Q K_1 n_1 is_1 i_1 := by rw [hKe_1]; exact hR_1 (n_1, is_1, i_1) hI0
  unfold ref23_R_Next_l1 at hM
  refine HW.fr [(0, .pointer (some ⟨br, 0, none⟩)), (2, .int .i64 0), (3, .bool false), (4, .int .i64 n_1), (5, .bool is_1), (6, .int .i64 i_1)] ⟨e0, e2, e3, e4, e5, e6, trivial⟩ ?_
  refine HW.seq ?_
  refine HW.seq ?_
  refine HW.region ?_
  refine HO.val (v := .int .i64 i_1) (want_none) rfl (q_move rfl) ?_
  refine HO.val (v := .pointer (some ⟨br, 0, none⟩)) (want_none) rfl (q_move rfl) ?_
  refine HO.val (v := .pointer (some ⟨br, 0, none⟩)) (want_none) rfl (q_nilCheck rfl) ?_
  refine HO.val (v := .pointer (some ⟨br, 1, none⟩)) (want_none) rfl (q_fieldAddr fa_59_1 rfl rfl) ?_
  refine HO.val (v := vr_L) (want_none) rfl (q_load to_57 rfl (Blk.cell hB_br.box rfl)) ?_
  refine HO.val (v := .int .i64 (r_L.length : Int)) (want_none) rfl (q_len ts_57 (shp hL_r_L.is) rfl rfl) ?_
  refine HO.val (v := .bool (decide (i_1 < (r_L.length : Int)))) (want_none) rfl (q_lss rfl rfl) ?_
  refine HO.nil (thenQ_normal (?_))
  refine HW.cond (decide (i_1 < (r_L.length : Int))) rfl (fun c_1 => ?_) (fun c_1 => ?_)
  · replace hM := hM.1 (of_decide_eq_true c_1)
    refine HW.skip (thenQ_normal (?_))
    refine HW.seq ?_
    refine HW.block ?_
    refine HW.seq_mid (fun f h => ∃ (F' : Fz) (b_1 : Bool), f 0 = .pointer (some ⟨br, 0, none⟩) ∧ f 2 = .int .i64 0 ∧ f 3 = .bool false ∧ f 4 = .int .i64 n_1 ∧ f 5 = .bool is_1 ∧ f 6 = .int .i64 i_1 ∧ f 35 = .bool b_1 ∧ Kp F h0 F' h ∧ St F' (fr) h ∧ (SliceF F' h 2 e_acequiaref23_One vr_L r_L) ∧ (RoF (Ow.box br 59 #[.int .i64 r_Now, vr_L]) F' h) ∧ ref23_R_Next_j1 r_L n_1 is_1 i_1 K_1 b_1) ?_ ?_
    · refine HW.region ?_
      refine HO.val (v := .pointer (some ⟨br, 0, none⟩)) (want_none) rfl (q_move rfl) ?_
      refine HO.val (v := .int .i64 i_1) (want_none) rfl (q_move rfl) ?_
      refine HO.call (want_none) rfl (ec en_44 rfl rfl) (ref23_R_Left_walk (fr := (fr)) r_Now r_L i_1 br vr_L hS hL_r_L hB_br hM) ?_
      rintro _ h_2 ⟨F_2, r_1, rfl, hk, hS, _, _, hM⟩
      replace hK := hK.trans hk
      replace hL_r_L := hL_r_L.kp hk
      replace hB_br := hB_br.kp hk
      refine HO.val (v := .bool (decide (0 < r_1))) (want_none) rfl (q_gtr rfl rfl) ?_
      refine HO.val (v := .bool (decide (0 < r_1))) (want_none) rfl (q_move rfl) ?_
      rcases Bool.eq_false_or_eq_true (decide (0 < r_1)) with c_2 | c_2
      · replace hM := hM.1 (of_decide_eq_true c_2)
        refine HO.val (v := .bool is_1) (want_by rfl rfl c_2) rfl (q_move rfl) ?_
        refine HO.val (v := .bool (!is_1)) (want_by rfl rfl c_2) rfl (q_not rfl) ?_
        refine HO.val (v := .bool (!is_1)) (want_by rfl rfl c_2) rfl (q_move rfl) ?_
        rcases Bool.eq_false_or_eq_true (!is_1) with c_3 | c_3
        · replace hM := hM.1 c_3
          refine HO.past (past_by rfl rfl c_3) rfl ?_
          refine HO.past (past_by rfl rfl c_3) rfl ?_
          refine HO.past (past_by rfl rfl c_3) rfl ?_
          refine HO.past (past_by rfl rfl c_3) rfl ?_
          refine HO.past (past_by rfl rfl c_3) rfl ?_
          refine HO.past (past_by rfl rfl c_3) rfl ?_
          refine HO.past (past_by rfl rfl c_3) rfl ?_
          refine HO.past (past_by rfl rfl c_3) rfl ?_
          refine HO.past (past_by rfl rfl c_3) rfl ?_
          refine HO.past (past_by rfl rfl c_3) rfl ?_
          refine HO.val (v := .bool true) (want_by rfl rfl c_2) rfl (q_pickK true rfl c_3 rfl) ?_
          refine HO.val (v := .bool true) (want_none) rfl (q_pickK true rfl c_2 rfl) ?_
          refine HO.nil (thenQ_normal (?_))
          exact ⟨F_2, true, rfl, rfl, rfl, rfl, rfl, rfl, rfl, hK, hS, hL_r_L, hB_br, hM⟩
        · replace hM := hM.2 c_3
          refine HO.val (v := .pointer (some ⟨br, 0, none⟩)) (want_by rfl rfl c_3) rfl (q_move rfl) ?_
          refine HO.val (v := .pointer (some ⟨br, 0, none⟩)) (want_by rfl rfl c_3) rfl (q_nilCheck rfl) ?_
          refine HO.val (v := .pointer (some ⟨br, 1, none⟩)) (want_by rfl rfl c_3) rfl (q_fieldAddr fa_59_1 rfl rfl) ?_
          refine HO.val (v := vr_L) (want_by rfl rfl c_3) rfl (q_load to_57 rfl (Blk.cell hB_br.box rfl)) ?_
          refine HO.val (v := .int .i64 i_1) (want_by rfl rfl c_3) rfl (q_move rfl) ?_
          obtain ⟨ho_1, hM⟩ := hM
          refine HO.val (v := elemPtr 2 vr_L (i_1).toNat) (want_by rfl rfl c_3) rfl (q_idx ts_57 hL_r_L.is rfl rfl ho_1) ?_
          refine HO.val (v := fieldPtr 2 vr_L (i_1).toNat 0) (want_by rfl rfl c_3) rfl (q_fldElem fa_98_0 hL_r_L.is rfl ho_1) ?_
          refine HO.val (v := .int .i64 ((gi r_L i_1).1)) (want_by rfl rfl c_3) rfl (q_ldField to_3 hL_r_L.is rfl ho_1 (by decide) rfl) ?_
          refine HO.val (v := .int .i64 n_1) (want_by rfl rfl c_3) rfl (q_move rfl) ?_
          refine HO.val (v := .bool (decide (((gi r_L i_1).1) < n_1))) (want_by rfl rfl c_3) rfl (q_lss rfl rfl) ?_
          refine HO.val (v := .bool (decide (((gi r_L i_1).1) < n_1))) (want_by rfl rfl c_2) rfl (q_pickK false rfl c_3 rfl) ?_
          refine HO.val (v := .bool (decide (((gi r_L i_1).1) < n_1))) (want_none) rfl (q_pickK true rfl c_2 rfl) ?_
          refine HO.nil (thenQ_normal (?_))
          exact ⟨F_2, decide (((gi r_L i_1).1) < n_1), rfl, rfl, rfl, rfl, rfl, rfl, rfl, hK, hS, hL_r_L, hB_br, hM⟩
      · replace hM := hM.2 (of_decide_eq_false c_2)
        refine HO.past (past_by rfl rfl c_2) rfl ?_
        refine HO.past (past_by rfl rfl c_2) rfl ?_
        refine HO.past (past_by rfl rfl c_2) rfl ?_
        refine HO.past (past_undef rfl rfl) rfl ?_
        refine HO.past (past_undef rfl rfl) rfl ?_
        refine HO.past (past_undef rfl rfl) rfl ?_
        refine HO.past (past_undef rfl rfl) rfl ?_
        refine HO.past (past_undef rfl rfl) rfl ?_
        refine HO.past (past_undef rfl rfl) rfl ?_
        refine HO.past (past_undef rfl rfl) rfl ?_
        refine HO.past (past_undef rfl rfl) rfl ?_
        refine HO.past (past_undef rfl rfl) rfl ?_
        refine HO.past (past_undef rfl rfl) rfl ?_
        refine HO.past (past_by rfl rfl c_2) rfl ?_
        refine HO.val (v := .bool false) (want_none) rfl (q_pickK false rfl c_2 rfl) ?_
        refine HO.nil (thenQ_normal (?_))
        exact ⟨F_2, false, rfl, rfl, rfl, rfl, rfl, rfl, rfl, hK, hS, hL_r_L, hB_br, hM⟩
    · rintro f_2 h_3 ⟨F_3, b_1, e0, e2, e3, e4, e5, e6, e35, hK, hS, hL_r_L, hB_br, hM⟩
      unfold ref23_R_Next_j1 at hM
      refine HW.fr [(0, .pointer (some ⟨br, 0, none⟩)), (2, .int .i64 0), (3, .bool false), (4, .int .i64 n_1), (5, .bool is_1), (6, .int .i64 i_1), (35, .bool b_1)] ⟨e0, e2, e3, e4, e5, e6, e35, trivial⟩ ?_
      refine HW.cond b_1 rfl (fun c_4 => ?_) (fun c_4 => ?_)
      · replace hM := hM.1 c_4
        refine HW.region ?_
        refine HO.val (v := .pointer (some ⟨br, 0, none⟩)) (want_none) rfl (q_move rfl) ?_
        refine HO.val (v := .pointer (some ⟨br, 0, none⟩)) (want_none) rfl (q_nilCheck rfl) ?_
        refine HO.val (v := .pointer (some ⟨br, 1, none⟩)) (want_none) rfl (q_fieldAddr fa_59_1 rfl rfl) ?_
        refine HO.val (v := vr_L) (want_none) rfl (q_load to_57 rfl (Blk.cell hB_br.box rfl)) ?_
        refine HO.val (v := .int .i64 i_1) (want_none) rfl (q_move rfl) ?_
        obtain ⟨ho_2, hM⟩ := hM
        refine HO.val (v := elemPtr 2 vr_L (i_1).toNat) (want_none) rfl (q_idx ts_57 hL_r_L.is rfl rfl ho_2) ?_
        refine HO.val (v := fieldPtr 2 vr_L (i_1).toNat 0) (want_none) rfl (q_fldElem fa_98_0 hL_r_L.is rfl ho_2) ?_
        refine HO.val (v := .int .i64 ((gi r_L i_1).1)) (want_none) rfl (q_ldField to_3 hL_r_L.is rfl ho_2 (by decide) rfl) ?_
        refine HO.val (v := .int .i64 ((gi r_L i_1).1)) (want_none) rfl (q_assign rfl) ?_
        refine HO.val (v := .bool true) (want_none) rfl (q_assign rfl) ?_
        refine HO.nil (blockQ_normal (thenQ_normal (?_)))
        refine HW.region ?_
        refine HO.val (v := .int .i64 i_1) (want_none) rfl (q_move rfl) ?_
        obtain ⟨ho_3, hM⟩ := hM
        refine HO.val (v := .int .i64 (i_1 + 1)) (want_none) rfl (q_addN _ rfl rfl rfl ho_3.1 ho_3.2) ?_
        refine HO.val (v := .int .i64 (i_1 + 1)) (want_none) rfl (q_assign rfl) ?_
        refine HO.nil (thenQ_normal (?_))
        rw [hKe_1] at hM
        exact ⟨((gi r_L i_1).1, true, i_1 + 1), ⟨F_3, rfl, rfl, rfl, rfl, rfl, rfl, hK, hS, hL_r_L, hB_br, hM.1⟩, hM.2⟩
      · replace hM := hM.2 c_4
        refine HW.skip (blockQ_normal (thenQ_normal (?_)))
        refine HW.region ?_
        refine HO.val (v := .int .i64 i_1) (want_none) rfl (q_move rfl) ?_
        obtain ⟨ho_4, hM⟩ := hM
        refine HO.val (v := .int .i64 (i_1 + 1)) (want_none) rfl (q_addN _ rfl rfl rfl ho_4.1 ho_4.2) ?_
        refine HO.val (v := .int .i64 (i_1 + 1)) (want_none) rfl (q_assign rfl) ?_
        refine HO.nil (thenQ_normal (?_))
        rw [hKe_1] at hM
        exact ⟨(n_1, is_1, i_1 + 1), ⟨F_3, rfl, rfl, rfl, rfl, rfl, rfl, hK, hS, hL_r_L, hB_br, hM.1⟩, hM.2⟩
  · replace hM := hM.2 (of_decide_eq_false c_1)
    refine HW.exit (thenQ_exit (thenQ_exit (blockQ_exit (thenQ_normal (?_)))))
    refine HW.seq ?_
    refine HW.region ?_
    refine HO.val (v := .int .i64 n_1) (want_none) rfl (q_move rfl) ?_
    refine HO.val (v := .bool is_1) (want_none) rfl (q_move rfl) ?_
    refine HO.val (v := .int .i64 n_1) (want_none) rfl (q_assign rfl) ?_
    refine HO.val (v := .bool is_1) (want_none) rfl (q_assign rfl) ?_
    refine HO.nil (thenQ_normal (?_))
    refine HW.ret (?_)
    refine ⟨.inr rfl, .tuple #[.int .i64 n_1, .bool is_1], res2 rfl (rt rfl) (rt rfl), ?_⟩
    exact ⟨F_1, n_1, is_1, rfl, hK, hS, hL_r_L, hB_br, hM⟩

def route_Routes_Ports_l1 (Q : (List Int) → Int → (List (Int × Int)) → (List Bool) → Prop) (r_now_2 : Int) (rm_2 : List (Int × Int)) (r_fixed_2 : List Bool) (K_1 : (List Int) → Int → Prop) (out_1 : List Int) (n_1 : Int) : Prop :=
  (n_1 < (r_fixed_2.length : Int) → route_Routes_is_W r_now_2 rm_2 r_fixed_2 n_1 (fun r_3 => (r_3 = true → ((out_1.length + ([n_1] : List Int).length) * 8 ≤ 140737488355328) ∧ ((I64 (n_1 + 1)) ∧ (K_1 (out_1 ++ ([n_1] : List Int)) (n_1 + 1)))) ∧ (r_3 = false → (I64 (n_1 + 1)) ∧ (K_1 out_1 (n_1 + 1))))) ∧ (¬ (n_1 < (r_fixed_2.length : Int)) → Q out_1 r_now_2 rm_2 r_fixed_2)
def route_Routes_Ports_W (r_now : Int) (r_till_at : List (Int × Int)) (r_fixed : List Bool) (now : Int) (Q : (List Int) → Int → (List (Int × Int)) → (List Bool) → Prop) : Prop :=
  route_Routes_settle_W r_now r_till_at r_fixed now (fun r_2 r_now_2 rm_2 r_fixed_2 => loopW (fun (K_1 : (List Int × Int) → Prop) (s : List Int × Int) => route_Routes_Ports_l1 Q r_now_2 rm_2 r_fixed_2 (fun out_1 n_1 => K_1 (out_1, n_1)) s.1 s.2) ([], 0))
set_option maxHeartbeats 40000000 in
set_option maxRecDepth 100000 in
theorem route_Routes_Ports_walk {F : Fz} {fr : List Ow} {h0 : Heap} (r_now : Int) (r_till_at : List (Int × Int)) (r_fixed : List Bool) (now : Int) (br : Nat) (br_till : Nat) (rr_till_at : Nat) (vr_fixed : Value) (hS : St F (Ow.box br 94 #[.int .i64 r_now, .pointer (some ⟨br_till, 0, none⟩), vr_fixed] :: Ow.box br_till 106 #[.map (some rr_till_at)] :: Ow.map rr_till_at kI kI r_till_at :: Ow.own 4 1 encB vr_fixed r_fixed :: fr) h0)  {Q : (List Int) → Int → (List (Int × Int)) → (List Bool) → Prop} (hM : route_Routes_Ports_W r_now r_till_at r_fixed now Q) :
    HC Try.prog 39 #[.pointer (some ⟨br, 0, none⟩), .int .i64 now] h0 fun u h' => ∃ (F' : Fz) (r_1 : List Int) (r_now_1 : Int) (rm_1 : List (Int × Int)) (r_fixed_1 : List Bool) (vr_1 : Value) (v_1 : Value), u = vr_1 ∧ Kp F h0 F' h' ∧ St F' (Ow.own 3 1 encI vr_1 r_1 :: Ow.box br 94 #[.int .i64 r_now_1, .pointer (some ⟨br_till, 0, none⟩), v_1] :: Ow.box br_till 106 #[.map (some rr_till_at)] :: Ow.map rr_till_at kI kI rm_1 :: Ow.own 4 1 encB v_1 r_fixed_1 :: fr) h' ∧ Q r_1 r_now_1 rm_1 r_fixed_1 := by
  unfold route_Routes_Ports_W at hM
  have hK := Kp.refl F h0
  refine HC.of_HW (n := 29) Try.func39 rfl rfl (Nat.le_of_ble_eq_true rfl) ?_
  refine HW.seq ?_
  refine HW.region ?_
  refine HO.val (v := .slice none 0 0) (want_none) rfl (q_assign rfl) ?_
  refine HO.nil (thenQ_normal (?_))
  refine HW.seq ?_
  refine HW.region ?_
  refine HO.val (v := .slice none 0 0) (want_none) rfl (q_assign rfl) ?_
  refine HO.nil (thenQ_normal (?_))
  refine HW.seq ?_
  refine HW.seq ?_
  refine HW.region ?_
  refine HO.val (v := .pointer (some ⟨br, 0, none⟩)) (want_none) rfl (q_move rfl) ?_
  refine HO.val (v := .bool false) (want_none) rfl (q_eqlPnil Try.underlying53 rfl rfl rfl) ?_
  refine HO.nil (thenQ_normal (?_))
  refine HW.condF rfl ?_
  refine HW.skip (thenQ_normal (?_))
  refine HW.seq ?_
  refine HW.region ?_
  refine HO.val (v := .pointer (some ⟨br, 0, none⟩)) (want_none) rfl (q_move rfl) ?_
  refine HO.val (v := .int .i64 now) (want_none) rfl (q_move rfl) ?_
  refine HO.call (want_none) rfl (ec en_56 rfl rfl) (route_Routes_settle_walk (fr := (fr)) r_now r_till_at r_fixed now br br_till rr_till_at vr_fixed hS hM) ?_
  rintro _ h_1 ⟨F_1, r_2, r_now_2, rm_2, r_fixed_2, v_2, rfl, hk, hS, hM⟩
  replace hK := hK.trans hk
  refine HO.nil (thenQ_normal (?_))
  refine HW.seq ?_
  refine HW.seq ?_
  refine HW.region ?_
  refine HO.val (v := .pointer (some ⟨br, 0, none⟩)) (want_none) rfl (q_move rfl) ?_
  refine HO.val (v := .pointer (some ⟨br, 0, none⟩)) (want_none) rfl (q_nilCheck rfl) ?_
  refine HO.val (v := .pointer (some ⟨br, 2, none⟩)) (want_none) rfl (q_fieldAddr fa_94_2 rfl rfl) ?_
  refine HO.val (v := v_2) (want_none) rfl (q_load to_92 rfl (Blk.cell (hS.box 0 rfl) rfl)) ?_
  refine HO.val (v := .int .i64 (r_fixed_2.length : Int)) (want_none) rfl (q_len ts_92 (shp (hS.own 3 rfl).slice) rfl rfl) ?_
  refine HO.val (v := .int .i64 0) (want_none) rfl (q_move rfl) ?_
  refine HO.nil (thenQ_normal (?_))
  refine HW.block ?_
  obtain ⟨I_1, m_1, hI_1, hR_1⟩ := hM
  replace hS := hS.nilOwn 3 1 encI
  replace hS : St F_1 (Ow.box br 94 #[.int .i64 r_now_2, .pointer (some ⟨br_till, 0, none⟩), v_2] :: Ow.box br_till 106 #[.map (some rr_till_at)] :: Ow.map rr_till_at kI kI rm_2 :: Ow.own 4 1 encB v_2 r_fixed_2 :: Ow.own 3 1 encI (.slice none 0 0) ([] : List Int) :: fr) h_1 := hS.perm2 [1, 2, 3, 4, 0] 5 rfl rfl
  refine HW.loop (S := List Int × Int) (fun s f h => match s with | (out_1, n_1) => ∃ (F' : Fz) (vout_1 : Value), f 0 = .pointer (some ⟨br, 0, none⟩) ∧ f 4 = .slice none 0 0 ∧ f 5 = vout_1 ∧ f 16 = .int .i64 (r_fixed_2.length : Int) ∧ f 17 = .int .i64 n_1 ∧ Kp F h0 F' h ∧ St F' (Ow.box br 94 #[.int .i64 r_now_2, .pointer (some ⟨br_till, 0, none⟩), v_2] :: Ow.box br_till 106 #[.map (some rr_till_at)] :: Ow.map rr_till_at kI kI rm_2 :: Ow.own 4 1 encB v_2 r_fixed_2 :: Ow.own 3 1 encI vout_1 out_1 :: fr) h ∧ I_1 (out_1, n_1)) m_1 ([], 0) ⟨F_1, .slice none 0 0, rfl, rfl, rfl, rfl, rfl, hK, hS, hI_1⟩ ?_
  rintro ⟨out_1, n_1⟩ f_1 h_2 ⟨F_2, vout_1, e0, e4, e5, e16, e17, hK, hS, hI0⟩
  obtain ⟨K_1, hKe_1⟩ : ∃ K : (List Int) → Int → Prop, K = fun out_1' n_1' => I_1 (out_1', n_1') ∧ m_1 (out_1', n_1') < m_1 (out_1, n_1) := ⟨_, rfl⟩
  have hM : route_Routes_Ports_l1 Q r_now_2 rm_2 r_fixed_2 K_1 out_1 n_1 := by rw [hKe_1]; exact hR_1 (out_1, n_1) hI0
  unfold route_Routes_Ports_l1 at hM
  refine HW.fr [(0, .pointer (some ⟨br, 0, none⟩)), (4, .slice none 0 0), (5, vout_1), (16, .int .i64 (r_fixed_2.length : Int)), (17, .int .i64 n_1)] ⟨e0, e4, e5, e16, e17, trivial⟩ ?_
  refine HW.seq ?_
  refine HW.region ?_
  refine HO.val (v := .bool (decide (n_1 < (r_fixed_2.length : Int)))) (want_none) rfl (q_lss rfl rfl) ?_
  refine HO.nil (thenQ_normal (?_))
  refine HW.seq ?_
  refine HW.cond (decide (n_1 < (r_fixed_2.length : Int))) rfl (fun c_1 => ?_) (fun c_1 => ?_)
  · replace hM := hM.1 (of_decide_eq_true c_1)
    refine HW.skip (thenQ_normal (?_))
    refine HW.seq ?_
    refine HW.block ?_
    refine HW.seq ?_
    refine HW.region ?_
    refine HO.val (v := .int .i64 n_1) (want_none) rfl (q_move rfl) ?_
    refine HO.val (v := .int .i64 n_1) (want_none) rfl (q_assign rfl) ?_
    refine HO.nil (thenQ_normal (?_))
    refine HW.seq ?_
    refine HW.region ?_
    refine HO.val (v := .pointer (some ⟨br, 0, none⟩)) (want_none) rfl (q_move rfl) ?_
    refine HO.val (v := .int .i64 n_1) (want_none) rfl (q_move rfl) ?_
    have hZ_1 := hS
    have hkz_1 := (hS.freeze).2
    replace hS := hS.freeze.1
    have hL_1 := hZ_1.lent
    have hZ_2 := hS
    have hkz_2 := (hS.freeze).2
    replace hS := hS.freeze.1
    have hL_2 := hZ_2.lent
    have hZ_3 := hS
    have hkz_3 := (hS.freeze).2
    replace hS := hS.freeze.1
    have hL_3 := hZ_3.lent
    have hZ_4 := hS
    have hkz_4 := (hS.freeze).2
    replace hS := hS.freeze.1
    have hL_4 : SliceF (fun b => (fun b => (fun b => (fun b => F_2 b ∨ (Ow.box br 94 #[.int .i64 r_now_2, .pointer (some ⟨br_till, 0, none⟩), v_2]).foot b) b ∨ (Ow.box br_till 106 #[.map (some rr_till_at)]).foot b) b ∨ (Ow.map rr_till_at kI kI rm_2).foot b) b ∨ (Ow.own 4 1 encB v_2 r_fixed_2).foot b) h_2 1 encB v_2 r_fixed_2 := ⟨(hZ_4.own 0 rfl).slice, fun _ b hb => .inr hb⟩
    refine HO.call (want_none) rfl (ec en_63 rfl rfl) (route_Routes_is_walk (fr := (Ow.own 3 1 encI vout_1 out_1 :: fr)) r_now_2 rm_2 r_fixed_2 n_1 br br_till rr_till_at v_2 hS (hL_3.kp hkz_4) ((hL_2.kp hkz_3).kp hkz_4) hL_4 (((hL_1.kp hkz_2).kp hkz_3).kp hkz_4) hM) ?_
    rintro _ h_3 ⟨F_3, r_3, rfl, hk, hS, _, _, _, _, hM⟩
    obtain ⟨hS, hk⟩ := hZ_4.back hk hS
    obtain ⟨hS, hk⟩ := hZ_3.back hk hS
    obtain ⟨hS, hk⟩ := hZ_2.back hk hS
    obtain ⟨hS, hk⟩ := hZ_1.back hk hS
    generalize (fun b => (fun b => (fun b => (fun b => F_3 b ∧ ¬ (Ow.own 4 1 encB v_2 r_fixed_2).foot b) b ∧ ¬ (Ow.map rr_till_at kI kI rm_2).foot b) b ∧ ¬ (Ow.box br_till 106 #[.map (some rr_till_at)]).foot b) b ∧ ¬ (Ow.box br 94 #[.int .i64 r_now_2, .pointer (some ⟨br_till, 0, none⟩), v_2]).foot b) = F_4 at hS hk
    replace hK := hK.trans hk
    refine HO.nil (thenQ_normal (?_))
    refine HW.cond r_3 rfl (fun c_2 => ?_) (fun c_2 => ?_)
    · replace hM := hM.1 c_2
      refine HW.region ?_
      refine HO.val (v := vout_1) (want_none) rfl (q_move rfl) ?_
      refine HO.val (v := .int .i64 n_1) (want_none) rfl (q_move rfl) ?_
      refine HO.eff (want_none) rfl (st_lit (enc := encI) (cells := #[.int .i64 n_1]) #[.int .i64 0] ([n_1] : List Int) hS tl_68 (by decide) (by decide) (by kernel_rfl) (by kernel_rfl) rfl (by intro x hx; rfl) rfl) ?_
      rintro _ h_4 ⟨b_1, rfl, hS, hk⟩
      replace hK := hK.trans hk
      obtain ⟨ho_1, hM⟩ := hM
      refine HO.eff (want_none) rfl (st_append te_68 hS (i := 5) rfl (hS.own 0 rfl).slice rfl rfl rfl (by intro a _ u hu; simp [encI, encI, encN, encB, encT] at hu; subst hu; rfl) ho_1 (by omega)) ?_
      rintro v_3 h_5 ⟨hS, hk⟩
      replace hS : St F_4 (Ow.own 3 1 encI (.slice (some ⟨b_1, 0, none⟩) 1 1) ([n_1] : List Int) :: Ow.box br 94 #[.int .i64 r_now_2, .pointer (some ⟨br_till, 0, none⟩), v_2] :: Ow.box br_till 106 #[.map (some rr_till_at)] :: Ow.map rr_till_at kI kI rm_2 :: Ow.own 4 1 encB v_2 r_fixed_2 :: Ow.own 3 1 encI v_3 (out_1 ++ ([n_1] : List Int)) :: fr) h_5 := hS
      replace hK := hK.trans hk
      refine HO.val (v := v_3) (want_none) rfl (q_assign rfl) ?_
      refine HO.nil (blockQ_normal (thenQ_normal (?_)))
      refine HW.region ?_
      obtain ⟨ho_2, hM⟩ := hM
      refine HO.val (v := .int .i64 (n_1 + 1)) (want_none) rfl (q_addN _ rfl rfl rfl ho_2.1 ho_2.2) ?_
      refine HO.val (v := .int .i64 (n_1 + 1)) (want_none) rfl (q_move rfl) ?_
      refine HO.nil (thenQ_normal (?_))
      replace hS : St F_4 (Ow.box br 94 #[.int .i64 r_now_2, .pointer (some ⟨br_till, 0, none⟩), v_2] :: Ow.box br_till 106 #[.map (some rr_till_at)] :: Ow.map rr_till_at kI kI rm_2 :: Ow.own 4 1 encB v_2 r_fixed_2 :: Ow.own 3 1 encI v_3 (out_1 ++ ([n_1] : List Int)) :: fr) h_5 := hS.perm2 [1, 2, 3, 4, 5] 6 rfl rfl
      rw [hKe_1] at hM
      exact ⟨(out_1 ++ ([n_1] : List Int), n_1 + 1), ⟨F_4, v_3, rfl, rfl, rfl, rfl, rfl, hK, hS, hM.1⟩, hM.2⟩
    · replace hM := hM.2 c_2
      refine HW.skip (blockQ_normal (thenQ_normal (?_)))
      refine HW.region ?_
      obtain ⟨ho_3, hM⟩ := hM
      refine HO.val (v := .int .i64 (n_1 + 1)) (want_none) rfl (q_addN _ rfl rfl rfl ho_3.1 ho_3.2) ?_
      refine HO.val (v := .int .i64 (n_1 + 1)) (want_none) rfl (q_move rfl) ?_
      refine HO.nil (thenQ_normal (?_))
      rw [hKe_1] at hM
      exact ⟨(out_1, n_1 + 1), ⟨F_4, vout_1, rfl, rfl, rfl, rfl, rfl, hK, hS, hM.1⟩, hM.2⟩
  · replace hM := hM.2 (of_decide_eq_false c_1)
    refine HW.exit (thenQ_exit (thenQ_exit (blockQ_exit (thenQ_normal (?_)))))
    refine HW.seq ?_
    refine HW.region ?_
    refine HO.val (v := vout_1) (want_none) rfl (q_move rfl) ?_
    refine HO.val (v := vout_1) (want_none) rfl (q_assign rfl) ?_
    refine HO.nil (thenQ_normal (?_))
    refine HW.ret (?_)
    refine ⟨.inr rfl, vout_1, res1 rfl (rt rfl), ?_⟩
    replace hS : St F_2 (Ow.own 3 1 encI vout_1 out_1 :: Ow.box br 94 #[.int .i64 r_now_2, .pointer (some ⟨br_till, 0, none⟩), v_2] :: Ow.box br_till 106 #[.map (some rr_till_at)] :: Ow.map rr_till_at kI kI rm_2 :: Ow.own 4 1 encB v_2 r_fixed_2 :: fr) h_2 := hS.perm2 [4, 0, 1, 2, 3] 5 rfl rfl
    exact ⟨F_2, out_1, r_now_2, rm_2, r_fixed_2, vout_1, v_2, rfl, hK, hS, hM⟩

def ref23_R_Is_W (r_Now : Int) (r_L : List T_acequiaref23_One) (port : Int) (Q : Bool → Prop) : Prop :=
  ref23_R_in_W r_Now r_L port (fun r_2 => (r_2 = true → ((0 : Int) ≤ port ∧ port < (r_L.length : Int)) ∧ ((((gi r_L port).2) = true → Q true) ∧ (((gi r_L port).2) = false → ref23_R_Left_W r_Now r_L port (fun r_3 => Q (decide (0 < r_3)))))) ∧ (r_2 = false → Q false))
set_option maxHeartbeats 40000000 in
set_option maxRecDepth 100000 in
theorem ref23_R_Is_walk {F : Fz} {fr : List Ow} {h0 : Heap} (r_Now : Int) (r_L : List T_acequiaref23_One) (port : Int) (br : Nat) (vr_L : Value) (hS : St F (fr) h0) (hL_r_L : SliceF F h0 2 e_acequiaref23_One vr_L r_L) (hB_br : RoF (Ow.box br 59 #[.int .i64 r_Now, vr_L]) F h0) {Q : Bool → Prop} (hM : ref23_R_Is_W r_Now r_L port Q) :
    HC Try.prog 42 #[.pointer (some ⟨br, 0, none⟩), .int .i64 port] h0 fun u h' => ∃ (F' : Fz) (r_1 : Bool), u = .bool r_1 ∧ Kp F h0 F' h' ∧ St F' (fr) h' ∧ (SliceF F' h' 2 e_acequiaref23_One vr_L r_L) ∧ (RoF (Ow.box br 59 #[.int .i64 r_Now, vr_L]) F' h') ∧ Q r_1 := by
  unfold ref23_R_Is_W at hM
  have hK := Kp.refl F h0
  refine HC.of_HW (n := 24) Try.func42 rfl rfl (Nat.le_of_ble_eq_true rfl) ?_
  refine HW.seq ?_
  refine HW.region ?_
  refine HO.val (v := .bool false) (want_none) rfl (q_assign rfl) ?_
  refine HO.nil (thenQ_normal (?_))
  refine HW.seq ?_
  refine HW.region ?_
  refine HO.val (v := .pointer (some ⟨br, 0, none⟩)) (want_none) rfl (q_move rfl) ?_
  refine HO.val (v := .int .i64 port) (want_none) rfl (q_move rfl) ?_
  refine HO.call (want_none) rfl (ec en_60 rfl rfl) (ref23_R_in_walk (fr := (fr)) r_Now r_L port br vr_L hS hL_r_L hB_br hM) ?_
  rintro _ h_1 ⟨F_1, r_2, rfl, hk, hS, _, _, hM⟩
  replace hK := hK.trans hk
  replace hL_r_L := hL_r_L.kp hk
  replace hB_br := hB_br.kp hk
  refine HO.val (v := .bool r_2) (want_none) rfl (q_move rfl) ?_
  rcases Bool.eq_false_or_eq_true r_2 with c_1 | c_1
  · replace hM := hM.1 c_1
    refine HO.val (v := .pointer (some ⟨br, 0, none⟩)) (want_by rfl rfl c_1) rfl (q_move rfl) ?_
    refine HO.val (v := .pointer (some ⟨br, 0, none⟩)) (want_by rfl rfl c_1) rfl (q_nilCheck rfl) ?_
    refine HO.val (v := .pointer (some ⟨br, 1, none⟩)) (want_by rfl rfl c_1) rfl (q_fieldAddr fa_59_1 rfl rfl) ?_
    refine HO.val (v := vr_L) (want_by rfl rfl c_1) rfl (q_load to_57 rfl (Blk.cell hB_br.box rfl)) ?_
    refine HO.val (v := .int .i64 port) (want_by rfl rfl c_1) rfl (q_move rfl) ?_
    obtain ⟨ho_1, hM⟩ := hM
    refine HO.val (v := elemPtr 2 vr_L (port).toNat) (want_by rfl rfl c_1) rfl (q_idx ts_57 hL_r_L.is rfl rfl ho_1) ?_
    refine HO.val (v := fieldPtr 2 vr_L (port).toNat 1) (want_by rfl rfl c_1) rfl (q_fldElem fa_98_1 hL_r_L.is rfl ho_1) ?_
    refine HO.val (v := .bool ((gi r_L port).2)) (want_by rfl rfl c_1) rfl (q_ldField to_4 hL_r_L.is rfl ho_1 (by decide) rfl) ?_
    refine HO.val (v := .bool ((gi r_L port).2)) (want_by rfl rfl c_1) rfl (q_move rfl) ?_
    rcases Bool.eq_false_or_eq_true ((gi r_L port).2) with c_2 | c_2
    · replace hM := hM.1 c_2
      refine HO.past (past_by rfl rfl c_2) rfl ?_
      refine HO.past (past_by rfl rfl c_2) rfl ?_
      refine HO.past (past_by rfl rfl c_2) rfl ?_
      refine HO.past (past_by rfl rfl c_2) rfl ?_
      refine HO.val (v := .bool true) (want_by rfl rfl c_1) rfl (q_pickK true rfl c_2 rfl) ?_
      refine HO.val (v := .bool true) (want_none) rfl (q_pickK true rfl c_1 rfl) ?_
      refine HO.val (v := .bool true) (want_none) rfl (q_assign rfl) ?_
      refine HO.nil (thenQ_normal (?_))
      refine HW.ret (?_)
      refine ⟨.inr rfl, .bool true, res1 rfl (rt rfl), ?_⟩
      exact ⟨F_1, true, rfl, hK, hS, hL_r_L, hB_br, hM⟩
    · replace hM := hM.2 c_2
      refine HO.val (v := .pointer (some ⟨br, 0, none⟩)) (want_by rfl rfl c_2) rfl (q_move rfl) ?_
      refine HO.val (v := .int .i64 port) (want_by rfl rfl c_2) rfl (q_move rfl) ?_
      refine HO.call (want_by rfl rfl c_2) rfl (ec en_44 rfl rfl) (ref23_R_Left_walk (fr := (fr)) r_Now r_L port br vr_L hS hL_r_L hB_br hM) ?_
      rintro _ h_2 ⟨F_2, r_3, rfl, hk, hS, _, _, hM⟩
      replace hK := hK.trans hk
      replace hL_r_L := hL_r_L.kp hk
      replace hB_br := hB_br.kp hk
      refine HO.val (v := .bool (decide (0 < r_3))) (want_by rfl rfl c_2) rfl (q_gtr rfl rfl) ?_
      refine HO.val (v := .bool (decide (0 < r_3))) (want_by rfl rfl c_1) rfl (q_pickK false rfl c_2 rfl) ?_
      refine HO.val (v := .bool (decide (0 < r_3))) (want_none) rfl (q_pickK true rfl c_1 rfl) ?_
      refine HO.val (v := .bool (decide (0 < r_3))) (want_none) rfl (q_assign rfl) ?_
      refine HO.nil (thenQ_normal (?_))
      refine HW.ret (?_)
      refine ⟨.inr rfl, .bool (decide (0 < r_3)), res1 rfl (rt rfl), ?_⟩
      exact ⟨F_2, decide (0 < r_3), rfl, hK, hS, hL_r_L, hB_br, hM⟩
  · replace hM := hM.2 c_1
    refine HO.past (past_by rfl rfl c_1) rfl ?_
    refine HO.past (past_by rfl rfl c_1) rfl ?_
    refine HO.past (past_by rfl rfl c_1) rfl ?_
    refine HO.past (past_by rfl rfl c_1) rfl ?_
    refine HO.past (past_by rfl rfl c_1) rfl ?_
    refine HO.past (past_by rfl rfl c_1) rfl ?_
    refine HO.past (past_by rfl rfl c_1) rfl ?_
    refine HO.past (past_by rfl rfl c_1) rfl ?_
    refine HO.past (past_by rfl rfl c_1) rfl ?_
    refine HO.past (past_undef rfl rfl) rfl ?_
    refine HO.past (past_undef rfl rfl) rfl ?_
    refine HO.past (past_undef rfl rfl) rfl ?_
    refine HO.past (past_undef rfl rfl) rfl ?_
    refine HO.past (past_by rfl rfl c_1) rfl ?_
    refine HO.val (v := .bool false) (want_none) rfl (q_pickK false rfl c_1 rfl) ?_
    refine HO.val (v := .bool false) (want_none) rfl (q_assign rfl) ?_
    refine HO.nil (thenQ_normal (?_))
    refine HW.ret (?_)
    refine ⟨.inr rfl, .bool false, res1 rfl (rt rfl), ?_⟩
    exact ⟨F_1, false, rfl, hK, hS, hL_r_L, hB_br, hM⟩

def ref23_R_Ports_l1 (r_Now : Int) (r_L : List T_acequiaref23_One) (Q : (List Int) → Prop) (K_1 : (List Int) → Int → Prop) (out_1 : List Int) (i_1 : Int) : Prop :=
  (i_1 < (r_L.length : Int) → ref23_R_Is_W r_Now r_L i_1 (fun r_2 => (r_2 = true → ((out_1.length + ([i_1] : List Int).length) * 8 ≤ 140737488355328) ∧ ((I64 (i_1 + 1)) ∧ (K_1 (out_1 ++ ([i_1] : List Int)) (i_1 + 1)))) ∧ (r_2 = false → (I64 (i_1 + 1)) ∧ (K_1 out_1 (i_1 + 1))))) ∧ (¬ (i_1 < (r_L.length : Int)) → Q out_1)
def ref23_R_Ports_W (r_Now : Int) (r_L : List T_acequiaref23_One) (Q : (List Int) → Prop) : Prop :=
  loopW (fun (K_1 : (List Int × Int) → Prop) (s : List Int × Int) => ref23_R_Ports_l1 r_Now r_L Q (fun out_1 i_1 => K_1 (out_1, i_1)) s.1 s.2) ([], 0)
set_option maxHeartbeats 40000000 in
set_option maxRecDepth 100000 in
theorem ref23_R_Ports_walk {F : Fz} {fr : List Ow} {h0 : Heap} (r_Now : Int) (r_L : List T_acequiaref23_One) (br : Nat) (vr_L : Value) (hS : St F (fr) h0) (hL_r_L : SliceF F h0 2 e_acequiaref23_One vr_L r_L) (hB_br : RoF (Ow.box br 59 #[.int .i64 r_Now, vr_L]) F h0) {Q : (List Int) → Prop} (hM : ref23_R_Ports_W r_Now r_L Q) :
    HC Try.prog 40 #[.pointer (some ⟨br, 0, none⟩)] h0 fun u h' => ∃ (F' : Fz) (r_1 : List Int) (vr_1 : Value), u = vr_1 ∧ Kp F h0 F' h' ∧ St F' (Ow.own 3 1 encI vr_1 r_1 :: fr) h' ∧ (SliceF F' h' 2 e_acequiaref23_One vr_L r_L) ∧ (RoF (Ow.box br 59 #[.int .i64 r_Now, vr_L]) F' h') ∧ Q r_1 := by
  unfold ref23_R_Ports_W at hM
  have hK := Kp.refl F h0
  refine HC.of_HW (n := 23) Try.func40 rfl rfl (Nat.le_of_ble_eq_true rfl) ?_
  refine HW.seq ?_
  refine HW.region ?_
  refine HO.val (v := .slice none 0 0) (want_none) rfl (q_assign rfl) ?_
  refine HO.nil (thenQ_normal (?_))
  refine HW.seq ?_
  refine HW.region ?_
  refine HO.eff (want_none) rfl (st_litEmpty (α := Int) encI hS tl_68) ?_
  rintro _ h_1 ⟨b_1, rfl, hS, hk⟩
  replace hK := hK.trans hk
  replace hL_r_L := hL_r_L.kp hk
  replace hB_br := hB_br.kp hk
  refine HO.val (v := .slice (some ⟨b_1, 0, none⟩) 0 0) (want_none) rfl (q_assign rfl) ?_
  refine HO.nil (thenQ_normal (?_))
  refine HW.seq ?_
  refine HW.seq ?_
  refine HW.region ?_
  refine HO.val (v := .int .i64 0) (want_none) rfl (q_assign rfl) ?_
  refine HO.nil (thenQ_normal (?_))
  refine HW.block ?_
  obtain ⟨I_1, m_1, hI_1, hR_1⟩ := hM
  refine HW.loop (S := List Int × Int) (fun s f h => match s with | (out_1, i_1) => ∃ (F' : Fz) (vout_1 : Value), f 0 = .pointer (some ⟨br, 0, none⟩) ∧ f 2 = .slice none 0 0 ∧ f 3 = vout_1 ∧ f 4 = .int .i64 i_1 ∧ Kp F h0 F' h ∧ St F' (Ow.own 3 1 encI vout_1 out_1 :: fr) h ∧ (SliceF F' h 2 e_acequiaref23_One vr_L r_L) ∧ (RoF (Ow.box br 59 #[.int .i64 r_Now, vr_L]) F' h) ∧ I_1 (out_1, i_1)) m_1 ([], 0) ⟨F, .slice (some ⟨b_1, 0, none⟩) 0 0, rfl, rfl, rfl, rfl, hK, hS, hL_r_L, hB_br, hI_1⟩ ?_
  rintro ⟨out_1, i_1⟩ f_1 h_2 ⟨F_1, vout_1, e0, e2, e3, e4, hK, hS, hL_r_L, hB_br, hI0⟩
  obtain ⟨K_1, hKe_1⟩ : ∃ K : (List Int) → Int → Prop, K = fun out_1' i_1' => I_1 (out_1', i_1') ∧ m_1 (out_1', i_1') < m_1 (out_1, i_1) := ⟨_, rfl⟩
  have hM : ref23_R_Ports_l1 r_Now r_L Q K_1 out_1 i_1 := by rw [hKe_1]; exact hR_1 (out_1, i_1) hI0
  unfold ref23_R_Ports_l1 at hM
  refine HW.fr [(0, .pointer (some ⟨br, 0, none⟩)), (2, .slice none 0 0), (3, vout_1), (4, .int .i64 i_1)] ⟨e0, e2, e3, e4, trivial⟩ ?_
  refine HW.seq ?_
  refine HW.seq ?_
  refine HW.region ?_
  refine HO.val (v := .int .i64 i_1) (want_none) rfl (q_move rfl) ?_
  refine HO.val (v := .pointer (some ⟨br, 0, none⟩)) (want_none) rfl (q_move rfl) ?_
  refine HO.val (v := .pointer (some ⟨br, 0, none⟩)) (want_none) rfl (q_nilCheck rfl) ?_
  refine HO.val (v := .pointer (some ⟨br, 1, none⟩)) (want_none) rfl (q_fieldAddr fa_59_1 rfl rfl) ?_
  refine HO.val (v := vr_L) (want_none) rfl (q_load to_57 rfl (Blk.cell hB_br.box rfl)) ?_
  refine HO.val (v := .int .i64 (r_L.length : Int)) (want_none) rfl (q_len ts_57 (shp hL_r_L.is) rfl rfl) ?_
  refine HO.val (v := .bool (decide (i_1 < (r_L.length : Int)))) (want_none) rfl (q_lss rfl rfl) ?_
  refine HO.nil (thenQ_normal (?_))
  refine HW.cond (decide (i_1 < (r_L.length : Int))) rfl (fun c_1 => ?_) (fun c_1 => ?_)
  · replace hM := hM.1 (of_decide_eq_true c_1)
    refine HW.skip (thenQ_normal (?_))
    refine HW.seq ?_
    refine HW.block ?_
    refine HW.seq ?_
    refine HW.region ?_
    refine HO.val (v := .pointer (some ⟨br, 0, none⟩)) (want_none) rfl (q_move rfl) ?_
    refine HO.val (v := .int .i64 i_1) (want_none) rfl (q_move rfl) ?_
    refine HO.call (want_none) rfl (ec en_42 rfl rfl) (ref23_R_Is_walk (fr := (Ow.own 3 1 encI vout_1 out_1 :: fr)) r_Now r_L i_1 br vr_L hS hL_r_L hB_br hM) ?_
    rintro _ h_3 ⟨F_2, r_2, rfl, hk, hS, _, _, hM⟩
    replace hK := hK.trans hk
    replace hL_r_L := hL_r_L.kp hk
    replace hB_br := hB_br.kp hk
    refine HO.nil (thenQ_normal (?_))
    refine HW.cond r_2 rfl (fun c_2 => ?_) (fun c_2 => ?_)
    · replace hM := hM.1 c_2
      refine HW.region ?_
      refine HO.val (v := vout_1) (want_none) rfl (q_move rfl) ?_
      refine HO.val (v := .int .i64 i_1) (want_none) rfl (q_move rfl) ?_
      refine HO.eff (want_none) rfl (st_lit (enc := encI) (cells := #[.int .i64 i_1]) #[.int .i64 0] ([i_1] : List Int) hS tl_68 (by decide) (by decide) (by kernel_rfl) (by kernel_rfl) rfl (by intro x hx; rfl) rfl) ?_
      rintro _ h_4 ⟨b_2, rfl, hS, hk⟩
      replace hK := hK.trans hk
      replace hL_r_L := hL_r_L.kp hk
      replace hB_br := hB_br.kp hk
      obtain ⟨ho_1, hM⟩ := hM
      refine HO.eff (want_none) rfl (st_append te_68 hS (i := 1) rfl (hS.own 0 rfl).slice rfl rfl rfl (by intro a _ u hu; simp [encI, encI, encN, encB, encT] at hu; subst hu; rfl) ho_1 (by omega)) ?_
      rintro v_1 h_5 ⟨hS, hk⟩
      replace hS : St F_2 (Ow.own 3 1 encI (.slice (some ⟨b_2, 0, none⟩) 1 1) ([i_1] : List Int) :: Ow.own 3 1 encI v_1 (out_1 ++ ([i_1] : List Int)) :: fr) h_5 := hS
      replace hK := hK.trans hk
      replace hL_r_L := hL_r_L.kp hk
      replace hB_br := hB_br.kp hk
      refine HO.val (v := v_1) (want_none) rfl (q_assign rfl) ?_
      refine HO.nil (blockQ_normal (thenQ_normal (?_)))
      refine HW.region ?_
      refine HO.val (v := .int .i64 i_1) (want_none) rfl (q_move rfl) ?_
      obtain ⟨ho_2, hM⟩ := hM
      refine HO.val (v := .int .i64 (i_1 + 1)) (want_none) rfl (q_addN _ rfl rfl rfl ho_2.1 ho_2.2) ?_
      refine HO.val (v := .int .i64 (i_1 + 1)) (want_none) rfl (q_assign rfl) ?_
      refine HO.nil (thenQ_normal (?_))
      replace hS : St F_2 (Ow.own 3 1 encI v_1 (out_1 ++ ([i_1] : List Int)) :: fr) h_5 := hS.perm2 [1] 2 rfl rfl
      rw [hKe_1] at hM
      exact ⟨(out_1 ++ ([i_1] : List Int), i_1 + 1), ⟨F_2, v_1, rfl, rfl, rfl, rfl, hK, hS, hL_r_L, hB_br, hM.1⟩, hM.2⟩
    · replace hM := hM.2 c_2
      refine HW.skip (blockQ_normal (thenQ_normal (?_)))
      refine HW.region ?_
      refine HO.val (v := .int .i64 i_1) (want_none) rfl (q_move rfl) ?_
      obtain ⟨ho_3, hM⟩ := hM
      refine HO.val (v := .int .i64 (i_1 + 1)) (want_none) rfl (q_addN _ rfl rfl rfl ho_3.1 ho_3.2) ?_
      refine HO.val (v := .int .i64 (i_1 + 1)) (want_none) rfl (q_assign rfl) ?_
      refine HO.nil (thenQ_normal (?_))
      rw [hKe_1] at hM
      exact ⟨(out_1, i_1 + 1), ⟨F_2, vout_1, rfl, rfl, rfl, rfl, hK, hS, hL_r_L, hB_br, hM.1⟩, hM.2⟩
  · replace hM := hM.2 (of_decide_eq_false c_1)
    refine HW.exit (thenQ_exit (thenQ_exit (blockQ_exit (thenQ_normal (?_)))))
    refine HW.seq ?_
    refine HW.region ?_
    refine HO.val (v := vout_1) (want_none) rfl (q_move rfl) ?_
    refine HO.val (v := vout_1) (want_none) rfl (q_assign rfl) ?_
    refine HO.nil (thenQ_normal (?_))
    refine HW.ret (?_)
    refine ⟨.inr rfl, vout_1, res1 rfl (rt rfl), ?_⟩
    exact ⟨F_1, out_1, vout_1, rfl, hK, hS, hL_r_L, hB_br, hM⟩

def ref23_Same_l1 (a : List Int) (b : List Int) (Q : Bool → Prop) (K_1 : Int → Prop) (i_1 : Int) : Prop :=
  (i_1 < (a.length : Int) → ((0 : Int) ≤ i_1 ∧ i_1 < (a.length : Int)) ∧ (((0 : Int) ≤ i_1 ∧ i_1 < (b.length : Int)) ∧ ((¬ ((gi a i_1) = (gi b i_1)) → Q false) ∧ ((gi a i_1) = (gi b i_1) → (I64 (i_1 + 1)) ∧ (K_1 (i_1 + 1)))))) ∧ (¬ (i_1 < (a.length : Int)) → Q true)
def ref23_Same_W (a : List Int) (b : List Int) (Q : Bool → Prop) : Prop :=
  (¬ ((a.length : Int) = (b.length : Int)) → Q false) ∧ ((a.length : Int) = (b.length : Int) → loopW (fun (K_1 : Int → Prop) (s : Int) => ref23_Same_l1 a b Q K_1 s) 0)
set_option maxHeartbeats 40000000 in
set_option maxRecDepth 100000 in
theorem ref23_Same_walk {F : Fz} {fr : List Ow} {h0 : Heap} (a : List Int) (b : List Int) (va : Value) (vb : Value) (hS : St F (fr) h0) (hL_a : SliceF F h0 1 encI va a) (hL_b : SliceF F h0 1 encI vb b) {Q : Bool → Prop} (hM : ref23_Same_W a b Q) :
    HC Try.prog 38 #[va, vb] h0 fun u h' => ∃ (F' : Fz) (r_1 : Bool), u = .bool r_1 ∧ Kp F h0 F' h' ∧ St F' (fr) h' ∧ (SliceF F' h' 1 encI va a) ∧ (SliceF F' h' 1 encI vb b) ∧ Q r_1 := by
  unfold ref23_Same_W at hM
  have hK := Kp.refl F h0
  refine HC.of_HW (n := 26) Try.func38 rfl rfl (Nat.le_of_ble_eq_true rfl) ?_
  refine HW.seq ?_
  refine HW.region ?_
  refine HO.val (v := .bool false) (want_none) rfl (q_assign rfl) ?_
  refine HO.nil (thenQ_normal (?_))
  refine HW.seq ?_
  refine HW.seq ?_
  refine HW.region ?_
  refine HO.val (v := va) (want_none) rfl (q_move rfl) ?_
  refine HO.val (v := .int .i64 (a.length : Int)) (want_none) rfl (q_len ts_68 (shp hL_a.is) rfl rfl) ?_
  refine HO.val (v := vb) (want_none) rfl (q_move rfl) ?_
  refine HO.val (v := .int .i64 (b.length : Int)) (want_none) rfl (q_len ts_68 (shp hL_b.is) rfl rfl) ?_
  refine HO.val (v := .bool (!decide ((a.length : Int) = (b.length : Int)))) (want_none) rfl (q_neq rfl rfl) ?_
  refine HO.nil (thenQ_normal (?_))
  refine HW.cond (!decide ((a.length : Int) = (b.length : Int))) rfl (fun c_1 => ?_) (fun c_1 => ?_)
  · replace hM := hM.1 (nd_true c_1)
    refine HW.seq ?_
    refine HW.region ?_
    refine HO.val (v := .bool false) (want_none) rfl (q_assign rfl) ?_
    refine HO.nil (thenQ_normal (?_))
    refine HW.ret (thenQ_ret (?_))
    refine ⟨.inr rfl, .bool false, res1 rfl (rt rfl), ?_⟩
    exact ⟨F, false, rfl, hK, hS, hL_a, hL_b, hM⟩
  · replace hM := hM.2 (nd_false c_1)
    refine HW.skip (thenQ_normal (?_))
    refine HW.seq ?_
    refine HW.seq ?_
    refine HW.region ?_
    refine HO.val (v := .int .i64 0) (want_none) rfl (q_assign rfl) ?_
    refine HO.nil (thenQ_normal (?_))
    refine HW.block ?_
    obtain ⟨I_1, m_1, hI_1, hR_1⟩ := hM
    refine HW.loop (S := Int) (fun i_1 f h => ∃ (F' : Fz), f 0 = va ∧ f 1 = vb ∧ f 4 = .bool false ∧ f 5 = .int .i64 i_1 ∧ Kp F h0 F' h ∧ St F' (fr) h ∧ (SliceF F' h 1 encI va a) ∧ (SliceF F' h 1 encI vb b) ∧ I_1 i_1) m_1 0 ⟨F, rfl, rfl, rfl, rfl, hK, hS, hL_a, hL_b, hI_1⟩ ?_
    rintro i_1 f_1 h_1 ⟨F_1, e0, e1, e4, e5, hK, hS, hL_a, hL_b, hI0⟩
    obtain ⟨K_1, hKe_1⟩ : ∃ K : Int → Prop, K = fun i_1' => I_1 i_1' ∧ m_1 i_1' < m_1 i_1 := ⟨_, rfl⟩
    have hM : ref23_Same_l1 a b Q K_1 i_1 := by rw [hKe_1]; exact hR_1 i_1 hI0
    unfold ref23_Same_l1 at hM
    refine HW.fr [(0, va), (1, vb), (4, .bool false), (5, .int .i64 i_1)] ⟨e0, e1, e4, e5, trivial⟩ ?_
    refine HW.seq ?_
    refine HW.seq ?_
    refine HW.region ?_
    refine HO.val (v := .int .i64 i_1) (want_none) rfl (q_move rfl) ?_
    refine HO.val (v := va) (want_none) rfl (q_move rfl) ?_
    refine HO.val (v := .int .i64 (a.length : Int)) (want_none) rfl (q_len ts_68 (shp hL_a.is) rfl rfl) ?_
    refine HO.val (v := .bool (decide (i_1 < (a.length : Int)))) (want_none) rfl (q_lss rfl rfl) ?_
    refine HO.nil (thenQ_normal (?_))
    refine HW.cond (decide (i_1 < (a.length : Int))) rfl (fun c_2 => ?_) (fun c_2 => ?_)
    · replace hM := hM.1 (of_decide_eq_true c_2)
      refine HW.skip (thenQ_normal (?_))
      refine HW.seq ?_
      refine HW.block ?_
      refine HW.seq ?_
      refine HW.regionA 9 mixed (fun h => (SliceIs h 1 encI va a) ∧ (SliceIs h 1 encI vb b)) [] (by kernel_rfl) ?_
      refine HA.val (k := 0) (v := va) rfl rfl (by kernel_rfl) (by kernel_rfl) (want_none) rfl (fun _ ⟨hL_a, hL_b⟩ => q_move rfl) ?_
      refine HA.val (k := 1) (v := .int .i64 i_1) rfl rfl (by kernel_rfl) (by kernel_rfl) (want_none) rfl (fun _ ⟨hL_a, hL_b⟩ => q_move rfl) ?_
      obtain ⟨ho_1, hM⟩ := hM
      refine HA.val (k := 2) (v := elemPtr 1 va (i_1).toNat) rfl rfl (by kernel_rfl) (by kernel_rfl) (want_none) rfl (fun _ ⟨hL_a, hL_b⟩ => q_idx ts_68 hL_a rfl rfl ho_1) ?_
      refine HA.val (k := 3) (v := .int .i64 (gi a i_1)) rfl rfl (by kernel_rfl) (by kernel_rfl) (want_none) rfl (fun _ ⟨hL_a, hL_b⟩ => q_ldElem to_3 hL_a rfl ho_1 rfl) ?_
      refine HA.val (k := 4) (v := vb) rfl rfl (by kernel_rfl) (by kernel_rfl) (want_none) rfl (fun _ ⟨hL_a, hL_b⟩ => q_move rfl) ?_
      refine HA.val (k := 5) (v := .int .i64 i_1) rfl rfl (by kernel_rfl) (by kernel_rfl) (want_none) rfl (fun _ ⟨hL_a, hL_b⟩ => q_move rfl) ?_
      obtain ⟨ho_2, hM⟩ := hM
      refine HA.val (k := 6) (v := elemPtr 1 vb (i_1).toNat) rfl rfl (by kernel_rfl) (by kernel_rfl) (want_none) rfl (fun _ ⟨hL_a, hL_b⟩ => q_idx ts_68 hL_b rfl rfl ho_2) ?_
      refine HA.val (k := 7) (v := .int .i64 (gi b i_1)) rfl rfl (by kernel_rfl) (by kernel_rfl) (want_none) rfl (fun _ ⟨hL_a, hL_b⟩ => q_ldElem to_3 hL_b rfl ho_2 rfl) ?_
      refine HA.val (k := 8) (v := .bool (!decide ((gi a i_1) = (gi b i_1)))) rfl rfl (by kernel_rfl) (by kernel_rfl) (want_none) rfl (fun _ ⟨hL_a, hL_b⟩ => q_neq rfl rfl) ?_
      refine HA.nil ⟨⟨hL_a.is, hL_b.is⟩, (Go.Wk.at_nil _ _)⟩ (by kernel_rfl) (thenQ_normal (?_))
      refine HW.cond (!decide ((gi a i_1) = (gi b i_1))) rfl (fun c_3 => ?_) (fun c_3 => ?_)
      · replace hM := hM.1 (nd_true c_3)
        refine HW.seq ?_
        refine HW.region ?_
        refine HO.val (v := .bool false) (want_none) rfl (q_assign rfl) ?_
        refine HO.nil (thenQ_normal (?_))
        refine HW.ret (blockQ_ret (thenQ_ret (thenQ_ret (blockQ_ret (thenQ_ret (?_))))))
        refine ⟨.inr rfl, .bool false, res1 rfl (rt rfl), ?_⟩
        exact ⟨F_1, false, rfl, hK, hS, hL_a, hL_b, hM⟩
      · replace hM := hM.2 (nd_false c_3)
        refine HW.skip (blockQ_normal (thenQ_normal (?_)))
        refine HW.region ?_
        refine HO.val (v := .int .i64 i_1) (want_none) rfl (q_move rfl) ?_
        obtain ⟨ho_3, hM⟩ := hM
        refine HO.val (v := .int .i64 (i_1 + 1)) (want_none) rfl (q_addN _ rfl rfl rfl ho_3.1 ho_3.2) ?_
        refine HO.val (v := .int .i64 (i_1 + 1)) (want_none) rfl (q_assign rfl) ?_
        refine HO.nil (thenQ_normal (?_))
        rw [hKe_1] at hM
        exact ⟨i_1 + 1, ⟨F_1, rfl, rfl, rfl, rfl, hK, hS, hL_a, hL_b, hM.1⟩, hM.2⟩
    · replace hM := hM.2 (of_decide_eq_false c_2)
      refine HW.exit (thenQ_exit (thenQ_exit (blockQ_exit (thenQ_normal (?_)))))
      refine HW.seq ?_
      refine HW.region ?_
      refine HO.val (v := .bool true) (want_none) rfl (q_assign rfl) ?_
      refine HO.nil (thenQ_normal (?_))
      refine HW.ret (?_)
      refine ⟨.inr rfl, .bool true, res1 rfl (rt rfl), ?_⟩
      exact ⟨F_1, true, rfl, hK, hS, hL_a, hL_b, hM⟩

def route_Routes_Left_W (r_now : Int) (r_till_at : List (Int × Int)) (r_fixed : List Bool) (now : Int) (port : Int) (Q : Int → Int → (List (Int × Int)) → (List Bool) → Prop) : Prop :=
  route_Routes_in_W r_now r_till_at r_fixed port (fun r_2 => ((!r_2) = true → Q 0 r_now r_till_at r_fixed) ∧ ((!r_2) = false → route_Routes_settle_W r_now r_till_at r_fixed now (fun r_3 r_now_2 rm_2 r_fixed_2 => clock_Clock_At_int_W rm_2 port (fun r0_1 r1_1 => ((!r1_1) = true → Q 0 r_now_2 rm_2 r_fixed_2) ∧ ((!r1_1) = false → (I64 (r0_1 - r_3)) ∧ (Q (r0_1 - r_3) r_now_2 rm_2 r_fixed_2))))))
set_option maxHeartbeats 40000000 in
set_option maxRecDepth 100000 in
theorem route_Routes_Left_walk {F : Fz} {fr : List Ow} {h0 : Heap} (r_now : Int) (r_till_at : List (Int × Int)) (r_fixed : List Bool) (now : Int) (port : Int) (br : Nat) (br_till : Nat) (rr_till_at : Nat) (vr_fixed : Value) (hS : St F (Ow.box br 94 #[.int .i64 r_now, .pointer (some ⟨br_till, 0, none⟩), vr_fixed] :: Ow.box br_till 106 #[.map (some rr_till_at)] :: Ow.map rr_till_at kI kI r_till_at :: Ow.own 4 1 encB vr_fixed r_fixed :: fr) h0)  {Q : Int → Int → (List (Int × Int)) → (List Bool) → Prop} (hM : route_Routes_Left_W r_now r_till_at r_fixed now port Q) :
    HC Try.prog 43 #[.pointer (some ⟨br, 0, none⟩), .int .i64 now, .int .i64 port] h0 fun u h' => ∃ (F' : Fz) (r_1 : Int) (r_now_1 : Int) (rm_1 : List (Int × Int)) (r_fixed_1 : List Bool) (v_1 : Value), u = .int .i64 r_1 ∧ Kp F h0 F' h' ∧ St F' (Ow.box br 94 #[.int .i64 r_now_1, .pointer (some ⟨br_till, 0, none⟩), v_1] :: Ow.box br_till 106 #[.map (some rr_till_at)] :: Ow.map rr_till_at kI kI rm_1 :: Ow.own 4 1 encB v_1 r_fixed_1 :: fr) h' ∧ Q r_1 r_now_1 rm_1 r_fixed_1 := by
  unfold route_Routes_Left_W at hM
  have hK := Kp.refl F h0
  refine HC.of_HW (n := 30) Try.func43 rfl rfl (Nat.le_of_ble_eq_true rfl) ?_
  refine HW.seq ?_
  refine HW.region ?_
  refine HO.val (v := .int .i64 0) (want_none) rfl (q_assign rfl) ?_
  refine HO.nil (thenQ_normal (?_))
  refine HW.seq ?_
  refine HW.seq ?_
  refine HW.region ?_
  refine HO.val (v := .pointer (some ⟨br, 0, none⟩)) (want_none) rfl (q_move rfl) ?_
  refine HO.val (v := .int .i64 port) (want_none) rfl (q_move rfl) ?_
  have hZ_1 := hS
  have hkz_1 := (hS.freeze).2
  replace hS := hS.freeze.1
  have hL_1 := hZ_1.lent
  have hZ_2 := hS
  have hkz_2 := (hS.freeze).2
  replace hS := hS.freeze.1
  have hL_2 := hZ_2.lent
  have hZ_3 := hS
  have hkz_3 := (hS.freeze).2
  replace hS := hS.freeze.1
  have hL_3 := hZ_3.lent
  have hZ_4 := hS
  have hkz_4 := (hS.freeze).2
  replace hS := hS.freeze.1
  have hL_4 : SliceF (fun b => (fun b => (fun b => (fun b => F b ∨ (Ow.box br 94 #[.int .i64 r_now, .pointer (some ⟨br_till, 0, none⟩), vr_fixed]).foot b) b ∨ (Ow.box br_till 106 #[.map (some rr_till_at)]).foot b) b ∨ (Ow.map rr_till_at kI kI r_till_at).foot b) b ∨ (Ow.own 4 1 encB vr_fixed r_fixed).foot b) h0 1 encB vr_fixed r_fixed := ⟨(hZ_4.own 0 rfl).slice, fun _ b hb => .inr hb⟩
  refine HO.call (want_none) rfl (ec en_55 rfl rfl) (route_Routes_in_walk (fr := (fr)) r_now r_till_at r_fixed port br br_till rr_till_at vr_fixed hS (hL_3.kp hkz_4) ((hL_2.kp hkz_3).kp hkz_4) hL_4 (((hL_1.kp hkz_2).kp hkz_3).kp hkz_4) hM) ?_
  rintro _ h_1 ⟨F_1, r_2, rfl, hk, hS, _, _, _, _, hM⟩
  obtain ⟨hS, hk⟩ := hZ_4.back hk hS
  obtain ⟨hS, hk⟩ := hZ_3.back hk hS
  obtain ⟨hS, hk⟩ := hZ_2.back hk hS
  obtain ⟨hS, hk⟩ := hZ_1.back hk hS
  generalize (fun b => (fun b => (fun b => (fun b => F_1 b ∧ ¬ (Ow.own 4 1 encB vr_fixed r_fixed).foot b) b ∧ ¬ (Ow.map rr_till_at kI kI r_till_at).foot b) b ∧ ¬ (Ow.box br_till 106 #[.map (some rr_till_at)]).foot b) b ∧ ¬ (Ow.box br 94 #[.int .i64 r_now, .pointer (some ⟨br_till, 0, none⟩), vr_fixed]).foot b) = F_2 at hS hk
  replace hK := hK.trans hk
  refine HO.val (v := .bool (!r_2)) (want_none) rfl (q_not rfl) ?_
  refine HO.nil (thenQ_normal (?_))
  refine HW.cond (!r_2) rfl (fun c_1 => ?_) (fun c_1 => ?_)
  · replace hM := hM.1 c_1
    refine HW.seq ?_
    refine HW.region ?_
    refine HO.val (v := .int .i64 0) (want_none) rfl (q_assign rfl) ?_
    refine HO.nil (thenQ_normal (?_))
    refine HW.ret (thenQ_ret (?_))
    refine ⟨.inr rfl, .int .i64 0, res1 rfl (rt rfl), ?_⟩
    exact ⟨F_2, 0, r_now, r_till_at, r_fixed, vr_fixed, rfl, hK, hS, hM⟩
  · replace hM := hM.2 c_1
    refine HW.skip (thenQ_normal (?_))
    refine HW.seq ?_
    refine HW.region ?_
    refine HO.val (v := .pointer (some ⟨br, 0, none⟩)) (want_none) rfl (q_move rfl) ?_
    refine HO.val (v := .int .i64 now) (want_none) rfl (q_move rfl) ?_
    refine HO.call (want_none) rfl (ec en_56 rfl rfl) (route_Routes_settle_walk (fr := (fr)) r_now r_till_at r_fixed now br br_till rr_till_at vr_fixed hS hM) ?_
    rintro _ h_2 ⟨F_3, r_3, r_now_2, rm_2, r_fixed_2, v_2, rfl, hk, hS, hM⟩
    replace hK := hK.trans hk
    refine HO.val (v := .int .i64 r_3) (want_none) rfl (q_assign rfl) ?_
    refine HO.nil (thenQ_normal (?_))
    refine HW.seq ?_
    refine HW.region ?_
    refine HO.val (v := .pointer (some ⟨br, 0, none⟩)) (want_none) rfl (q_move rfl) ?_
    refine HO.val (v := .pointer (some ⟨br, 0, none⟩)) (want_none) rfl (q_nilCheck rfl) ?_
    refine HO.val (v := .pointer (some ⟨br, 1, none⟩)) (want_none) rfl (q_fieldAddr fa_94_1 rfl rfl) ?_
    refine HO.val (v := .pointer (some ⟨br_till, 0, none⟩)) (want_none) rfl (q_load to_90 rfl (Blk.cell (hS.box 0 rfl) rfl)) ?_
    refine HO.val (v := .int .i64 port) (want_none) rfl (q_move rfl) ?_
    replace hS : St F_3 (Ow.box br_till 106 #[.map (some rr_till_at)] :: Ow.box br 94 #[.int .i64 r_now_2, .pointer (some ⟨br_till, 0, none⟩), v_2] :: Ow.map rr_till_at kI kI rm_2 :: Ow.own 4 1 encB v_2 r_fixed_2 :: fr) h_2 := hS.perm2 [1, 0, 2, 3] 4 rfl rfl
    have hZ_5 := hS
    have hkz_5 := (hS.freeze).2
    replace hS := hS.freeze.1
    have hL_5 := hZ_5.lent
    replace hS : St (fun b => F_3 b ∨ (Ow.box br_till 106 #[.map (some rr_till_at)]).foot b) (Ow.map rr_till_at kI kI rm_2 :: Ow.box br 94 #[.int .i64 r_now_2, .pointer (some ⟨br_till, 0, none⟩), v_2] :: Ow.own 4 1 encB v_2 r_fixed_2 :: fr) h_2 := hS.perm2 [1, 0, 2] 3 rfl rfl
    have hZ_6 := hS
    have hkz_6 := (hS.freeze).2
    replace hS := hS.freeze.1
    have hL_6 := hZ_6.lent
    refine HO.call (want_none) rfl (ec en_57 rfl rfl) (clock_Clock_At_int_walk (fr := (Ow.box br 94 #[.int .i64 r_now_2, .pointer (some ⟨br_till, 0, none⟩), v_2] :: Ow.own 4 1 encB v_2 r_fixed_2 :: fr)) rm_2 port br_till rr_till_at hS hL_6 (hL_5.kp hkz_6) hM) ?_
    rintro _ h_3 ⟨F_4, r0_1, r1_1, rfl, hk, hS, _, _, hM⟩
    obtain ⟨hS, hk⟩ := hZ_6.back hk hS
    obtain ⟨hS, hk⟩ := hZ_5.back hk hS
    generalize (fun b => (fun b => F_4 b ∧ ¬ (Ow.map rr_till_at kI kI rm_2).foot b) b ∧ ¬ (Ow.box br_till 106 #[.map (some rr_till_at)]).foot b) = F_5 at hS hk
    replace hK := hK.trans hk
    refine HO.val (v := .tuple #[.int .i64 r0_1, .bool r1_1]) (want_none) rfl (q_move rfl) ?_
    refine HO.val (v := .int .i64 r0_1) (want_none) rfl (q_extract rfl rfl) ?_
    refine HO.val (v := .bool r1_1) (want_none) rfl (q_extract rfl rfl) ?_
    refine HO.val (v := .int .i64 r0_1) (want_none) rfl (q_assign rfl) ?_
    refine HO.val (v := .bool r1_1) (want_none) rfl (q_assign rfl) ?_
    refine HO.nil (thenQ_normal (?_))
    refine HW.seq ?_
    refine HW.seq ?_
    refine HW.region ?_
    refine HO.val (v := .bool r1_1) (want_none) rfl (q_move rfl) ?_
    refine HO.val (v := .bool (!r1_1)) (want_none) rfl (q_not rfl) ?_
    refine HO.nil (thenQ_normal (?_))
    refine HW.cond (!r1_1) rfl (fun c_2 => ?_) (fun c_2 => ?_)
    · replace hM := hM.1 c_2
      refine HW.seq ?_
      refine HW.region ?_
      refine HO.val (v := .int .i64 0) (want_none) rfl (q_assign rfl) ?_
      refine HO.nil (thenQ_normal (?_))
      refine HW.ret (thenQ_ret (?_))
      refine ⟨.inr rfl, .int .i64 0, res1 rfl (rt rfl), ?_⟩
      replace hS : St F_5 (Ow.box br 94 #[.int .i64 r_now_2, .pointer (some ⟨br_till, 0, none⟩), v_2] :: Ow.box br_till 106 #[.map (some rr_till_at)] :: Ow.map rr_till_at kI kI rm_2 :: Ow.own 4 1 encB v_2 r_fixed_2 :: fr) h_3 := hS.perm2 [2, 0, 1, 3] 4 rfl rfl
      exact ⟨F_5, 0, r_now_2, rm_2, r_fixed_2, v_2, rfl, hK, hS, hM⟩
    · replace hM := hM.2 c_2
      refine HW.skip (thenQ_normal (?_))
      refine HW.seq ?_
      refine HW.region ?_
      refine HO.val (v := .int .i64 r0_1) (want_none) rfl (q_move rfl) ?_
      refine HO.val (v := .int .i64 r_3) (want_none) rfl (q_move rfl) ?_
      obtain ⟨ho_1, hM⟩ := hM
      refine HO.val (v := .int .i64 (r0_1 - r_3)) (want_none) rfl (q_subN _ rfl rfl rfl ho_1.1 ho_1.2) ?_
      refine HO.val (v := .int .i64 (r0_1 - r_3)) (want_none) rfl (q_assign rfl) ?_
      refine HO.nil (thenQ_normal (?_))
      refine HW.ret (?_)
      refine ⟨.inr rfl, .int .i64 (r0_1 - r_3), res1 rfl (rt rfl), ?_⟩
      replace hS : St F_5 (Ow.box br 94 #[.int .i64 r_now_2, .pointer (some ⟨br_till, 0, none⟩), v_2] :: Ow.box br_till 106 #[.map (some rr_till_at)] :: Ow.map rr_till_at kI kI rm_2 :: Ow.own 4 1 encB v_2 r_fixed_2 :: fr) h_3 := hS.perm2 [2, 0, 1, 3] 4 rfl rfl
      exact ⟨F_5, r0_1 - r_3, r_now_2, rm_2, r_fixed_2, v_2, rfl, hK, hS, hM⟩
end Go.Wk
