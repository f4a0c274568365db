/- test -/
import Derived.Test.YtnemfpgfgblpbaaOwn3
import Derived.Test.YtnemfpgfgblpbaaSrt
import Derived.Test.YtnemfpgfgblpbaaLaySpot
import Derived.Test.YtnemfpgfgblpbaaLaySortI
import Derived.Test.YtnemfpgfgblpbaaProg
set_option linter.unusedSimpArgs false
set_option linter.unusedVariables false
set_option linter.unusedSectionVars false
namespace Go.Wk
open Go.HL
open Go.Proofs hiding encI
variable [DM]
def e_api_Spot (x : Int × Int) : List Value := [.int .i64 x.1, .int .i64 x.2]
def e_audit_port (x : Int × Int × Int × Int) : List Value := [.int .i64 x.1, .int .i64 x.2.1, .int .i64 x.2.2.1, .int .i64 x.2.2.2]
def e_api_Given (x : Int × Int × Int × Int × Str) : List Value := [.int .i64 x.1, .int .i64 x.2.1, .int .i64 x.2.2.1, .int .i64 x.2.2.2.1, .string (bs x.2.2.2.2)]
theorem tz_100 : TZero Try.prog 100 (.agg #[.int .i64 0, .int .i64 0]) := Try.zeroValue100
theorem ts_98 : TSlice Try.prog 98 100 2 := ⟨Try.underlying98, Try.sizeOf100⟩
theorem tl_98 : TLit Try.prog 98 100 2 #[.int .i64 0, .int .i64 0] := tlit ts_98 tz_100 rfl
theorem ta_100 : TAgg Try.prog 100 2 := ⟨Try.isAgg100, Try.sizeOf100⟩
theorem te_98 : TElem Try.prog 98 100 2 16 := ⟨Try.underlying98, ⟨Try.t100, .agg #[.int .i64 0, .int .i64 0], by kernel_rfl, by kernel_rfl, by kernel_rfl, by kernel_rfl, by kernel_rfl⟩, by decide⟩
theorem mixed : Try.prog.follows .mixedOrders = true := by kernel_rfl
set_option maxRecDepth 100000 in
theorem teq_100 (d : Nat) (a b : Int × Int) (w : World) : (Op.equalIn (d + 2) 100 (.agg #[.int .i64 a.1, .int .i64 a.2]) (.agg #[.int .i64 b.1, .int .i64 b.2])).run Try.prog w = .ok (decide (a = b)) w := by
  refine (eqs w (d + 1) 100 _ _ Try.underlying100 (by kernel_rfl) (eqf_cons w (a := .int .i64 a.1) (b := .int .i64 b.1) (by decide) (by kernel_rfl) (by kernel_rfl) (run_equalIn_int w _ _ _ _ _ _ Try.underlying3) (eqf_cons w (a := .int .i64 a.2) (b := .int .i64 b.2) (by decide) (by kernel_rfl) (by kernel_rfl) (run_equalIn_int w _ _ _ _ _ _ Try.underlying3) (eqf_nil w)))).trans ?_
  congr 1; rw [Bool.eq_iff_iff]; simp [Prod.ext_iff]
theorem en_131 (args : Array Value) (w : World) : (callFunc 131 args).run Try.prog w = .ok (.enter 131 args) w := by kernel_rfl
theorem en_141 (args : Array Value) (w : World) : (callFunc 141 args).run Try.prog w = .ok (.enter 141 args) w := by kernel_rfl
theorem ts_22 : TSlice Try.prog 22 3 1 := ⟨Try.underlying22, Try.sizeOf3⟩
theorem to_3 : TOne Try.prog 3 := ⟨Try.isAgg3, Try.sizeOf3⟩
theorem fa_100_0 : FieldAt Try.prog 100 0 0 := fun a w => by kernel_rfl
theorem fa_100_1 : FieldAt Try.prog 100 1 1 := fun a w => by kernel_rfl
theorem en_125 (args : Array Value) (w : World) : (callFunc 125 args).run Try.prog w = .ok (.enter 125 args) w := by kernel_rfl
theorem tz_3 : TZero Try.prog 3 (.int .i64 0) := Try.zeroValue3
theorem tl_22 : TLit Try.prog 22 3 1 #[.int .i64 0] := tlit ts_22 tz_3 rfl
theorem en_124 (args : Array Value) (w : World) : (callFunc 124 args).run Try.prog w = .ok (.enter 124 args) w := by kernel_rfl
theorem en_133 (args : Array Value) (w : World) : (callFunc 133 args).run Try.prog w = .ok (.enter 133 args) w := by kernel_rfl
theorem en_132 (args : Array Value) (w : World) : (callFunc 132 args).run Try.prog w = .ok (.enter 132 args) w := by kernel_rfl
theorem en_134 (args : Array Value) (w : World) : (callFunc 134 args).run Try.prog w = .ok (.enter 134 args) w := by kernel_rfl
theorem fa_151_0 : FieldAt Try.prog 151 0 0 := fun a w => by kernel_rfl
theorem to_149 : TOne Try.prog 149 := ⟨Try.isAgg149, Try.sizeOf149⟩
theorem tp_153 : TPlaces Try.prog 153 #[(0, 1), (1, 1), (2, 2)] #[.int .i64 0, .int .i64 0, .int .i64 0, .int .i64 0] := tplaces Try.runUnderlying153 Try.zeroValue153 rfl (fun w => by kernel_rfl)
theorem tmk_149 : TMapK Try.prog 149 153 3 (.int .i64 0) := ⟨Try.underlying149, tz_3⟩
set_option maxRecDepth 100000 in
theorem teq_153 (d : Nat) (a b : Int × Int × Int × Int) (w : World) : (Op.equalIn (d + 3) 153 (.agg #[.int .i64 a.1, .int .i64 a.2.1, .int .i64 a.2.2.1, .int .i64 a.2.2.2]) (.agg #[.int .i64 b.1, .int .i64 b.2.1, .int .i64 b.2.2.1, .int .i64 b.2.2.2])).run Try.prog w = .ok (decide (a = b)) w := by
  refine (eqs w (d + 2) 153 _ _ Try.underlying153 (by kernel_rfl) (eqf_cons w (a := .int .i64 a.1) (b := .int .i64 b.1) (by decide) (by kernel_rfl) (by kernel_rfl) (run_equalIn_int w _ _ _ _ _ _ Try.underlying3) (eqf_cons w (a := .int .i64 a.2.1) (b := .int .i64 b.2.1) (by decide) (by kernel_rfl) (by kernel_rfl) (run_equalIn_int w _ _ _ _ _ _ Try.underlying3) (eqf_cons w (a := .agg #[.int .i64 a.2.2.1, .int .i64 a.2.2.2]) (b := .agg #[.int .i64 b.2.2.1, .int .i64 b.2.2.2]) (by decide) (by kernel_rfl) (by kernel_rfl) (teq_100 (d + 0) _ _ w) (eqf_nil w))))).trans ?_
  congr 1; rw [Bool.eq_iff_iff]; simp [Prod.ext_iff]
set_option maxRecDepth 100000 in
theorem ka_153 : KeyAt Try.prog 153 (fun x : Int × Int × Int × Int => .agg #[.int .i64 x.1, .int .i64 x.2.1, .int .i64 x.2.2.1, .int .i64 x.2.2.2]) := keyAt_struct Try.underlying153 (fun a => ⟨_, rfl⟩) (fun a b w => teq_153 9997 a b w) (fun e a w => by kernel_rfl) (fun a => sameBits_agg 9999 [.int .i64 a.1, .int .i64 a.2.1, .int .i64 a.2.2.1, .int .i64 a.2.2.2] (by intro c hc; simp at hc; rcases hc with rfl | rfl | rfl | rfl <;> first | exact sameBits_int _ _ _ | exact sameBits_bool _ _ | exact sameBits_str _ _))
theorem tz_153 : TZero Try.prog 153 (.agg #[.int .i64 0, .int .i64 0, .int .i64 0, .int .i64 0]) := Try.zeroValue153
theorem ta_153 : TAgg Try.prog 153 4 := ⟨Try.isAgg153, Try.sizeOf153⟩
theorem fa_153_0 : FieldAt Try.prog 153 0 0 := fun a w => by kernel_rfl
theorem fa_153_1 : FieldAt Try.prog 153 1 1 := fun a w => by kernel_rfl
theorem fa_153_2 : FieldAt Try.prog 153 2 2 := fun a w => by kernel_rfl
theorem en_113 (args : Array Value) (w : World) : (callFunc 113 args).run Try.prog w = .ok (.enter 113 args) w := by kernel_rfl
theorem en_114 (args : Array Value) (w : World) : (callFunc 114 args).run Try.prog w = .ok (.enter 114 args) w := by kernel_rfl
theorem tz_112 : TZero Try.prog 112 (.agg #[.int .i64 0, .int .i64 0, .int .i64 0, .int .i64 0, .string (bs [])]) := Try.zeroValue112
theorem ts_97 : TSlice Try.prog 97 112 5 := ⟨Try.underlying97, Try.sizeOf112⟩
theorem tl_97 : TLit Try.prog 97 112 5 #[.int .i64 0, .int .i64 0, .int .i64 0, .int .i64 0, .string (bs [])] := tlit ts_97 tz_112 rfl
theorem ta_112 : TAgg Try.prog 112 5 := ⟨Try.isAgg112, Try.sizeOf112⟩
theorem fa_112_4 : FieldAt Try.prog 112 4 4 := fun a w => by kernel_rfl
theorem to_9 : TOne Try.prog 9 := ⟨Try.isAgg9, Try.sizeOf9⟩
theorem en_33 (args : Array Value) (w : World) : (callFunc 33 args).run Try.prog w = .ok (.enter 33 args) w := by kernel_rfl
theorem te_97 : TElem Try.prog 97 112 5 48 := ⟨Try.underlying97, ⟨Try.t112, .agg #[.int .i64 0, .int .i64 0, .int .i64 0, .int .i64 0, .string (bs [])], by kernel_rfl, by kernel_rfl, by kernel_rfl, by kernel_rfl, by kernel_rfl⟩, by decide⟩
theorem fa_112_0 : FieldAt Try.prog 112 0 0 := fun a w => by kernel_rfl
theorem fa_112_2 : FieldAt Try.prog 112 2 2 := fun a w => by kernel_rfl
theorem fa_112_1 : FieldAt Try.prog 112 1 1 := fun a w => by kernel_rfl
theorem fa_112_3 : FieldAt Try.prog 112 3 3 := fun a w => by kernel_rfl
theorem tp_100 : TPlaces Try.prog 100 #[(0, 1), (1, 1)] #[.int .i64 0, .int .i64 0] := tplaces Try.runUnderlying100 Try.zeroValue100 rfl (fun w => by kernel_rfl)
theorem fa_151_1 : FieldAt Try.prog 151 1 1 := fun a w => by kernel_rfl
theorem to_97 : TOne Try.prog 97 := ⟨Try.isAgg97, Try.sizeOf97⟩
theorem fa_151_2 : FieldAt Try.prog 151 2 2 := fun a w => by kernel_rfl
theorem te_22 : TElem Try.prog 22 3 1 8 := ⟨Try.underlying22, ⟨Try.t3, .int .i64 0, by kernel_rfl, by kernel_rfl, by kernel_rfl, by kernel_rfl, by kernel_rfl⟩, by decide⟩
theorem en_117 (args : Array Value) (w : World) : (callFunc 117 args).run Try.prog w = .ok (.enter 117 args) w := by kernel_rfl
theorem en_118 (args : Array Value) (w : World) : (callFunc 118 args).run Try.prog w = .ok (.enter 118 args) w := by kernel_rfl
theorem en_115 (args : Array Value) (w : World) : (callFunc 115 args).run Try.prog w = .ok (.enter 115 args) w := by kernel_rfl
theorem tp_151 : TPlaces Try.prog 151 #[(0, 1), (1, 1), (2, 1)] #[.map none, .slice none 0 0, .int .i64 0] := tplaces Try.runUnderlying151 Try.zeroValue151 rfl (fun w => by kernel_rfl)
theorem en_71 (args : Array Value) (w : World) : (callFunc 71 args).run Try.prog w = .ok (.enter 71 args) w := by kernel_rfl
theorem tp_112 : TPlaces Try.prog 112 #[(0, 1), (1, 1), (2, 1), (3, 1), (4, 1)] #[.int .i64 0, .int .i64 0, .int .i64 0, .int .i64 0, .string (bs [])] := tplaces Try.runUnderlying112 Try.zeroValue112 rfl (fun w => by kernel_rfl)
theorem en_74 (args : Array Value) (w : World) : (callFunc 74 args).run Try.prog w = .ok (.enter 74 args) w := by kernel_rfl
theorem en_77 (args : Array Value) (w : World) : (callFunc 77 args).run Try.prog w = .ok (.enter 77 args) w := by kernel_rfl
theorem en_88 (args : Array Value) (w : World) : (callFunc 88 args).run Try.prog w = .ok (.enter 88 args) w := by kernel_rfl
theorem fa_102_0 : FieldAt Try.prog 102 0 0 := fun a w => by kernel_rfl
theorem fa_102_1 : FieldAt Try.prog 102 1 1 := fun a w => by kernel_rfl
theorem fa_102_2 : FieldAt Try.prog 102 2 2 := fun a w => by kernel_rfl
theorem to_98 : TOne Try.prog 98 := ⟨Try.isAgg98, Try.sizeOf98⟩
theorem fa_102_3 : FieldAt Try.prog 102 3 3 := fun a w => by kernel_rfl
theorem en_76 (args : Array Value) (w : World) : (callFunc 76 args).run Try.prog w = .ok (.enter 76 args) w := by kernel_rfl
theorem en_75 (args : Array Value) (w : World) : (callFunc 75 args).run Try.prog w = .ok (.enter 75 args) w := by kernel_rfl
theorem en_73 (args : Array Value) (w : World) : (callFunc 73 args).run Try.prog w = .ok (.enter 73 args) w := by kernel_rfl
theorem en_83 (args : Array Value) (w : World) : (callFunc 83 args).run Try.prog w = .ok (.enter 83 args) w := by kernel_rfl
theorem en_89 (args : Array Value) (w : World) : (callFunc 89 args).run Try.prog w = .ok (.enter 89 args) w := by kernel_rfl
theorem en_91 (args : Array Value) (w : World) : (callFunc 91 args).run Try.prog w = .ok (.enter 91 args) w := by kernel_rfl
theorem en_80 (args : Array Value) (w : World) : (callFunc 80 args).run Try.prog w = .ok (.enter 80 args) w := by kernel_rfl
theorem en_72 (args : Array Value) (w : World) : (callFunc 72 args).run Try.prog w = .ok (.enter 72 args) w := by kernel_rfl
theorem en_78 (args : Array Value) (w : World) : (callFunc 78 args).run Try.prog w = .ok (.enter 78 args) w := by kernel_rfl
theorem en_79 (args : Array Value) (w : World) : (callFunc 79 args).run Try.prog w = .ok (.enter 79 args) w := by kernel_rfl
theorem en_116 (args : Array Value) (w : World) : (callFunc 116 args).run Try.prog w = .ok (.enter 116 args) w := by kernel_rfl
set_option maxRecDepth 100000 in
theorem teq_112 (d : Nat) (a b : Int × Int × Int × Int × Str) (w : World) : (Op.equalIn (d + 2) 112 (.agg #[.int .i64 a.1, .int .i64 a.2.1, .int .i64 a.2.2.1, .int .i64 a.2.2.2.1, .string (bs a.2.2.2.2)]) (.agg #[.int .i64 b.1, .int .i64 b.2.1, .int .i64 b.2.2.1, .int .i64 b.2.2.2.1, .string (bs b.2.2.2.2)])).run Try.prog w = .ok (decide (a = b)) w := by
  refine (eqs w (d + 1) 112 _ _ Try.underlying112 (by kernel_rfl) (eqf_cons w (a := .int .i64 a.1) (b := .int .i64 b.1) (by decide) (by kernel_rfl) (by kernel_rfl) (run_equalIn_int w _ _ _ _ _ _ Try.underlying3) (eqf_cons w (a := .int .i64 a.2.1) (b := .int .i64 b.2.1) (by decide) (by kernel_rfl) (by kernel_rfl) (run_equalIn_int w _ _ _ _ _ _ Try.underlying3) (eqf_cons w (a := .int .i64 a.2.2.1) (b := .int .i64 b.2.2.1) (by decide) (by kernel_rfl) (by kernel_rfl) (run_equalIn_int w _ _ _ _ _ _ Try.underlying3) (eqf_cons w (a := .int .i64 a.2.2.2.1) (b := .int .i64 b.2.2.2.1) (by decide) (by kernel_rfl) (by kernel_rfl) (run_equalIn_int w _ _ _ _ _ _ Try.underlying3) (eqf_cons w (a := .string (bs a.2.2.2.2)) (b := .string (bs b.2.2.2.2)) (by decide) (by kernel_rfl) (by kernel_rfl) (eqT w _ _ _ _ Try.underlying9) (eqf_nil w))))))).trans ?_
  congr 1; rw [Bool.eq_iff_iff]; simp [Prod.ext_iff]
theorem en_119 (args : Array Value) (w : World) : (callFunc 119 args).run Try.prog w = .ok (.enter 119 args) w := by kernel_rfl
theorem en_81 (args : Array Value) (w : World) : (callFunc 81 args).run Try.prog w = .ok (.enter 81 args) w := by kernel_rfl
theorem en_82 (args : Array Value) (w : World) : (callFunc 82 args).run Try.prog w = .ok (.enter 82 args) w := by kernel_rfl
theorem en_85 (args : Array Value) (w : World) : (callFunc 85 args).run Try.prog w = .ok (.enter 85 args) w := by kernel_rfl
theorem en_84 (args : Array Value) (w : World) : (callFunc 84 args).run Try.prog w = .ok (.enter 84 args) w := by kernel_rfl
theorem en_86 (args : Array Value) (w : World) : (callFunc 86 args).run Try.prog w = .ok (.enter 86 args) w := by kernel_rfl
theorem en_87 (args : Array Value) (w : World) : (callFunc 87 args).run Try.prog w = .ok (.enter 87 args) w := by kernel_rfl
theorem en_90 (args : Array Value) (w : World) : (callFunc 90 args).run Try.prog w = .ok (.enter 90 args) w := by kernel_rfl
def law44_own_j1 (l : List (Int × Int)) (Q : (List (Int × Int)) → Prop) (out_1 : List (Int × Int)) (i_1 : Int) (K_1 : (List (Int × Int)) → Int → Prop) (b_2 : Bool) : Prop :=
  (b_2 = true → ((0 : Int) ≤ i_1 ∧ i_1 < (l.length : Int)) ∧ (((out_1.length + ([(gi l i_1)] : List (Int × Int)).length) * 16 ≤ 140737488355328) ∧ ((I64 (i_1 + 1)) ∧ (K_1 (out_1 ++ ([(gi l i_1)] : List (Int × Int))) (i_1 + 1))))) ∧ (b_2 = false → Q out_1)
def law44_own_l1 (l : List (Int × Int)) (Q : (List (Int × Int)) → Prop) (K_1 : (List (Int × Int)) → Int → Prop) (out_1 : List (Int × Int)) (i_1 : Int) : Prop :=
  (i_1 < (l.length : Int) → law44_own_j1 l Q out_1 i_1 K_1 (decide (i_1 < 8))) ∧ (¬ (i_1 < (l.length : Int)) → law44_own_j1 l Q out_1 i_1 K_1 false)
def law44_own_W (l : List (Int × Int)) (Q : (List (Int × Int)) → Prop) : Prop :=
  loopW (fun (K_1 : ((List (Int × Int)) × Int) → Prop) (s : (List (Int × Int)) × Int) => law44_own_l1 l Q (fun out_1 i_1 => K_1 (out_1, i_1)) s.1 s.2) ([], 0)
set_option maxHeartbeats 40000000 in
set_option maxRecDepth 100000 in
theorem law44_own_walk {F : Fz} {fr : List Ow} {h0 : Heap} (l : List (Int × Int)) (vl : Value) (hS : St F (fr) h0) (hL_l : SliceF F h0 2 e_api_Spot vl l) {Q : (List (Int × Int)) → Prop} (hM : law44_own_W l Q) :
    HC Try.prog 76 #[vl] h0 fun u h' => ∃ (F' : Fz) (r_1 : List (Int × Int)) (vr_1 : Value), u = vr_1 ∧ Kp F h0 F' h' ∧ St F' (Ow.own 100 2 e_api_Spot vr_1 r_1 :: fr) h' ∧ (SliceF F' h' 2 e_api_Spot vl l) ∧ Q r_1 := by
  unfold law44_own_W at hM
  have hK := Kp.refl F h0
  refine HC.of_HW (n := 24) Try.func76 rfl rfl (Nat.le_of_ble_eq_true rfl) ?_
  refine HW.seq ?_
  refine HW.region ?_
  refine HO.val (v := .slice none 0 0) (want_none) rfl (q_assign rfl) ?_
  refine HO.nil (thenQ_normal (?_))
  refine HW.seq ?_
  refine HW.region ?_
  refine HO.eff (want_none) rfl (st_litEmpty (α := Int × Int) e_api_Spot hS tl_98) ?_
  rintro _ h_1 ⟨b_1, rfl, hS, hk⟩
  replace hK := hK.trans hk
  replace hL_l := hL_l.kp hk
  refine HO.val (v := .slice (some ⟨b_1, 0, none⟩) 0 0) (want_none) rfl (q_assign rfl) ?_
  refine HO.nil (thenQ_normal (?_))
  refine HW.seq ?_
  refine HW.seq ?_
  refine HW.region ?_
  refine HO.val (v := .int .i64 0) (want_none) rfl (q_assign rfl) ?_
  refine HO.nil (thenQ_normal (?_))
  refine HW.block ?_
  obtain ⟨I_1, m_1, hI_1, hR_1⟩ := hM
  refine HW.loop (S := (List (Int × Int)) × Int) (fun s f h => match s with | (out_1, i_1) => ∃ (F' : Fz) (vout_1 : Value), f 0 = vl ∧ f 2 = .slice none 0 0 ∧ f 3 = vout_1 ∧ f 4 = .int .i64 i_1 ∧ Kp F h0 F' h ∧ St F' (Ow.own 100 2 e_api_Spot vout_1 out_1 :: fr) h ∧ (SliceF F' h 2 e_api_Spot vl l) ∧ I_1 (out_1, i_1)) m_1 ([], 0) ⟨F, .slice (some ⟨b_1, 0, none⟩) 0 0, rfl, rfl, rfl, rfl, hK, hS, hL_l, hI_1⟩ ?_
  rintro ⟨out_1, i_1⟩ f_1 h_2 ⟨F_1, vout_1, e0, e2, e3, e4, hK, hS, hL_l, hI0⟩
  obtain ⟨K_1, hKe_1⟩ : ∃ K : (List (Int × Int)) → Int → Prop, K = fun out_1' i_1' => I_1 (out_1', i_1') ∧ m_1 (out_1', i_1') < m_1 (out_1, i_1) := ⟨_, rfl⟩
  have hM : law44_own_l1 l Q K_1 out_1 i_1 := by rw [hKe_1]; exact hR_1 (out_1, i_1) hI0
  unfold law44_own_l1 at hM
  refine HW.fr [(0, vl), (2, .slice none 0 0), (3, vout_1), (4, .int .i64 i_1)] ⟨e0, e2, e3, e4, trivial⟩ ?_
  refine HW.seq ?_
  refine HW.seq_mid (fun f h => ∃ (F' : Fz) (b_2 : Bool), f 0 = vl ∧ f 2 = .slice none 0 0 ∧ f 3 = vout_1 ∧ f 4 = .int .i64 i_1 ∧ f 13 = .bool b_2 ∧ Kp F h0 F' h ∧ St F' (Ow.own 100 2 e_api_Spot vout_1 out_1 :: fr) h ∧ (SliceF F' h 2 e_api_Spot vl l) ∧ law44_own_j1 l Q out_1 i_1 K_1 b_2) ?_ ?_
  · refine HW.region ?_
    refine HO.val (v := .int .i64 i_1) (want_none) rfl (q_move rfl) ?_
    refine HO.val (v := vl) (want_none) rfl (q_move rfl) ?_
    refine HO.val (v := .int .i64 (l.length : Int)) (want_none) rfl (q_len ts_98 (shp hL_l.is) rfl rfl) ?_
    refine HO.val (v := .bool (decide (i_1 < (l.length : Int)))) (want_none) rfl (q_lss rfl rfl) ?_
    refine HO.val (v := .bool (decide (i_1 < (l.length : Int)))) (want_none) rfl (q_move rfl) ?_
    rcases Bool.eq_false_or_eq_true (decide (i_1 < (l.length : Int))) with c_1 | c_1
    · replace hM := hM.1 (of_decide_eq_true c_1)
      refine HO.val (v := .int .i64 i_1) (want_by rfl rfl c_1) rfl (q_move rfl) ?_
      refine HO.val (v := .bool (decide (i_1 < 8))) (want_by rfl rfl c_1) rfl (q_lss rfl rfl) ?_
      refine HO.val (v := .bool (decide (i_1 < 8))) (want_none) rfl (q_pickK true rfl c_1 rfl) ?_
      refine HO.nil (thenQ_normal (?_))
      exact ⟨F_1, decide (i_1 < 8), rfl, rfl, rfl, rfl, rfl, hK, hS, hL_l, hM⟩
    · replace hM := hM.2 (of_decide_eq_false c_1)
      refine HO.past (past_by rfl rfl c_1) rfl ?_
      refine HO.past (past_by rfl rfl c_1) rfl ?_
      refine HO.val (v := .bool false) (want_none) rfl (q_pickK false rfl c_1 rfl) ?_
      refine HO.nil (thenQ_normal (?_))
      exact ⟨F_1, false, rfl, rfl, rfl, rfl, rfl, hK, hS, hL_l, hM⟩
  · rintro f_2 h_3 ⟨F_2, b_2, e0, e2, e3, e4, e13, hK, hS, hL_l, hM⟩
    unfold law44_own_j1 at hM
    refine HW.fr [(0, vl), (2, .slice none 0 0), (3, vout_1), (4, .int .i64 i_1), (13, .bool b_2)] ⟨e0, e2, e3, e4, e13, trivial⟩ ?_
    refine HW.cond b_2 rfl (fun c_2 => ?_) (fun c_2 => ?_)
    · replace hM := hM.1 c_2
      refine HW.skip (thenQ_normal (?_))
      refine HW.seq ?_
      refine HW.block ?_
      refine HW.region ?_
      refine HO.val (v := vout_1) (want_none) rfl (q_move rfl) ?_
      refine HO.val (v := vl) (want_none) rfl (q_move rfl) ?_
      refine HO.val (v := .int .i64 i_1) (want_none) rfl (q_move rfl) ?_
      obtain ⟨ho_1, hM⟩ := hM
      refine HO.val (v := elemPtr 2 vl (i_1).toNat) (want_none) rfl (q_idx ts_98 hL_l.is rfl rfl ho_1) ?_
      refine HO.val (v := .agg #[.int .i64 ((gi l i_1).1), .int .i64 ((gi l i_1).2)]) (want_none) rfl (q_ldElemAgg (cs := [.int .i64 ((gi l i_1).1), .int .i64 ((gi l i_1).2)]) ta_100 hL_l.is rfl ho_1 rfl) ?_
      refine HO.eff (want_none) rfl (st_lit (enc := e_api_Spot) (cells := #[.int .i64 ((gi l i_1).1), .int .i64 ((gi l i_1).2)]) #[.int .i64 0, .int .i64 0] ([(gi l i_1)] : List (Int × Int)) hS tl_98 (by decide) (by decide) (by kernel_rfl) (by kernel_rfl) rfl (by intro x hx; rfl) rfl) ?_
      rintro _ h_4 ⟨b_3, rfl, hS, hk⟩
      replace hK := hK.trans hk
      replace hL_l := hL_l.kp hk
      obtain ⟨ho_2, hM⟩ := hM
      refine HO.eff (want_none) rfl (st_append te_98 hS (i := 1) rfl (hS.own 0 rfl).slice rfl rfl rfl (by intro a _ u hu; simp [e_api_Spot, encI, encN, encB, encT] at hu; rcases hu with rfl | rfl <;> rfl) ho_2 (by omega)) ?_
      rintro v_1 h_5 ⟨hS, hk⟩
      replace hS : St F_2 (Ow.own 100 2 e_api_Spot (.slice (some ⟨b_3, 0, none⟩) 1 1) ([(gi l i_1)] : List (Int × Int)) :: Ow.own 100 2 e_api_Spot v_1 (out_1 ++ ([(gi l i_1)] : List (Int × Int))) :: fr) h_5 := hS
      replace hK := hK.trans hk
      replace hL_l := hL_l.kp hk
      refine HO.val (v := v_1) (want_none) rfl (q_assign rfl) ?_
      refine HO.nil (blockQ_normal (thenQ_normal (?_)))
      refine HW.region ?_
      refine HO.val (v := .int .i64 i_1) (want_none) rfl (q_move rfl) ?_
      obtain ⟨ho_3, hM⟩ := hM
      refine HO.val (v := .int .i64 (i_1 + 1)) (want_none) rfl (q_addN _ rfl rfl rfl ho_3.1 ho_3.2) ?_
      refine HO.val (v := .int .i64 (i_1 + 1)) (want_none) rfl (q_assign rfl) ?_
      refine HO.nil (thenQ_normal (?_))
      replace hS : St F_2 (Ow.own 100 2 e_api_Spot v_1 (out_1 ++ ([(gi l i_1)] : List (Int × Int))) :: fr) h_5 := St.perm (front := [Ow.own 100 2 e_api_Spot (.slice (some ⟨b_3, 0, none⟩) 1 1) ([(gi l i_1)] : List (Int × Int)), Ow.own 100 2 e_api_Spot v_1 (out_1 ++ ([(gi l i_1)] : List (Int × Int)))]) (fr := fr) hS [1] 2 rfl (by decide) [Ow.own 100 2 e_api_Spot v_1 (out_1 ++ ([(gi l i_1)] : List (Int × Int)))] rfl
      rw [hKe_1] at hM
      exact ⟨(out_1 ++ ([(gi l i_1)] : List (Int × Int)), i_1 + 1), ⟨F_2, v_1, rfl, rfl, rfl, rfl, hK, hS, hL_l, hM.1⟩, hM.2⟩
    · replace hM := hM.2 c_2
      refine HW.exit (thenQ_exit (thenQ_exit (blockQ_exit (thenQ_normal (?_)))))
      refine HW.seq ?_
      refine HW.region ?_
      refine HO.val (v := vout_1) (want_none) rfl (q_move rfl) ?_
      refine HO.val (v := vout_1) (want_none) rfl (q_assign rfl) ?_
      refine HO.nil (thenQ_normal (?_))
      refine HW.ret (?_)
      refine ⟨.inr rfl, vout_1, res1 rfl (rt rfl), ?_⟩
      exact ⟨F_2, out_1, vout_1, rfl, hK, hS, hL_l, hM⟩

def slices_Index_s_api_Spot_api_Spot_l1 (s1 : List (Int × Int)) (v : Int × Int) (Q : Int → Prop) (K_1 : Int → Prop) (n_1 : Int) : Prop :=
  (n_1 < (s1.length : Int) → ((0 : Int) ≤ n_1 ∧ n_1 < (s1.length : Int)) ∧ (((v : Int × Int) = (gi s1 n_1) → Q n_1) ∧ (¬ ((v : Int × Int) = (gi s1 n_1)) → (I64 (n_1 + 1)) ∧ (K_1 (n_1 + 1))))) ∧ (¬ (n_1 < (s1.length : Int)) → Q (-1))
def slices_Index_s_api_Spot_api_Spot_W (s1 : List (Int × Int)) (v : Int × Int) (Q : Int → Prop) : Prop :=
  loopW (fun (K_1 : Int → Prop) (s : Int) => slices_Index_s_api_Spot_api_Spot_l1 s1 v Q K_1 s) 0
set_option maxHeartbeats 40000000 in
set_option maxRecDepth 100000 in
theorem slices_Index_s_api_Spot_api_Spot_walk {F : Fz} {fr : List Ow} {h0 : Heap} (s1 : List (Int × Int)) (v : Int × Int) (vs : Value) (hS : St F (fr) h0) (hL_s1 : SliceF F h0 2 e_api_Spot vs s1) {Q : Int → Prop} (hM : slices_Index_s_api_Spot_api_Spot_W s1 v Q) :
    HC Try.prog 131 #[vs, .agg #[.int .i64 v.1, .int .i64 v.2]] h0 fun u h' => ∃ (F' : Fz) (r_1 : Int), u = .int .i64 r_1 ∧ Kp F h0 F' h' ∧ St F' (fr) h' ∧ (SliceF F' h' 2 e_api_Spot vs s1) ∧ Q r_1 := by
  unfold slices_Index_s_api_Spot_api_Spot_W at hM
  have hK := Kp.refl F h0
  refine HC.of_HW (n := 19) Try.func131 rfl rfl (Nat.le_of_ble_eq_true rfl) ?_
  refine HW.seq ?_
  refine HW.region ?_
  refine HO.eff (want_none) rfl (st_box (c := #[.int .i64 v.1, .int .i64 v.2]) (k' := 2) hS rfl rfl) ?_
  rintro _ h_1 ⟨b_1, rfl, hS, hk⟩
  replace hK := hK.trans hk
  replace hL_s1 := hL_s1.kp hk
  refine HO.val (v := .int .i64 0) (want_none) rfl (q_assign rfl) ?_
  refine HO.nil (thenQ_normal (?_))
  refine HW.seq ?_
  refine HW.seq ?_
  refine HW.region ?_
  refine HO.val (v := vs) (want_none) rfl (q_move rfl) ?_
  refine HO.val (v := .int .i64 (s1.length : Int)) (want_none) rfl (q_len ts_98 (shp hL_s1.is) rfl rfl) ?_
  refine HO.val (v := .int .i64 0) (want_none) rfl (q_move rfl) ?_
  refine HO.nil (thenQ_normal (?_))
  refine HW.block ?_
  obtain ⟨I_1, m_1, hI_1, hR_1⟩ := hM
  refine HW.loop (S := Int) (fun n_1 f h => ∃ (F' : Fz), f 0 = vs ∧ f 3 = .pointer (some ⟨b_1, 0, none⟩) ∧ f 4 = .int .i64 0 ∧ f 7 = .int .i64 (s1.length : Int) ∧ f 8 = .int .i64 n_1 ∧ Kp F h0 F' h ∧ St F' (Ow.box b_1 100 #[.int .i64 v.1, .int .i64 v.2] :: fr) h ∧ (SliceF F' h 2 e_api_Spot vs s1) ∧ I_1 n_1) m_1 0 ⟨F, rfl, rfl, rfl, rfl, rfl, hK, hS, hL_s1, hI_1⟩ ?_
  rintro n_1 f_1 h_2 ⟨F_1, e0, e3, e4, e7, e8, hK, hS, hL_s1, hI0⟩
  obtain ⟨K_1, hKe_1⟩ : ∃ K : Int → Prop, K = fun n_1' => I_1 n_1' ∧ m_1 n_1' < m_1 n_1 := ⟨_, rfl⟩
  have hM : slices_Index_s_api_Spot_api_Spot_l1 s1 v Q K_1 n_1 := by rw [hKe_1]; exact hR_1 n_1 hI0
  unfold slices_Index_s_api_Spot_api_Spot_l1 at hM
  refine HW.fr [(0, vs), (3, .pointer (some ⟨b_1, 0, none⟩)), (4, .int .i64 0), (7, .int .i64 (s1.length : Int)), (8, .int .i64 n_1)] ⟨e0, e3, e4, e7, e8, trivial⟩ ?_
  refine HW.seq ?_
  refine HW.region ?_
  refine HO.val (v := .bool (decide (n_1 < (s1.length : Int)))) (want_none) rfl (q_lss rfl rfl) ?_
  refine HO.nil (thenQ_normal (?_))
  refine HW.seq ?_
  refine HW.cond (decide (n_1 < (s1.length : Int))) rfl (fun c_1 => ?_) (fun c_1 => ?_)
  · replace hM := hM.1 (of_decide_eq_true c_1)
    refine HW.skip (thenQ_normal (?_))
    refine HW.seq ?_
    refine HW.block ?_
    refine HW.seq ?_
    refine HW.region ?_
    refine HO.val (v := .int .i64 n_1) (want_none) rfl (q_move rfl) ?_
    refine HO.val (v := .int .i64 n_1) (want_none) rfl (q_assign rfl) ?_
    refine HO.nil (thenQ_normal (?_))
    refine HW.seq ?_
    refine HW.regionA 6 mixed (fun h => (SliceIs h 2 e_api_Spot vs s1) ∧ (Blk h b_1 (.cells #[.int .i64 v.1, .int .i64 v.2] 100 (0, 0)))) [] (by kernel_rfl) ?_
    refine HA.val (k := 0) (v := .agg #[.int .i64 v.1, .int .i64 v.2]) rfl rfl (by kernel_rfl) (by kernel_rfl) (want_none) rfl (fun _ ⟨hL_s1, c302⟩ => q_loadAgg (cs := [.int .i64 v.1, .int .i64 v.2]) ta_100 rfl rfl (Blk.cells (k := 2) c302 rfl)) ?_
    refine HA.val (k := 1) (v := vs) rfl rfl (by kernel_rfl) (by kernel_rfl) (want_none) rfl (fun _ ⟨hL_s1, c302⟩ => q_move rfl) ?_
    refine HA.val (k := 2) (v := .int .i64 n_1) rfl rfl (by kernel_rfl) (by kernel_rfl) (want_none) rfl (fun _ ⟨hL_s1, c302⟩ => q_move rfl) ?_
    obtain ⟨ho_1, hM⟩ := hM
    refine HA.val (k := 3) (v := elemPtr 2 vs (n_1).toNat) rfl rfl (by kernel_rfl) (by kernel_rfl) (want_none) rfl (fun _ ⟨hL_s1, c302⟩ => q_idx ts_98 hL_s1 rfl rfl ho_1) ?_
    refine HA.val (k := 4) (v := .agg #[.int .i64 ((gi s1 n_1).1), .int .i64 ((gi s1 n_1).2)]) rfl rfl (by kernel_rfl) (by kernel_rfl) (want_none) rfl (fun _ ⟨hL_s1, c302⟩ => q_ldElemAgg (cs := [.int .i64 ((gi s1 n_1).1), .int .i64 ((gi s1 n_1).2)]) ta_100 hL_s1 rfl ho_1 rfl) ?_
    refine HA.val (k := 5) (v := .bool (decide ((v : Int × Int) = (gi s1 n_1)))) rfl rfl (by kernel_rfl) (by kernel_rfl) (want_none) rfl (fun _ ⟨hL_s1, c302⟩ => q_eqlAgg (a := v) (b := (gi s1 n_1)) (fun a b w => teq_100 9998 a b w) (by kernel_rfl) rfl rfl rfl rfl) ?_
    refine HA.nil ⟨⟨hL_s1.is, (hS.box 0 rfl)⟩, (Go.Wk.at_nil _ _)⟩ (by kernel_rfl) (thenQ_normal (?_))
    refine HW.cond (decide ((v : Int × Int) = (gi s1 n_1))) rfl (fun c_2 => ?_) (fun c_2 => ?_)
    · replace hM := hM.1 (of_decide_eq_true c_2)
      refine HW.seq ?_
      refine HW.region ?_
      refine HO.val (v := .int .i64 n_1) (want_none) rfl (q_move rfl) ?_
      refine HO.val (v := .int .i64 n_1) (want_none) rfl (q_assign rfl) ?_
      refine HO.nil (thenQ_normal (?_))
      refine HW.ret (blockQ_ret (thenQ_ret (thenQ_ret (blockQ_ret (thenQ_ret (?_))))))
      refine ⟨.inr rfl, .int .i64 n_1, res1 rfl (rt rfl), ?_⟩
      replace hS : St F_1 (fr) h_2 := St.perm (front := [Ow.box b_1 100 #[.int .i64 v.1, .int .i64 v.2]]) (fr := fr) hS [] 1 rfl (by decide) [] rfl
      exact ⟨F_1, n_1, rfl, hK, hS, hL_s1, hM⟩
    · replace hM := hM.2 (of_decide_eq_false c_2)
      refine HW.skip (blockQ_normal (thenQ_normal (?_)))
      refine HW.region ?_
      obtain ⟨ho_2, hM⟩ := hM
      refine HO.val (v := .int .i64 (n_1 + 1)) (want_none) rfl (q_addN _ rfl rfl rfl ho_2.1 ho_2.2) ?_
      refine HO.val (v := .int .i64 (n_1 + 1)) (want_none) rfl (q_move rfl) ?_
      refine HO.nil (thenQ_normal (?_))
      rw [hKe_1] at hM
      exact ⟨n_1 + 1, ⟨F_1, rfl, rfl, rfl, rfl, rfl, hK, hS, hL_s1, hM.1⟩, hM.2⟩
  · replace hM := hM.2 (of_decide_eq_false c_1)
    refine HW.exit (thenQ_exit (thenQ_exit (blockQ_exit (thenQ_normal (?_)))))
    refine HW.seq ?_
    refine HW.region ?_
    refine HO.val (v := .int .i64 (-1)) (want_none) rfl (q_assign rfl) ?_
    refine HO.nil (thenQ_normal (?_))
    refine HW.ret (?_)
    refine ⟨.inr rfl, .int .i64 (-1), res1 rfl (rt rfl), ?_⟩
    replace hS : St F_1 (fr) h_2 := St.perm (front := [Ow.box b_1 100 #[.int .i64 v.1, .int .i64 v.2]]) (fr := fr) hS [] 1 rfl (by decide) [] rfl
    exact ⟨F_1, (-1), rfl, hK, hS, hL_s1, hM⟩

def slices_Contains_s_api_Spot_api_Spot_W (s1 : List (Int × Int)) (v : Int × Int) (Q : Bool → Prop) : Prop :=
  slices_Index_s_api_Spot_api_Spot_W s1 v (fun r_2 => Q (decide (0 ≤ r_2)))
set_option maxHeartbeats 40000000 in
set_option maxRecDepth 100000 in
theorem slices_Contains_s_api_Spot_api_Spot_walk {F : Fz} {fr : List Ow} {h0 : Heap} (s1 : List (Int × Int)) (v : Int × Int) (vs : Value) (hS : St F (fr) h0) (hL_s1 : SliceF F h0 2 e_api_Spot vs s1) {Q : Bool → Prop} (hM : slices_Contains_s_api_Spot_api_Spot_W s1 v Q) :
    HC Try.prog 113 #[vs, .agg #[.int .i64 v.1, .int .i64 v.2]] h0 fun u h' => ∃ (F' : Fz) (r_1 : Bool), u = .bool r_1 ∧ Kp F h0 F' h' ∧ St F' (fr) h' ∧ (SliceF F' h' 2 e_api_Spot vs s1) ∧ Q r_1 := by
  unfold slices_Contains_s_api_Spot_api_Spot_W at hM
  have hK := Kp.refl F h0
  refine HC.of_HW (n := 9) Try.func113 rfl rfl (Nat.le_of_ble_eq_true rfl) ?_
  refine HW.seq ?_
  refine HW.region ?_
  refine HO.eff (want_none) rfl (st_box (c := #[.int .i64 v.1, .int .i64 v.2]) (k' := 2) hS rfl rfl) ?_
  rintro _ h_1 ⟨b_1, rfl, hS, hk⟩
  replace hK := hK.trans hk
  replace hL_s1 := hL_s1.kp hk
  refine HO.val (v := .bool false) (want_none) rfl (q_assign rfl) ?_
  refine HO.nil (thenQ_normal (?_))
  refine HW.seq ?_
  refine HW.region ?_
  refine HO.val (v := vs) (want_none) rfl (q_move rfl) ?_
  refine HO.val (v := .agg #[.int .i64 v.1, .int .i64 v.2]) (want_none) rfl (q_loadAgg (cs := [.int .i64 v.1, .int .i64 v.2]) ta_100 rfl rfl (Blk.cells (k := 2) (hS.box 0 rfl) rfl)) ?_
  refine HO.call (want_none) rfl (ec en_131 rfl rfl) (slices_Index_s_api_Spot_api_Spot_walk (fr := (Ow.box b_1 100 #[.int .i64 v.1, .int .i64 v.2] :: fr)) s1 v vs hS hL_s1 hM) ?_
  rintro _ h_2 ⟨F_1, r_2, rfl, hk, hS, _, hM⟩
  replace hK := hK.trans hk
  replace hL_s1 := hL_s1.kp hk
  refine HO.val (v := .bool (decide (0 ≤ r_2))) (want_none) rfl (q_geq rfl rfl) ?_
  refine HO.val (v := .bool (decide (0 ≤ r_2))) (want_none) rfl (q_assign rfl) ?_
  refine HO.nil (thenQ_normal (?_))
  refine HW.ret (?_)
  refine ⟨.inr rfl, .bool (decide (0 ≤ r_2)), res1 rfl (rt rfl), ?_⟩
  replace hS : St F_1 (fr) h_2 := St.perm (front := [Ow.box b_1 100 #[.int .i64 v.1, .int .i64 v.2]]) (fr := fr) hS [] 1 rfl (by decide) [] rfl
  exact ⟨F_1, decide (0 ≤ r_2), rfl, hK, hS, hL_s1, hM⟩

def cmp_isNaN_int_W (x : Int) (Q : Bool → Prop) : Prop :=
  Q (!decide (x = x))
set_option maxHeartbeats 40000000 in
set_option maxRecDepth 100000 in
theorem cmp_isNaN_int_walk {F : Fz} {fr : List Ow} {h0 : Heap} (x : Int) (hS : St F (fr) h0)  {Q : Bool → Prop} (hM : cmp_isNaN_int_W x Q) :
    HC Try.prog 141 #[.int .i64 x] h0 fun u h' => ∃ (F' : Fz) (r_1 : Bool), u = .bool r_1 ∧ Kp F h0 F' h' ∧ St F' (fr) h' ∧ Q r_1 := by
  unfold cmp_isNaN_int_W at hM
  have hK := Kp.refl F h0
  refine HC.of_HW (n := 6) Try.func141 rfl rfl (Nat.le_of_ble_eq_true rfl) ?_
  refine HW.seq ?_
  refine HW.region ?_
  refine HO.val (v := .bool false) (want_none) rfl (q_assign rfl) ?_
  refine HO.nil (thenQ_normal (?_))
  refine HW.seq ?_
  refine HW.region ?_
  refine HO.val (v := .int .i64 x) (want_none) rfl (q_move rfl) ?_
  refine HO.val (v := .int .i64 x) (want_none) rfl (q_move rfl) ?_
  refine HO.val (v := .bool (!decide (x = x))) (want_none) rfl (q_neq rfl rfl) ?_
  refine HO.val (v := .bool (!decide (x = x))) (want_none) rfl (q_assign rfl) ?_
  refine HO.nil (thenQ_normal (?_))
  refine HW.ret (?_)
  refine ⟨.inr rfl, .bool (!decide (x = x)), res1 rfl (rt rfl), ?_⟩
  exact ⟨F, !decide (x = x), rfl, hK, hS, hM⟩

def cmp_Compare_int_W (x : Int) (y : Int) (Q : Int → Prop) : Prop :=
  cmp_isNaN_int_W x (fun r_2 => cmp_isNaN_int_W y (fun r_3 => (r_2 = true → (r_3 = true → Q 0) ∧ (r_3 = false → Q (-1))) ∧ (r_2 = false → (r_3 = true → Q 1) ∧ (r_3 = false → (x < y → Q (-1)) ∧ (¬ (x < y) → (y < x → Q 1) ∧ (¬ (y < x) → Q 0))))))
set_option maxHeartbeats 40000000 in
set_option maxRecDepth 100000 in
theorem cmp_Compare_int_walk {F : Fz} {fr : List Ow} {h0 : Heap} (x : Int) (y : Int) (hS : St F (fr) h0)  {Q : Int → Prop} (hM : cmp_Compare_int_W x y Q) :
    HC Try.prog 125 #[.int .i64 x, .int .i64 y] h0 fun u h' => ∃ (F' : Fz) (r_1 : Int), u = .int .i64 r_1 ∧ Kp F h0 F' h' ∧ St F' (fr) h' ∧ Q r_1 := by
  unfold cmp_Compare_int_W at hM
  have hK := Kp.refl F h0
  refine HC.of_HW (n := 20) Try.func125 rfl rfl (Nat.le_of_ble_eq_true rfl) ?_
  refine HW.seq ?_
  refine HW.region ?_
  refine HO.val (v := .int .i64 0) (want_none) rfl (q_assign rfl) ?_
  refine HO.nil (thenQ_normal (?_))
  refine HW.seq ?_
  refine HW.region ?_
  refine HO.val (v := .int .i64 x) (want_none) rfl (q_move rfl) ?_
  refine HO.call (want_none) rfl (ec en_141 rfl rfl) (cmp_isNaN_int_walk (fr := (fr)) x hS hM) ?_
  rintro _ h_1 ⟨F_1, r_2, rfl, hk, hS, hM⟩
  replace hK := hK.trans hk
  refine HO.val (v := .bool r_2) (want_none) rfl (q_assign rfl) ?_
  refine HO.nil (thenQ_normal (?_))
  refine HW.seq ?_
  refine HW.region ?_
  refine HO.val (v := .int .i64 y) (want_none) rfl (q_move rfl) ?_
  refine HO.call (want_none) rfl (ec en_141 rfl rfl) (cmp_isNaN_int_walk (fr := (fr)) y hS hM) ?_
  rintro _ h_2 ⟨F_2, r_3, rfl, hk, hS, hM⟩
  replace hK := hK.trans hk
  refine HO.val (v := .bool r_3) (want_none) rfl (q_assign rfl) ?_
  refine HO.nil (thenQ_normal (?_))
  refine HW.seq ?_
  refine HW.seq ?_
  refine HW.region ?_
  refine HO.val (v := .bool r_2) (want_none) rfl (q_move rfl) ?_
  refine HO.nil (thenQ_normal (?_))
  refine HW.cond r_2 rfl (fun c_1 => ?_) (fun c_1 => ?_)
  · replace hM := hM.1 c_1
    refine HW.seq ?_
    refine HW.seq ?_
    refine HW.region ?_
    refine HO.val (v := .bool r_3) (want_none) rfl (q_move rfl) ?_
    refine HO.nil (thenQ_normal (?_))
    refine HW.cond r_3 rfl (fun c_2 => ?_) (fun c_2 => ?_)
    · replace hM := hM.1 c_2
      refine HW.seq ?_
      refine HW.region ?_
      refine HO.val (v := .int .i64 0) (want_none) rfl (q_assign rfl) ?_
      refine HO.nil (thenQ_normal (?_))
      refine HW.ret (thenQ_ret (thenQ_ret (?_)))
      refine ⟨.inr rfl, .int .i64 0, res1 rfl (rt rfl), ?_⟩
      exact ⟨F_2, 0, rfl, hK, hS, hM⟩
    · replace hM := hM.2 c_2
      refine HW.skip (thenQ_normal (?_))
      refine HW.seq ?_
      refine HW.region ?_
      refine HO.val (v := .int .i64 (-1)) (want_none) rfl (q_assign rfl) ?_
      refine HO.nil (thenQ_normal (?_))
      refine HW.ret (thenQ_ret (?_))
      refine ⟨.inr rfl, .int .i64 (-1), res1 rfl (rt rfl), ?_⟩
      exact ⟨F_2, (-1), rfl, hK, hS, hM⟩
  · replace hM := hM.2 c_1
    refine HW.skip (thenQ_normal (?_))
    refine HW.seq ?_
    refine HW.seq ?_
    refine HW.region ?_
    refine HO.val (v := .bool r_3) (want_none) rfl (q_move rfl) ?_
    refine HO.nil (thenQ_normal (?_))
    refine HW.cond r_3 rfl (fun c_3 => ?_) (fun c_3 => ?_)
    · replace hM := hM.1 c_3
      refine HW.seq ?_
      refine HW.region ?_
      refine HO.val (v := .int .i64 1) (want_none) rfl (q_assign rfl) ?_
      refine HO.nil (thenQ_normal (?_))
      refine HW.ret (thenQ_ret (?_))
      refine ⟨.inr rfl, .int .i64 1, res1 rfl (rt rfl), ?_⟩
      exact ⟨F_2, 1, rfl, hK, hS, hM⟩
    · replace hM := hM.2 c_3
      refine HW.skip (thenQ_normal (?_))
      refine HW.seq ?_
      refine HW.seq ?_
      refine HW.region ?_
      refine HO.val (v := .int .i64 x) (want_none) rfl (q_move rfl) ?_
      refine HO.val (v := .int .i64 y) (want_none) rfl (q_move rfl) ?_
      refine HO.val (v := .bool (decide (x < y))) (want_none) rfl (q_lss rfl rfl) ?_
      refine HO.nil (thenQ_normal (?_))
      refine HW.cond (decide (x < y)) rfl (fun c_4 => ?_) (fun c_4 => ?_)
      · replace hM := hM.1 (of_decide_eq_true c_4)
        refine HW.seq ?_
        refine HW.region ?_
        refine HO.val (v := .int .i64 (-1)) (want_none) rfl (q_assign rfl) ?_
        refine HO.nil (thenQ_normal (?_))
        refine HW.ret (thenQ_ret (?_))
        refine ⟨.inr rfl, .int .i64 (-1), res1 rfl (rt rfl), ?_⟩
        exact ⟨F_2, (-1), rfl, hK, hS, hM⟩
      · replace hM := hM.2 (of_decide_eq_false c_4)
        refine HW.skip (thenQ_normal (?_))
        refine HW.seq ?_
        refine HW.seq ?_
        refine HW.region ?_
        refine HO.val (v := .int .i64 x) (want_none) rfl (q_move rfl) ?_
        refine HO.val (v := .int .i64 y) (want_none) rfl (q_move rfl) ?_
        refine HO.val (v := .bool (decide (y < x))) (want_none) rfl (q_gtr rfl rfl) ?_
        refine HO.nil (thenQ_normal (?_))
        refine HW.cond (decide (y < x)) rfl (fun c_5 => ?_) (fun c_5 => ?_)
        · replace hM := hM.1 (of_decide_eq_true c_5)
          refine HW.seq ?_
          refine HW.region ?_
          refine HO.val (v := .int .i64 1) (want_none) rfl (q_assign rfl) ?_
          refine HO.nil (thenQ_normal (?_))
          refine HW.ret (thenQ_ret (?_))
          refine ⟨.inr rfl, .int .i64 1, res1 rfl (rt rfl), ?_⟩
          exact ⟨F_2, 1, rfl, hK, hS, hM⟩
        · replace hM := hM.2 (of_decide_eq_false c_5)
          refine HW.skip (thenQ_normal (?_))
          refine HW.seq ?_
          refine HW.region ?_
          refine HO.val (v := .int .i64 0) (want_none) rfl (q_assign rfl) ?_
          refine HO.nil (thenQ_normal (?_))
          refine HW.ret (?_)
          refine ⟨.inr rfl, .int .i64 0, res1 rfl (rt rfl), ?_⟩
          exact ⟨F_2, 0, rfl, hK, hS, hM⟩

def cmp_Or_int_l1 (vals : List Int) (Q : Int → Prop) (K_1 : Int → Prop) (n_1 : Int) : Prop :=
  (n_1 < (vals.length : Int) → ((0 : Int) ≤ n_1 ∧ n_1 < (vals.length : Int)) ∧ ((¬ ((gi vals n_1) = 0) → Q (gi vals n_1)) ∧ ((gi vals n_1) = 0 → (I64 (n_1 + 1)) ∧ (K_1 (n_1 + 1))))) ∧ (¬ (n_1 < (vals.length : Int)) → Q 0)
def cmp_Or_int_W (vals : List Int) (Q : Int → Prop) : Prop :=
  loopW (fun (K_1 : Int → Prop) (s : Int) => cmp_Or_int_l1 vals Q K_1 s) 0
set_option maxHeartbeats 40000000 in
set_option maxRecDepth 100000 in
theorem cmp_Or_int_walk {F : Fz} {fr : List Ow} {h0 : Heap} (vals : List Int) (vvals : Value) (hS : St F (fr) h0) (hL_vals : SliceF F h0 1 encI vvals vals) {Q : Int → Prop} (hM : cmp_Or_int_W vals Q) :
    HC Try.prog 124 #[vvals] h0 fun u h' => ∃ (F' : Fz) (r_1 : Int), u = .int .i64 r_1 ∧ Kp F h0 F' h' ∧ St F' (fr) h' ∧ (SliceF F' h' 1 encI vvals vals) ∧ Q r_1 := by
  unfold cmp_Or_int_W at hM
  have hK := Kp.refl F h0
  refine HC.of_HW (n := 18) Try.func124 rfl rfl (Nat.le_of_ble_eq_true rfl) ?_
  refine HW.seq ?_
  refine HW.region ?_
  refine HO.val (v := .int .i64 0) (want_none) rfl (q_assign rfl) ?_
  refine HO.nil (thenQ_normal (?_))
  refine HW.seq ?_
  refine HW.region ?_
  refine HO.val (v := .int .i64 0) (want_none) rfl (q_assign rfl) ?_
  refine HO.nil (thenQ_normal (?_))
  refine HW.seq ?_
  refine HW.seq ?_
  refine HW.region ?_
  refine HO.val (v := vvals) (want_none) rfl (q_move rfl) ?_
  refine HO.val (v := .int .i64 (vals.length : Int)) (want_none) rfl (q_len ts_22 (shp hL_vals.is) rfl rfl) ?_
  refine HO.val (v := .int .i64 0) (want_none) rfl (q_move rfl) ?_
  refine HO.nil (thenQ_normal (?_))
  refine HW.block ?_
  obtain ⟨I_1, m_1, hI_1, hR_1⟩ := hM
  refine HW.loop (S := Int) (fun n_1 f h => ∃ (F' : Fz), f 2 = .int .i64 0 ∧ f 3 = .int .i64 0 ∧ f 6 = vvals ∧ f 7 = .int .i64 (vals.length : Int) ∧ f 8 = .int .i64 n_1 ∧ Kp F h0 F' h ∧ St F' (fr) h ∧ (SliceF F' h 1 encI vvals vals) ∧ I_1 n_1) m_1 0 ⟨F, rfl, rfl, rfl, rfl, rfl, hK, hS, hL_vals, hI_1⟩ ?_
  rintro n_1 f_1 h_1 ⟨F_1, e2, e3, e6, e7, e8, hK, hS, hL_vals, hI0⟩
  obtain ⟨K_1, hKe_1⟩ : ∃ K : Int → Prop, K = fun n_1' => I_1 n_1' ∧ m_1 n_1' < m_1 n_1 := ⟨_, rfl⟩
  have hM : cmp_Or_int_l1 vals Q K_1 n_1 := by rw [hKe_1]; exact hR_1 n_1 hI0
  unfold cmp_Or_int_l1 at hM
  refine HW.fr [(2, .int .i64 0), (3, .int .i64 0), (6, vvals), (7, .int .i64 (vals.length : Int)), (8, .int .i64 n_1)] ⟨e2, e3, e6, e7, e8, trivial⟩ ?_
  refine HW.seq ?_
  refine HW.region ?_
  refine HO.val (v := .bool (decide (n_1 < (vals.length : Int)))) (want_none) rfl (q_lss rfl rfl) ?_
  refine HO.nil (thenQ_normal (?_))
  refine HW.seq ?_
  refine HW.cond (decide (n_1 < (vals.length : Int))) rfl (fun c_1 => ?_) (fun c_1 => ?_)
  · replace hM := hM.1 (of_decide_eq_true c_1)
    refine HW.skip (thenQ_normal (?_))
    refine HW.seq ?_
    refine HW.block ?_
    refine HW.seq ?_
    refine HW.region ?_
    obtain ⟨ho_1, hM⟩ := hM
    refine HO.val (v := elemPtr 1 vvals (n_1).toNat) (want_none) rfl (q_idx ts_22 hL_vals.is rfl rfl ho_1) ?_
    refine HO.val (v := .int .i64 (gi vals n_1)) (want_none) rfl (q_ldElem to_3 hL_vals.is rfl ho_1 rfl) ?_
    refine HO.val (v := .int .i64 (gi vals n_1)) (want_none) rfl (q_assign rfl) ?_
    refine HO.nil (thenQ_normal (?_))
    refine HW.seq ?_
    refine HW.region ?_
    refine HO.val (v := .int .i64 (gi vals n_1)) (want_none) rfl (q_move rfl) ?_
    refine HO.val (v := .int .i64 0) (want_none) rfl (q_move rfl) ?_
    refine HO.val (v := .bool (!decide ((gi vals n_1) = 0))) (want_none) rfl (q_neq rfl rfl) ?_
    refine HO.nil (thenQ_normal (?_))
    refine HW.cond (!decide ((gi vals n_1) = 0)) rfl (fun c_2 => ?_) (fun c_2 => ?_)
    · replace hM := hM.1 (nd_true c_2)
      refine HW.seq ?_
      refine HW.region ?_
      refine HO.val (v := .int .i64 (gi vals n_1)) (want_none) rfl (q_move rfl) ?_
      refine HO.val (v := .int .i64 (gi vals n_1)) (want_none) rfl (q_assign rfl) ?_
      refine HO.nil (thenQ_normal (?_))
      refine HW.ret (blockQ_ret (thenQ_ret (thenQ_ret (blockQ_ret (thenQ_ret (?_))))))
      refine ⟨.inr rfl, .int .i64 (gi vals n_1), res1 rfl (rt rfl), ?_⟩
      exact ⟨F_1, (gi vals n_1), rfl, hK, hS, hL_vals, hM⟩
    · replace hM := hM.2 (nd_false c_2)
      refine HW.skip (blockQ_normal (thenQ_normal (?_)))
      refine HW.region ?_
      obtain ⟨ho_2, hM⟩ := hM
      refine HO.val (v := .int .i64 (n_1 + 1)) (want_none) rfl (q_addN _ rfl rfl rfl ho_2.1 ho_2.2) ?_
      refine HO.val (v := .int .i64 (n_1 + 1)) (want_none) rfl (q_move rfl) ?_
      refine HO.nil (thenQ_normal (?_))
      rw [hKe_1] at hM
      exact ⟨n_1 + 1, ⟨F_1, rfl, rfl, rfl, rfl, rfl, hK, hS, hL_vals, hM.1⟩, hM.2⟩
  · replace hM := hM.2 (of_decide_eq_false c_1)
    refine HW.exit (thenQ_exit (thenQ_exit (blockQ_exit (thenQ_normal (?_)))))
    refine HW.seq ?_
    refine HW.region ?_
    refine HO.val (v := .int .i64 0) (want_none) rfl (q_move rfl) ?_
    refine HO.val (v := .int .i64 0) (want_none) rfl (q_assign rfl) ?_
    refine HO.nil (thenQ_normal (?_))
    refine HW.ret (?_)
    refine ⟨.inr rfl, .int .i64 0, res1 rfl (rt rfl), ?_⟩
    exact ⟨F_1, 0, rfl, hK, hS, hL_vals, hM⟩

def audit_order_W (a : Int × Int) (b : Int × Int) (Q : Int → Prop) : Prop :=
  cmp_Compare_int_W a.1 b.1 (fun r_2 => cmp_Compare_int_W a.2 b.2 (fun r_3 => cmp_Or_int_W ([r_2, r_3] : List Int) (fun r_4 => Q r_4)))
set_option maxHeartbeats 40000000 in
set_option maxRecDepth 100000 in
theorem audit_order_walk {F : Fz} {fr : List Ow} {h0 : Heap} (a : Int × Int) (b : Int × Int) (hS : St F (fr) h0)  {Q : Int → Prop} (hM : audit_order_W a b Q) :
    HC Try.prog 133 #[.agg #[.int .i64 a.1, .int .i64 a.2], .agg #[.int .i64 b.1, .int .i64 b.2]] h0 fun u h' => ∃ (F' : Fz) (r_1 : Int), u = .int .i64 r_1 ∧ Kp F h0 F' h' ∧ St F' (fr) h' ∧ Q r_1 := by
  unfold audit_order_W at hM
  have hK := Kp.refl F h0
  refine HC.of_HW (n := 17) Try.func133 rfl rfl (Nat.le_of_ble_eq_true rfl) ?_
  refine HW.seq ?_
  refine HW.region ?_
  refine HO.eff (want_none) rfl (st_box (c := #[.int .i64 a.1, .int .i64 a.2]) (k' := 2) hS rfl rfl) ?_
  rintro _ h_1 ⟨b_1, rfl, hS, hk⟩
  replace hK := hK.trans hk
  refine HO.eff (want_none) rfl (st_box (c := #[.int .i64 b.1, .int .i64 b.2]) (k' := 2) hS rfl rfl) ?_
  rintro _ h_2 ⟨b_2, rfl, hS, hk⟩
  replace hK := hK.trans hk
  refine HO.val (v := .int .i64 0) (want_none) rfl (q_assign rfl) ?_
  refine HO.nil (thenQ_normal (?_))
  refine HW.seq ?_
  refine HW.regionA 13 mixed (fun h => (Blk h b_2 (.cells #[.int .i64 b.1, .int .i64 b.2] 100 (0, 0))) ∧ (Blk h b_1 (.cells #[.int .i64 a.1, .int .i64 a.2] 100 (0, 0)))) [] (by kernel_rfl) ?_
  refine HA.val (k := 0) (v := .pointer (some ⟨b_1, 0, none⟩)) rfl rfl (by kernel_rfl) (by kernel_rfl) (want_none) rfl (fun _ ⟨c202, c201⟩ => q_fieldAddr fa_100_0 rfl rfl) ?_
  refine HA.val (k := 1) (v := .int .i64 a.1) rfl rfl (by kernel_rfl) (by kernel_rfl) (want_none) rfl (fun _ ⟨c202, c201⟩ => q_load to_3 rfl (Blk.cell c201 rfl)) ?_
  refine HA.val (k := 2) (v := .pointer (some ⟨b_2, 0, none⟩)) rfl rfl (by kernel_rfl) (by kernel_rfl) (want_none) rfl (fun _ ⟨c202, c201⟩ => q_fieldAddr fa_100_0 rfl rfl) ?_
  refine HA.val (k := 3) (v := .int .i64 b.1) rfl rfl (by kernel_rfl) (by kernel_rfl) (want_none) rfl (fun _ ⟨c202, c201⟩ => q_load to_3 rfl (Blk.cell c202 rfl)) ?_
  refine HA.val (k := 5) (v := .pointer (some ⟨b_1, 1, none⟩)) rfl rfl (by kernel_rfl) (by kernel_rfl) (want_none) rfl (fun _ ⟨c202, c201⟩ => q_fieldAddr fa_100_1 rfl rfl) ?_
  refine HA.val (k := 6) (v := .int .i64 a.2) rfl rfl (by kernel_rfl) (by kernel_rfl) (want_none) rfl (fun _ ⟨c202, c201⟩ => q_load to_3 rfl (Blk.cell c201 rfl)) ?_
  refine HA.val (k := 7) (v := .pointer (some ⟨b_2, 1, none⟩)) rfl rfl (by kernel_rfl) (by kernel_rfl) (want_none) rfl (fun _ ⟨c202, c201⟩ => q_fieldAddr fa_100_1 rfl rfl) ?_
  refine HA.val (k := 8) (v := .int .i64 b.2) rfl rfl (by kernel_rfl) (by kernel_rfl) (want_none) rfl (fun _ ⟨c202, c201⟩ => q_load to_3 rfl (Blk.cell c202 rfl)) ?_
  refine HA.one (k := 4) ⟨⟨(hS.box 0 rfl), (hS.box 1 rfl)⟩, (Go.Wk.at_nil _ _)⟩ (by kernel_rfl) ?_
  refine HS.call rfl (want_none) rfl (ec en_125 rfl rfl) (cmp_Compare_int_walk (fr := (Ow.box b_2 100 #[.int .i64 b.1, .int .i64 b.2] :: Ow.box b_1 100 #[.int .i64 a.1, .int .i64 a.2] :: fr)) a.1 b.1 hS hM) ?_
  rintro _ h_3 ⟨F_1, r_2, rfl, hk, hS, hM⟩
  replace hK := hK.trans hk
  refine HA.one (k := 9) ⟨⟨(hS.box 0 rfl), (hS.box 1 rfl)⟩, (Go.Wk.at_nil _ _)⟩ (by kernel_rfl) ?_
  refine HS.call rfl (want_none) rfl (ec en_125 rfl rfl) (cmp_Compare_int_walk (fr := (Ow.box b_2 100 #[.int .i64 b.1, .int .i64 b.2] :: Ow.box b_1 100 #[.int .i64 a.1, .int .i64 a.2] :: fr)) a.2 b.2 hS hM) ?_
  rintro _ h_4 ⟨F_2, r_3, rfl, hk, hS, hM⟩
  replace hK := hK.trans hk
  refine HA.one (k := 10) ⟨⟨(hS.box 0 rfl), (hS.box 1 rfl)⟩, (Go.Wk.at_nil _ _)⟩ (by kernel_rfl) ?_
  refine HS.eff rfl (want_none) rfl (st_lit (enc := encI) (cells := #[.int .i64 r_2, .int .i64 r_3]) #[.int .i64 0, .int .i64 0] ([r_2, r_3] : List Int) hS tl_22 (by decide) (by decide) (by kernel_rfl) (by kernel_rfl) rfl (by intro x hx; rfl) rfl) ?_
  rintro _ h_5 ⟨b_3, rfl, hS, hk⟩
  replace hK := hK.trans hk
  refine Go.Wk.HA.re (fun h => (OwnIs h 0 3 1 encI (.slice (some ⟨b_3, 0, none⟩) 2 2) ([r_2, r_3] : List Int)) ∧ (Blk h b_2 (.cells #[.int .i64 b.1, .int .i64 b.2] 100 (0, 0))) ∧ (Blk h b_1 (.cells #[.int .i64 a.1, .int .i64 a.2] 100 (0, 0)))) [] (fun L_ h_ hL_ ⟨c263, c202, c201⟩ hs_ => ⟨⟨c202, c201⟩, (Go.Wk.at_nil _ _)⟩) ?_
  refine HA.one (k := 11) ⟨⟨(hS.own 0 rfl), (hS.box 1 rfl), (hS.box 2 rfl)⟩, (Go.Wk.at_nil _ _)⟩ (by kernel_rfl) ?_
  have hZ_1 := hS
  have hkz_1 := (hS.freeze).2
  replace hS := hS.freeze.1
  have hL_1 : SliceF (fun b => F_2 b ∨ (Ow.own 3 1 encI (.slice (some ⟨b_3, 0, none⟩) 2 2) ([r_2, r_3] : List Int)).foot b) h_5 1 encI (.slice (some ⟨b_3, 0, none⟩) 2 2) ([r_2, r_3] : List Int) := ⟨(hZ_1.own 0 rfl).slice, fun _ b hb => .inr hb⟩
  refine HS.call rfl (want_none) rfl (ec en_124 rfl rfl) (cmp_Or_int_walk (fr := (Ow.box b_2 100 #[.int .i64 b.1, .int .i64 b.2] :: Ow.box b_1 100 #[.int .i64 a.1, .int .i64 a.2] :: fr)) ([r_2, r_3] : List Int) (.slice (some ⟨b_3, 0, none⟩) 2 2) hS hL_1 hM) ?_
  rintro _ h_6 ⟨F_3, r_4, rfl, hk, hS, _, hM⟩
  obtain ⟨hS, hk⟩ := hZ_1.back hk hS
  generalize (fun b => F_3 b ∧ ¬ (Ow.own 3 1 encI (.slice (some ⟨b_3, 0, none⟩) 2 2) ([r_2, r_3] : List Int)).foot b) = F_4 at hS hk
  replace hK := hK.trans hk
  refine HA.val (k := 12) (v := .int .i64 r_4) rfl rfl (by kernel_rfl) (by kernel_rfl) (want_none) rfl (fun _ ⟨c263, c202, c201⟩ => q_assign rfl) ?_
  refine HA.nil ⟨⟨(hS.own 0 rfl), (hS.box 1 rfl), (hS.box 2 rfl)⟩, (Go.Wk.at_nil _ _)⟩ (by kernel_rfl) (thenQ_normal (?_))
  refine HW.ret (?_)
  refine ⟨.inr rfl, .int .i64 r_4, res1 rfl (rt rfl), ?_⟩
  replace hS : St F_4 (fr) h_6 := St.perm (front := [Ow.own 3 1 encI (.slice (some ⟨b_3, 0, none⟩) 2 2) ([r_2, r_3] : List Int), Ow.box b_2 100 #[.int .i64 b.1, .int .i64 b.2], Ow.box b_1 100 #[.int .i64 a.1, .int .i64 a.2]]) (fr := fr) hS [] 3 rfl (by decide) [] rfl
  exact ⟨F_4, r_4, rfl, hK, hS, hM⟩

def slices_Compact_s_api_Spot_api_Spot_l3 (s1 : List (Int × Int)) (Q : (List (Int × Int)) → Prop) (k_1 : Int) (K_2 : (List (Int × Int)) → Int → Int → Prop) (l_2 : List (Int × Int)) (k_2 : Int) (k2_1 : Int) : Prop :=
  ((0 : Int) ≤ k_1 ∧ k_1 ≤ (s1.length : Int) ∧ (s1.length : Int) ≤ (l_2.length : Int)) ∧ ((k2_1 < ((cut l_2 k_1 (s1.length : Int)).length : Int) → ((0 : Int) ≤ k2_1 ∧ k2_1 < ((cut l_2 k_1 (s1.length : Int)).length : Int)) ∧ ((I64 (k2_1 - 1)) ∧ (((0 : Int) ≤ k2_1 - 1 ∧ k2_1 - 1 < ((cut l_2 k_1 (s1.length : Int)).length : Int)) ∧ ((¬ (((gi (cut l_2 k_1 (s1.length : Int)) k2_1) : Int × Int) = (gi (cut l_2 k_1 (s1.length : Int)) (k2_1 - 1))) → ((0 : Int) ≤ k_2 ∧ k_2 < (l_2.length : Int)) ∧ ((I64 (k_2 + 1)) ∧ ((I64 (k2_1 + 1)) ∧ (K_2 (l_2.set (k_2).toNat (gi (cut l_2 k_1 (s1.length : Int)) k2_1)) (k_2 + 1) (k2_1 + 1))))) ∧ (((gi (cut l_2 k_1 (s1.length : Int)) k2_1) : Int × Int) = (gi (cut l_2 k_1 (s1.length : Int)) (k2_1 - 1)) → (I64 (k2_1 + 1)) ∧ (K_2 l_2 k_2 (k2_1 + 1))))))) ∧ (¬ (k2_1 < ((cut l_2 k_1 (s1.length : Int)).length : Int)) → ((0 : Int) ≤ k_2 ∧ k_2 ≤ (l_2.length : Int)) ∧ (((0 : Int) ≤ k_2 ∧ k_2 ≤ (l_2.length : Int) ∧ (l_2.length : Int) ≤ (l_2.length : Int)) ∧ (((0 : Int) ≤ k_2 ∧ k_2 ≤ ((clr l_2 k_2 (l_2.length : Int)).length : Int)) ∧ (Q (cut (clr l_2 k_2 (l_2.length : Int)) 0 k_2))))))
def slices_Compact_s_api_Spot_api_Spot_l1 (s1 : List (Int × Int)) (Q : (List (Int × Int)) → Prop) (K_1 : Int → Prop) (k_1 : Int) : Prop :=
  (k_1 < (s1.length : Int) → ((0 : Int) ≤ k_1 ∧ k_1 < (s1.length : Int)) ∧ ((I64 (k_1 - 1)) ∧ (((0 : Int) ≤ k_1 - 1 ∧ k_1 - 1 < (s1.length : Int)) ∧ ((((gi s1 k_1) : Int × Int) = (gi s1 (k_1 - 1)) → ((0 : Int) ≤ k_1 ∧ k_1 ≤ (s1.length : Int)) ∧ (loopW (fun (K_2 : ((List (Int × Int)) × Int × Int) → Prop) (s : (List (Int × Int)) × Int × Int) => slices_Compact_s_api_Spot_api_Spot_l3 s1 Q k_1 (fun l_2 k_2 k2_1 => K_2 (l_2, k_2, k2_1)) s.1 s.2.1 s.2.2) (s1, k_1, 1))) ∧ (¬ (((gi s1 k_1) : Int × Int) = (gi s1 (k_1 - 1))) → (I64 (k_1 + 1)) ∧ (K_1 (k_1 + 1))))))) ∧ (¬ (k_1 < (s1.length : Int)) → Q s1)
def slices_Compact_s_api_Spot_api_Spot_W (s1 : List (Int × Int)) (Q : (List (Int × Int)) → Prop) : Prop :=
  ((s1.length : Int) < 2 → Q s1) ∧ (¬ ((s1.length : Int) < 2) → loopW (fun (K_1 : Int → Prop) (s : Int) => slices_Compact_s_api_Spot_api_Spot_l1 s1 Q K_1 s) 1)
set_option maxHeartbeats 40000000 in
set_option maxRecDepth 100000 in
theorem slices_Compact_s_api_Spot_api_Spot_walk {F : Fz} {fr : List Ow} {h0 : Heap} (s1 : List (Int × Int)) (vs : Value) (hS : St F (Ow.own 100 2 e_api_Spot vs s1 :: fr) h0)  {Q : (List (Int × Int)) → Prop} (hM : slices_Compact_s_api_Spot_api_Spot_W s1 Q) :
    HC Try.prog 134 #[vs] h0 fun u h' => ∃ (F' : Fz) (r_1 : List (Int × Int)) (vr_1 : Value), u = vr_1 ∧ Kp F h0 F' h' ∧ St F' (Ow.own 100 2 e_api_Spot vr_1 r_1 :: fr) h' ∧ Q r_1 := by
  unfold slices_Compact_s_api_Spot_api_Spot_W at hM
  have hK := Kp.refl F h0
  refine HC.of_HW (n := 61) Try.func134 rfl rfl (Nat.le_of_ble_eq_true rfl) ?_
  refine HW.seq ?_
  refine HW.region ?_
  refine HO.val (v := .slice none 0 0) (want_none) rfl (q_assign rfl) ?_
  refine HO.nil (thenQ_normal (?_))
  refine HW.seq ?_
  refine HW.seq ?_
  refine HW.region ?_
  refine HO.val (v := vs) (want_none) rfl (q_move rfl) ?_
  refine HO.val (v := .int .i64 (s1.length : Int)) (want_none) rfl (q_len ts_98 (shp (hS.own 0 rfl).slice) rfl rfl) ?_
  refine HO.val (v := .bool (decide ((s1.length : Int) < 2))) (want_none) rfl (q_lss rfl rfl) ?_
  refine HO.nil (thenQ_normal (?_))
  refine HW.cond (decide ((s1.length : Int) < 2)) rfl (fun c_1 => ?_) (fun c_1 => ?_)
  · replace hM := hM.1 (of_decide_eq_true c_1)
    refine HW.seq ?_
    refine HW.region ?_
    refine HO.val (v := vs) (want_none) rfl (q_move rfl) ?_
    refine HO.val (v := vs) (want_none) rfl (q_assign rfl) ?_
    refine HO.nil (thenQ_normal (?_))
    refine HW.ret (thenQ_ret (?_))
    refine ⟨.inr rfl, vs, res1 rfl (rt rfl), ?_⟩
    exact ⟨F, s1, vs, rfl, hK, hS, hM⟩
  · replace hM := hM.2 (of_decide_eq_false c_1)
    refine HW.skip (thenQ_normal (?_))
    refine HW.seq ?_
    refine HW.seq ?_
    refine HW.region ?_
    refine HO.val (v := .int .i64 1) (want_none) rfl (q_assign rfl) ?_
    refine HO.nil (thenQ_normal (?_))
    refine HW.block ?_
    obtain ⟨I_1, m_1, hI_1, hR_1⟩ := hM
    refine HW.loop (S := Int) (fun k_1 f h => ∃ (F' : Fz), f 0 = vs ∧ f 2 = .slice none 0 0 ∧ f 3 = .int .i64 k_1 ∧ Kp F h0 F' h ∧ St F' (Ow.own 100 2 e_api_Spot vs s1 :: fr) h ∧ I_1 k_1) m_1 1 ⟨F, rfl, rfl, rfl, hK, hS, hI_1⟩ ?_
    rintro k_1 f_1 h_1 ⟨F_1, e0, e2, e3, hK, hS, hI0⟩
    obtain ⟨K_1, hKe_1⟩ : ∃ K : Int → Prop, K = fun k_1' => I_1 k_1' ∧ m_1 k_1' < m_1 k_1 := ⟨_, rfl⟩
    have hM : slices_Compact_s_api_Spot_api_Spot_l1 s1 Q K_1 k_1 := by rw [hKe_1]; exact hR_1 k_1 hI0
    unfold slices_Compact_s_api_Spot_api_Spot_l1 at hM
    refine HW.fr [(0, vs), (2, .slice none 0 0), (3, .int .i64 k_1)] ⟨e0, e2, e3, trivial⟩ ?_
    refine HW.seq ?_
    refine HW.seq ?_
    refine HW.region ?_
    refine HO.val (v := .int .i64 k_1) (want_none) rfl (q_move rfl) ?_
    refine HO.val (v := vs) (want_none) rfl (q_move rfl) ?_
    refine HO.val (v := .int .i64 (s1.length : Int)) (want_none) rfl (q_len ts_98 (shp (hS.own 0 rfl).slice) rfl rfl) ?_
    refine HO.val (v := .bool (decide (k_1 < (s1.length : Int)))) (want_none) rfl (q_lss rfl rfl) ?_
    refine HO.nil (thenQ_normal (?_))
    refine HW.cond (decide (k_1 < (s1.length : Int))) rfl (fun c_2 => ?_) (fun c_2 => ?_)
    · replace hM := hM.1 (of_decide_eq_true c_2)
      refine HW.skip (thenQ_normal (?_))
      refine HW.seq ?_
      refine HW.block ?_
      refine HW.seq ?_
      refine HW.regionA 10 mixed (fun h => (OwnIs h 0 100 2 e_api_Spot vs s1)) [] (by kernel_rfl) ?_
      refine HA.val (k := 0) (v := vs) rfl rfl (by kernel_rfl) (by kernel_rfl) (want_none) rfl (fun _ c303 => q_move rfl) ?_
      refine HA.val (k := 1) (v := .int .i64 k_1) rfl rfl (by kernel_rfl) (by kernel_rfl) (want_none) rfl (fun _ c303 => q_move rfl) ?_
      obtain ⟨ho_1, hM⟩ := hM
      refine HA.val (k := 2) (v := elemPtr 2 vs (k_1).toNat) rfl rfl (by kernel_rfl) (by kernel_rfl) (want_none) rfl (fun _ c303 => q_idx ts_98 c303.slice rfl rfl ho_1) ?_
      refine HA.val (k := 3) (v := .agg #[.int .i64 ((gi s1 k_1).1), .int .i64 ((gi s1 k_1).2)]) rfl rfl (by kernel_rfl) (by kernel_rfl) (want_none) rfl (fun _ c303 => q_ldElemAgg (cs := [.int .i64 ((gi s1 k_1).1), .int .i64 ((gi s1 k_1).2)]) ta_100 c303.slice rfl ho_1 rfl) ?_
      refine HA.val (k := 4) (v := vs) rfl rfl (by kernel_rfl) (by kernel_rfl) (want_none) rfl (fun _ c303 => q_move rfl) ?_
      refine HA.val (k := 5) (v := .int .i64 k_1) rfl rfl (by kernel_rfl) (by kernel_rfl) (want_none) rfl (fun _ c303 => q_move rfl) ?_
      obtain ⟨ho_2, hM⟩ := hM
      refine HA.val (k := 6) (v := .int .i64 (k_1 - 1)) rfl rfl (by kernel_rfl) (by kernel_rfl) (want_none) rfl (fun _ c303 => q_subN _ rfl rfl rfl ho_2.1 ho_2.2) ?_
      obtain ⟨ho_3, hM⟩ := hM
      refine HA.val (k := 7) (v := elemPtr 2 vs (k_1 - 1).toNat) rfl rfl (by kernel_rfl) (by kernel_rfl) (want_none) rfl (fun _ c303 => q_idx ts_98 c303.slice rfl rfl ho_3) ?_
      refine HA.val (k := 8) (v := .agg #[.int .i64 ((gi s1 (k_1 - 1)).1), .int .i64 ((gi s1 (k_1 - 1)).2)]) rfl rfl (by kernel_rfl) (by kernel_rfl) (want_none) rfl (fun _ c303 => q_ldElemAgg (cs := [.int .i64 ((gi s1 (k_1 - 1)).1), .int .i64 ((gi s1 (k_1 - 1)).2)]) ta_100 c303.slice rfl ho_3 rfl) ?_
      refine HA.val (k := 9) (v := .bool (decide (((gi s1 k_1) : Int × Int) = (gi s1 (k_1 - 1))))) rfl rfl (by kernel_rfl) (by kernel_rfl) (want_none) rfl (fun _ c303 => q_eqlAgg (a := (gi s1 k_1)) (b := (gi s1 (k_1 - 1))) (fun a b w => teq_100 9998 a b w) (by kernel_rfl) rfl rfl rfl rfl) ?_
      refine HA.nil ⟨(hS.own 0 rfl), (Go.Wk.at_nil _ _)⟩ (by kernel_rfl) (thenQ_normal (?_))
      refine HW.cond (decide (((gi s1 k_1) : Int × Int) = (gi s1 (k_1 - 1)))) rfl (fun c_3 => ?_) (fun c_3 => ?_)
      · replace hM := hM.1 (of_decide_eq_true c_3)
        refine HW.seq ?_
        refine HW.region ?_
        refine HO.val (v := vs) (want_none) rfl (q_move rfl) ?_
        refine HO.val (v := .int .i64 k_1) (want_none) rfl (q_move rfl) ?_
        obtain ⟨ho_4, hM⟩ := hM
        refine HO.val (v := cutV 2 vs (k_1).toNat ((s1.length : Int)).toNat) (want_none) rfl (q_slL ts_98 (hS.own 0 rfl).slice rfl rfl ho_4) ?_
        refine HO.val (v := cutV 2 vs (k_1).toNat ((s1.length : Int)).toNat) (want_none) rfl (q_assign rfl) ?_
        refine HO.nil (thenQ_normal (?_))
        refine HW.seq ?_
        refine HW.seq ?_
        refine HW.region ?_
        refine HO.val (v := .int .i64 1) (want_none) rfl (q_assign rfl) ?_
        refine HO.nil (thenQ_normal (?_))
        refine HW.block ?_
        obtain ⟨I_2, m_2, hI_2, hR_2⟩ := hM
        refine HW.loop (S := (List (Int × Int)) × Int × Int) (fun s f h => match s with | (l_2, k_2, k2_1) => ∃ (F' : Fz), f 0 = vs ∧ f 2 = .slice none 0 0 ∧ f 3 = .int .i64 k_2 ∧ f 4 = cutV 2 vs (k_1).toNat ((s1.length : Int)).toNat ∧ f 5 = .int .i64 k2_1 ∧ Kp F h0 F' h ∧ St F' (Ow.own 100 2 e_api_Spot vs l_2 :: fr) h ∧ I_2 (l_2, k_2, k2_1)) m_2 (s1, k_1, 1) ⟨F_1, rfl, rfl, rfl, rfl, rfl, hK, hS, hI_2⟩ ?_
        rintro ⟨l_2, k_2, k2_1⟩ f_2 h_2 ⟨F_2, e0, e2, e3, e4, e5, hK, hS, hI0⟩
        obtain ⟨K_2, hKe_2⟩ : ∃ K : (List (Int × Int)) → Int → Int → Prop, K = fun l_2' k_2' k2_1' => I_2 (l_2', k_2', k2_1') ∧ m_2 (l_2', k_2', k2_1') < m_2 (l_2, k_2, k2_1) := ⟨_, rfl⟩
        have hM : slices_Compact_s_api_Spot_api_Spot_l3 s1 Q k_1 K_2 l_2 k_2 k2_1 := by rw [hKe_2]; exact hR_2 (l_2, k_2, k2_1) hI0
        unfold slices_Compact_s_api_Spot_api_Spot_l3 at hM
        refine HW.fr [(0, vs), (2, .slice none 0 0), (3, .int .i64 k_2), (4, cutV 2 vs (k_1).toNat ((s1.length : Int)).toNat), (5, .int .i64 k2_1)] ⟨e0, e2, e3, e4, e5, trivial⟩ ?_
        refine HW.seq ?_
        refine HW.seq ?_
        refine HW.region ?_
        refine HO.val (v := .int .i64 k2_1) (want_none) rfl (q_move rfl) ?_
        refine HO.val (v := cutV 2 vs (k_1).toNat ((s1.length : Int)).toNat) (want_none) rfl (q_move rfl) ?_
        obtain ⟨ho_5, hM⟩ := hM
        refine HO.val (v := .int .i64 ((cut l_2 k_1 (s1.length : Int)).length : Int)) (want_none) rfl (q_len ts_98 (shp (cutIs (hS.own 0 rfl).slice k_1 (s1.length : Int) ho_5.1 ho_5.2.1 ho_5.2.2)) rfl rfl) ?_
        refine HO.val (v := .bool (decide (k2_1 < ((cut l_2 k_1 (s1.length : Int)).length : Int)))) (want_none) rfl (q_lss rfl rfl) ?_
        refine HO.nil (thenQ_normal (?_))
        refine HW.cond (decide (k2_1 < ((cut l_2 k_1 (s1.length : Int)).length : Int))) rfl (fun c_4 => ?_) (fun c_4 => ?_)
        · replace hM := hM.1 (of_decide_eq_true c_4)
          refine HW.skip (thenQ_normal (?_))
          refine HW.seq ?_
          refine HW.block ?_
          refine HW.seq ?_
          refine HW.regionA 10 mixed (fun h => (OwnIs h 0 100 2 e_api_Spot vs l_2)) [] (by kernel_rfl) ?_
          refine HA.val (k := 0) (v := cutV 2 vs (k_1).toNat ((s1.length : Int)).toNat) rfl rfl (by kernel_rfl) (by kernel_rfl) (want_none) rfl (fun _ c520 => q_move rfl) ?_
          refine HA.val (k := 1) (v := .int .i64 k2_1) rfl rfl (by kernel_rfl) (by kernel_rfl) (want_none) rfl (fun _ c520 => q_move rfl) ?_
          obtain ⟨ho_6, hM⟩ := hM
          refine HA.val (k := 2) (v := elemPtr 2 (cutV 2 vs (k_1).toNat ((s1.length : Int)).toNat) (k2_1).toNat) rfl rfl (by kernel_rfl) (by kernel_rfl) (want_none) rfl (fun _ c520 => q_idx ts_98 (cutIs c520.slice k_1 (s1.length : Int) ho_5.1 ho_5.2.1 ho_5.2.2) rfl rfl ho_6) ?_
          refine HA.val (k := 3) (v := .agg #[.int .i64 ((gi (cut l_2 k_1 (s1.length : Int)) k2_1).1), .int .i64 ((gi (cut l_2 k_1 (s1.length : Int)) k2_1).2)]) rfl rfl (by kernel_rfl) (by kernel_rfl) (want_none) rfl (fun _ c520 => q_ldElemAgg (cs := [.int .i64 ((gi (cut l_2 k_1 (s1.length : Int)) k2_1).1), .int .i64 ((gi (cut l_2 k_1 (s1.length : Int)) k2_1).2)]) ta_100 (cutIs c520.slice k_1 (s1.length : Int) ho_5.1 ho_5.2.1 ho_5.2.2) rfl ho_6 rfl) ?_
          refine HA.val (k := 4) (v := cutV 2 vs (k_1).toNat ((s1.length : Int)).toNat) rfl rfl (by kernel_rfl) (by kernel_rfl) (want_none) rfl (fun _ c520 => q_move rfl) ?_
          refine HA.val (k := 5) (v := .int .i64 k2_1) rfl rfl (by kernel_rfl) (by kernel_rfl) (want_none) rfl (fun _ c520 => q_move rfl) ?_
          obtain ⟨ho_7, hM⟩ := hM
          refine HA.val (k := 6) (v := .int .i64 (k2_1 - 1)) rfl rfl (by kernel_rfl) (by kernel_rfl) (want_none) rfl (fun _ c520 => q_subN _ rfl rfl rfl ho_7.1 ho_7.2) ?_
          obtain ⟨ho_8, hM⟩ := hM
          refine HA.val (k := 7) (v := elemPtr 2 (cutV 2 vs (k_1).toNat ((s1.length : Int)).toNat) (k2_1 - 1).toNat) rfl rfl (by kernel_rfl) (by kernel_rfl) (want_none) rfl (fun _ c520 => q_idx ts_98 (cutIs c520.slice k_1 (s1.length : Int) ho_5.1 ho_5.2.1 ho_5.2.2) rfl rfl ho_8) ?_
          refine HA.val (k := 8) (v := .agg #[.int .i64 ((gi (cut l_2 k_1 (s1.length : Int)) (k2_1 - 1)).1), .int .i64 ((gi (cut l_2 k_1 (s1.length : Int)) (k2_1 - 1)).2)]) rfl rfl (by kernel_rfl) (by kernel_rfl) (want_none) rfl (fun _ c520 => q_ldElemAgg (cs := [.int .i64 ((gi (cut l_2 k_1 (s1.length : Int)) (k2_1 - 1)).1), .int .i64 ((gi (cut l_2 k_1 (s1.length : Int)) (k2_1 - 1)).2)]) ta_100 (cutIs c520.slice k_1 (s1.length : Int) ho_5.1 ho_5.2.1 ho_5.2.2) rfl ho_8 rfl) ?_
          refine HA.val (k := 9) (v := .bool (!decide (((gi (cut l_2 k_1 (s1.length : Int)) k2_1) : Int × Int) = (gi (cut l_2 k_1 (s1.length : Int)) (k2_1 - 1))))) rfl rfl (by kernel_rfl) (by kernel_rfl) (want_none) rfl (fun _ c520 => q_neqAgg (a := (gi (cut l_2 k_1 (s1.length : Int)) k2_1)) (b := (gi (cut l_2 k_1 (s1.length : Int)) (k2_1 - 1))) (fun a b w => teq_100 9998 a b w) (by kernel_rfl) rfl rfl rfl rfl) ?_
          refine HA.nil ⟨(hS.own 0 rfl), (Go.Wk.at_nil _ _)⟩ (by kernel_rfl) (thenQ_normal (?_))
          refine HW.cond (!decide (((gi (cut l_2 k_1 (s1.length : Int)) k2_1) : Int × Int) = (gi (cut l_2 k_1 (s1.length : Int)) (k2_1 - 1)))) rfl (fun c_5 => ?_) (fun c_5 => ?_)
          · replace hM := hM.1 (nd_true c_5)
            refine HW.seq ?_
            refine HW.region ?_
            refine HO.val (v := vs) (want_none) rfl (q_move rfl) ?_
            refine HO.val (v := .int .i64 k_2) (want_none) rfl (q_move rfl) ?_
            refine HO.val (v := cutV 2 vs (k_1).toNat ((s1.length : Int)).toNat) (want_none) rfl (q_move rfl) ?_
            refine HO.val (v := .int .i64 k2_1) (want_none) rfl (q_move rfl) ?_
            refine HO.val (v := elemPtr 2 (cutV 2 vs (k_1).toNat ((s1.length : Int)).toNat) (k2_1).toNat) (want_none) rfl (q_idx ts_98 (cutIs (hS.own 0 rfl).slice k_1 (s1.length : Int) ho_5.1 ho_5.2.1 ho_5.2.2) rfl rfl ho_6) ?_
            refine HO.val (v := .agg #[.int .i64 ((gi (cut l_2 k_1 (s1.length : Int)) k2_1).1), .int .i64 ((gi (cut l_2 k_1 (s1.length : Int)) k2_1).2)]) (want_none) rfl (q_ldElemAgg (cs := [.int .i64 ((gi (cut l_2 k_1 (s1.length : Int)) k2_1).1), .int .i64 ((gi (cut l_2 k_1 (s1.length : Int)) k2_1).2)]) ta_100 (cutIs (hS.own 0 rfl).slice k_1 (s1.length : Int) ho_5.1 ho_5.2.1 ho_5.2.2) rfl ho_6 rfl) ?_
            obtain ⟨ho_9, hM⟩ := hM
            refine HO.val (v := elemPtr 2 vs (k_2).toNat) (want_none) rfl (q_idx ts_98 (hS.own 0 rfl).slice rfl rfl ho_9) ?_
            refine HO.sto (want_none) rfl (st_storeElem (a := (gi (cut l_2 k_1 (s1.length : Int)) k2_1)) (t := k_2) hS (i := 0) rfl ta_100 rfl ho_9 rfl rfl rfl (by simp [Value.oneCell'])) ?_
            rintro h_3 ⟨hS, hk⟩
            replace hS : St F_2 (Ow.own 100 2 e_api_Spot vs (l_2.set (k_2).toNat (gi (cut l_2 k_1 (s1.length : Int)) k2_1)) :: fr) h_3 := hS
            replace hK := hK.trans hk
            refine HO.nil (thenQ_normal (?_))
            refine HW.region ?_
            refine HO.val (v := .int .i64 k_2) (want_none) rfl (q_move rfl) ?_
            obtain ⟨ho_10, hM⟩ := hM
            refine HO.val (v := .int .i64 (k_2 + 1)) (want_none) rfl (q_addN _ rfl rfl rfl ho_10.1 ho_10.2) ?_
            refine HO.val (v := .int .i64 (k_2 + 1)) (want_none) rfl (q_assign rfl) ?_
            refine HO.nil (blockQ_normal (thenQ_normal (?_)))
            refine HW.region ?_
            refine HO.val (v := .int .i64 k2_1) (want_none) rfl (q_move rfl) ?_
            obtain ⟨ho_11, hM⟩ := hM
            refine HO.val (v := .int .i64 (k2_1 + 1)) (want_none) rfl (q_addN _ rfl rfl rfl ho_11.1 ho_11.2) ?_
            refine HO.val (v := .int .i64 (k2_1 + 1)) (want_none) rfl (q_assign rfl) ?_
            refine HO.nil (thenQ_normal (?_))
            rw [hKe_2] at hM
            exact ⟨(l_2.set (k_2).toNat (gi (cut l_2 k_1 (s1.length : Int)) k2_1), k_2 + 1, k2_1 + 1), ⟨F_2, rfl, rfl, rfl, rfl, rfl, hK, hS, hM.1⟩, hM.2⟩
          · replace hM := hM.2 (nd_false c_5)
            refine HW.skip (blockQ_normal (thenQ_normal (?_)))
            refine HW.region ?_
            refine HO.val (v := .int .i64 k2_1) (want_none) rfl (q_move rfl) ?_
            obtain ⟨ho_12, hM⟩ := hM
            refine HO.val (v := .int .i64 (k2_1 + 1)) (want_none) rfl (q_addN _ rfl rfl rfl ho_12.1 ho_12.2) ?_
            refine HO.val (v := .int .i64 (k2_1 + 1)) (want_none) rfl (q_assign rfl) ?_
            refine HO.nil (thenQ_normal (?_))
            rw [hKe_2] at hM
            exact ⟨(l_2, k_2, k2_1 + 1), ⟨F_2, rfl, rfl, rfl, rfl, rfl, hK, hS, hM.1⟩, hM.2⟩
        · replace hM := hM.2 (of_decide_eq_false c_4)
          refine HW.exit (thenQ_exit (thenQ_exit (blockQ_exit (thenQ_normal (?_)))))
          refine HW.seq ?_
          refine HW.region ?_
          refine HO.val (v := vs) (want_none) rfl (q_move rfl) ?_
          refine HO.val (v := .int .i64 k_2) (want_none) rfl (q_move rfl) ?_
          obtain ⟨ho_13, hM⟩ := hM
          refine HO.val (v := cutV 2 vs (k_2).toNat ((l_2.length : Int)).toNat) (want_none) rfl (q_slL ts_98 (hS.own 0 rfl).slice rfl rfl ho_13) ?_
          obtain ⟨ho_14, hM⟩ := hM
          refine HO.eff (want_none) rfl (st_clearS (lo := k_2) (hi := (l_2.length : Int)) (z := .agg #[.int .i64 0, .int .i64 0]) hS (i := 0) rfl te_98 tz_100 rfl (by intro u hu; simp [e_api_Spot, encI, encN, encB, encT, default] at hu; rcases hu with rfl | rfl <;> rfl) rfl ho_14 rfl) ?_
          rintro _ h_4 ⟨rfl, hS, hk⟩
          replace hS : St F_2 (Ow.own 100 2 e_api_Spot vs (clr l_2 k_2 (l_2.length : Int)) :: fr) h_4 := hS
          replace hK := hK.trans hk
          refine HO.nil (thenQ_normal (?_))
          refine HW.seq ?_
          refine HW.region ?_
          refine HO.val (v := vs) (want_none) rfl (q_move rfl) ?_
          refine HO.val (v := .int .i64 k_2) (want_none) rfl (q_move rfl) ?_
          obtain ⟨ho_15, hM⟩ := hM
          refine HO.val (v := cutV 2 vs (0 : Int).toNat (k_2).toNat) (want_none) rfl (q_slH ts_98 (hS.own 0 rfl).slice rfl rfl ho_15) ?_
          refine HO.val (v := cutV 2 vs (0 : Int).toNat (k_2).toNat) (want_none) rfl (q_assign rfl) ?_
          refine HO.nil (thenQ_normal (?_))
          refine HW.ret (blockQ_ret (thenQ_ret (thenQ_ret (blockQ_ret (thenQ_ret (?_))))))
          refine ⟨.inr rfl, cutV 2 vs (0 : Int).toNat (k_2).toNat, res1 rfl (rt rfl), ?_⟩
          replace hS := hS.shrink 0 rfl k_2 ho_15.1 ho_15.2
          replace hS : St F_2 (Ow.own 100 2 e_api_Spot (cutV 2 vs (0 : Int).toNat (k_2).toNat) (cut (clr l_2 k_2 (l_2.length : Int)) 0 k_2) :: fr) h_4 := hS
          exact ⟨F_2, cut (clr l_2 k_2 (l_2.length : Int)) 0 k_2, cutV 2 vs (0 : Int).toNat (k_2).toNat, rfl, hK, hS, hM⟩
      · replace hM := hM.2 (of_decide_eq_false c_3)
        refine HW.skip (blockQ_normal (thenQ_normal (?_)))
        refine HW.region ?_
        refine HO.val (v := .int .i64 k_1) (want_none) rfl (q_move rfl) ?_
        obtain ⟨ho_16, hM⟩ := hM
        refine HO.val (v := .int .i64 (k_1 + 1)) (want_none) rfl (q_addN _ rfl rfl rfl ho_16.1 ho_16.2) ?_
        refine HO.val (v := .int .i64 (k_1 + 1)) (want_none) rfl (q_assign rfl) ?_
        refine HO.nil (thenQ_normal (?_))
        rw [hKe_1] at hM
        exact ⟨k_1 + 1, ⟨F_1, rfl, rfl, rfl, hK, hS, hM.1⟩, hM.2⟩
    · replace hM := hM.2 (of_decide_eq_false c_2)
      refine HW.exit (thenQ_exit (thenQ_exit (blockQ_exit (thenQ_normal (?_)))))
      refine HW.seq ?_
      refine HW.region ?_
      refine HO.val (v := vs) (want_none) rfl (q_move rfl) ?_
      refine HO.val (v := vs) (want_none) rfl (q_assign rfl) ?_
      refine HO.nil (thenQ_normal (?_))
      refine HW.ret (?_)
      refine ⟨.inr rfl, vs, res1 rfl (rt rfl), ?_⟩
      exact ⟨F_1, s1, vs, rfl, hK, hS, hM⟩

def audit_set_W (l : List (Int × Int)) (Q : (List (Int × Int)) → Prop) : Prop :=
  ∃ cf_1 : (Int × Int) → (Int × Int) → Int, Swo cf_1 ∧ (∀ x y, audit_order_W x y (fun r => r = cf_1 x y)) ∧ (l).length < 4611686018427387904 ∧ ∀ l_1 : List (Int × Int), List.Perm l_1 l → List.Pairwise (fun x y => ¬ cf_1 y x < 0) l_1 → (slices_Compact_s_api_Spot_api_Spot_W l_1 (fun r_2 => Q r_2))
set_option maxHeartbeats 40000000 in
set_option maxRecDepth 100000 in
theorem audit_set_walk {F : Fz} {fr : List Ow} {h0 : Heap} (l : List (Int × Int)) (vl : Value) (hS : St F (Ow.own 100 2 e_api_Spot vl l :: fr) h0)  {Q : (List (Int × Int)) → Prop} (hM : audit_set_W l Q) :
    HC Try.prog 114 #[vl] h0 fun u h' => ∃ (F' : Fz) (r_1 : List (Int × Int)) (vr_1 : Value), u = vr_1 ∧ Kp F h0 F' h' ∧ St F' (Ow.own 100 2 e_api_Spot vr_1 r_1 :: fr) h' ∧ Q r_1 := by
  unfold audit_set_W at hM
  have hK := Kp.refl F h0
  refine HC.of_HW (n := 7) Try.func114 rfl rfl (Nat.le_of_ble_eq_true rfl) ?_
  refine HW.seq ?_
  refine HW.region ?_
  refine HO.val (v := .slice none 0 0) (want_none) rfl (q_assign rfl) ?_
  refine HO.nil (thenQ_normal (?_))
  refine HW.seq ?_
  refine HW.region ?_
  refine HO.val (v := vl) (want_none) rfl (q_move rfl) ?_
  obtain ⟨cf_1, ho_1, hc_1, hM⟩ := hM
  obtain ⟨ho_2, hM⟩ := hM
  refine HO.call (want_none) rfl (ec en_132 rfl rfl) (sortFunc_own Try.sortSpot (by decide) (fun w => by kernel_rfl) (fun w => by kernel_rfl) (enc := e_api_Spot) (fun _ => rfl) (by intro a u hu; simp [e_api_Spot, encI, encN, encB, encT] at hu; rcases hu with rfl | rfl <;> rfl) ho_1 hS (fnP2 (enc := e_api_Spot) en_133 (fun x y h' => @audit_order_walk ⟨true⟩ (allF h') [] h' x y (St.init h') (fun r => r = cf_1 x y) (hc_1 x y))) ho_2) ?_
  rintro _ h_1 ⟨l_1, rfl, hk, hS, hp_1, hs_1⟩
  replace hM := hM l_1 hp_1 hs_1
  replace hS : St F (Ow.own 100 2 e_api_Spot vl l_1 :: fr) h_1 := hS
  replace hK := hK.trans hk
  refine HO.nil (thenQ_normal (?_))
  refine HW.seq ?_
  refine HW.region ?_
  refine HO.val (v := vl) (want_none) rfl (q_move rfl) ?_
  refine HO.call (want_none) rfl (ec en_134 rfl rfl) (slices_Compact_s_api_Spot_api_Spot_walk (fr := (fr)) l_1 vl hS hM) ?_
  rintro vr_2 h_2 ⟨F_1, r_2, _, rfl, hk, hS, hM⟩
  replace hK := hK.trans hk
  refine HO.val (v := vr_2) (want_none) rfl (q_assign rfl) ?_
  refine HO.nil (thenQ_normal (?_))
  refine HW.ret (?_)
  refine ⟨.inr rfl, vr_2, res1 rfl (rt rfl), ?_⟩
  exact ⟨F_1, r_2, vr_2, rfl, hK, hS, hM⟩

def audit_Audit_Held_j1 (want : List (Int × Int)) (lacks_1 : List (Int × Int)) (n_1 : Int) (K_1 : (List (Int × Int)) → Int → Prop) (b_3 : Bool) : Prop :=
  (b_3 = true → ((lacks_1.length + ([(gi want n_1)] : List (Int × Int)).length) * 16 ≤ 140737488355328) ∧ ((I64 (n_1 + 1)) ∧ (K_1 (lacks_1 ++ ([(gi want n_1)] : List (Int × Int))) (n_1 + 1)))) ∧ (b_3 = false → (I64 (n_1 + 1)) ∧ (K_1 lacks_1 (n_1 + 1)))
def audit_Audit_Held_j2 (more_1 : List (Int × Int)) (K_2 : (List ((Int × Int × Int × Int) × Int)) → (List (Int × Int)) → Prop) (p_1 : (Int × Int × Int × Int) × Int) (rem_3 : List ((Int × Int × Int × Int) × Int)) (b_6 : Bool) : Prop :=
  (b_6 = true → ((more_1.length + ([p_1.1.2.2] : List (Int × Int)).length) * 16 ≤ 140737488355328) ∧ (K_2 rem_3 (more_1 ++ ([p_1.1.2.2] : List (Int × Int))))) ∧ (b_6 = false → K_2 rem_3 more_1)
def audit_Audit_Held_l2 (a_seen : List ((Int × Int × Int × Int) × Int)) (a_twice : List (Int × Int × Int × Int × Str)) (a_all : Int) (id : Int) (vlan : Int) (want : List (Int × Int)) (but : Int × Int) (Q : (List (Int × Int)) → (List (Int × Int)) → (List ((Int × Int × Int × Int) × Int)) → (List (Int × Int × Int × Int × Str)) → Int → Prop) (lacks_1 : List (Int × Int)) (K_2 : (List ((Int × Int × Int × Int) × Int)) → (List (Int × Int)) → Prop) (rem_1 : List ((Int × Int × Int × Int) × Int)) (more_1 : List (Int × Int)) : Prop :=
  (rem_1 = [] → audit_set_W lacks_1 (fun r_1 => audit_set_W more_1 (fun r_2 => Q r_1 r_2 a_seen a_twice a_all))) ∧ (∀ (p_1 : (Int × Int × Int × Int) × Int) (rem_2 : List ((Int × Int × Int × Int) × Int)), List.Perm rem_1 (p_1 :: rem_2) → (p_1.1.1 = id → (p_1.1.2.1 = vlan → ((p_1.1.2.2 : Int × Int) = but → audit_Audit_Held_j2 more_1 K_2 p_1 rem_2 true) ∧ (¬ ((p_1.1.2.2 : Int × Int) = but) → slices_Contains_s_api_Spot_api_Spot_W want p_1.1.2.2 (fun r_3 => audit_Audit_Held_j2 more_1 K_2 p_1 rem_2 (!r_3)))) ∧ (¬ (p_1.1.2.1 = vlan) → audit_Audit_Held_j2 more_1 K_2 p_1 rem_2 false)) ∧ (¬ (p_1.1.1 = id) → audit_Audit_Held_j2 more_1 K_2 p_1 rem_2 false))
def audit_Audit_Held_l1 (a_seen : List ((Int × Int × Int × Int) × Int)) (a_twice : List (Int × Int × Int × Int × Str)) (a_all : Int) (id : Int) (vlan : Int) (want : List (Int × Int)) (but : Int × Int) (Q : (List (Int × Int)) → (List (Int × Int)) → (List ((Int × Int × Int × Int) × Int)) → (List (Int × Int × Int × Int × Str)) → Int → Prop) (K_1 : (List (Int × Int)) → Int → Prop) (lacks_1 : List (Int × Int)) (n_1 : Int) : Prop :=
  (n_1 < (want.length : Int) → ((0 : Int) ≤ n_1 ∧ n_1 < (want.length : Int)) ∧ ((¬ (((gi want n_1) : Int × Int) = but) → audit_Audit_Held_j1 want lacks_1 n_1 K_1 (decide ((mget0 a_seen (id, vlan, (gi want n_1))) = 0))) ∧ (((gi want n_1) : Int × Int) = but → audit_Audit_Held_j1 want lacks_1 n_1 K_1 false))) ∧ (¬ (n_1 < (want.length : Int)) → loopW (fun (K_2 : ((List ((Int × Int × Int × Int) × Int)) × List (Int × Int)) → Prop) (s : (List ((Int × Int × Int × Int) × Int)) × List (Int × Int)) => audit_Audit_Held_l2 a_seen a_twice a_all id vlan want but Q lacks_1 (fun rem_1 more_1 => K_2 (rem_1, more_1)) s.1 s.2) (a_seen, []))
def audit_Audit_Held_W (a_seen : List ((Int × Int × Int × Int) × Int)) (a_twice : List (Int × Int × Int × Int × Str)) (a_all : Int) (id : Int) (vlan : Int) (want : List (Int × Int)) (but : Int × Int) (Q : (List (Int × Int)) → (List (Int × Int)) → (List ((Int × Int × Int × Int) × Int)) → (List (Int × Int × Int × Int × Str)) → Int → Prop) : Prop :=
  loopW (fun (K_1 : ((List (Int × Int)) × Int) → Prop) (s : (List (Int × Int)) × Int) => audit_Audit_Held_l1 a_seen a_twice a_all id vlan want but Q (fun lacks_1 n_1 => K_1 (lacks_1, n_1)) s.1 s.2) ([], 0)
set_option maxHeartbeats 40000000 in
set_option maxRecDepth 100000 in
theorem audit_Audit_Held_walk {F : Fz} {fr : List Ow} {h0 : Heap} (a_seen : List ((Int × Int × Int × Int) × Int)) (a_twice : List (Int × Int × Int × Int × Str)) (a_all : Int) (id : Int) (vlan : Int) (want : List (Int × Int)) (but : Int × Int) (ba : Nat) (ra_seen : Nat) (va_twice : Value) (vwant : Value) (hS : St F (Ow.box ba 151 #[.map (some ra_seen), va_twice, .int .i64 a_all] :: Ow.map ra_seen (fun (x : Int × Int × Int × Int) => .agg #[.int .i64 x.1, .int .i64 x.2.1, .int .i64 x.2.2.1, .int .i64 x.2.2.2]) kI a_seen :: Ow.own 112 5 e_api_Given va_twice a_twice :: fr) h0) (hL_want : SliceF F h0 2 e_api_Spot vwant want) {Q : (List (Int × Int)) → (List (Int × Int)) → (List ((Int × Int × Int × Int) × Int)) → (List (Int × Int × Int × Int × Str)) → Int → Prop} (hM : audit_Audit_Held_W a_seen a_twice a_all id vlan want but Q) :
    HC Try.prog 75 #[.pointer (some ⟨ba, 0, none⟩), .int .i64 id, .int .i64 vlan, vwant, .agg #[.int .i64 but.1, .int .i64 but.2]] h0 fun u h' => ∃ (F' : Fz) (r0_1 : List (Int × Int)) (r1_1 : List (Int × Int)) (am_1 : List ((Int × Int × Int × Int) × Int)) (a_twice_1 : List (Int × Int × Int × Int × Str)) (a_all_1 : Int) (vr0_1 : Value) (vr1_1 : Value) (v_1 : Value), u = .tuple #[vr0_1, vr1_1] ∧ Kp F h0 F' h' ∧ St F' (Ow.own 100 2 e_api_Spot vr0_1 r0_1 :: Ow.own 100 2 e_api_Spot vr1_1 r1_1 :: Ow.box ba 151 #[.map (some ra_seen), v_1, .int .i64 a_all_1] :: Ow.map ra_seen (fun (x : Int × Int × Int × Int) => .agg #[.int .i64 x.1, .int .i64 x.2.1, .int .i64 x.2.2.1, .int .i64 x.2.2.2]) kI am_1 :: Ow.own 112 5 e_api_Given v_1 a_twice_1 :: fr) h' ∧ (SliceF F' h' 2 e_api_Spot vwant want) ∧ Q r0_1 r1_1 am_1 a_twice_1 a_all_1 := by
  unfold audit_Audit_Held_W at hM
  have hK := Kp.refl F h0
  refine HC.of_HW (n := 86) Try.func75 rfl rfl (Nat.le_of_ble_eq_true rfl) ?_
  refine HW.seq ?_
  refine HW.region ?_
  refine HO.eff (want_none) rfl (st_box (c := #[.int .i64 but.1, .int .i64 but.2]) (k' := 2) hS rfl rfl) ?_
  rintro _ h_1 ⟨b_1, rfl, hS, hk⟩
  replace hK := hK.trans hk
  replace hL_want := hL_want.kp hk
  refine HO.val (v := .slice none 0 0) (want_none) rfl (q_assign rfl) ?_
  refine HO.val (v := .slice none 0 0) (want_none) rfl (q_assign rfl) ?_
  refine HO.nil (thenQ_normal (?_))
  refine HW.seq ?_
  refine HW.region ?_
  refine HO.val (v := .slice none 0 0) (want_none) rfl (q_assign rfl) ?_
  refine HO.val (v := .slice none 0 0) (want_none) rfl (q_assign rfl) ?_
  refine HO.nil (thenQ_normal (?_))
  refine HW.seq ?_
  refine HW.seq ?_
  refine HW.region ?_
  refine HO.val (v := .pointer (some ⟨ba, 0, none⟩)) (want_none) rfl (q_move rfl) ?_
  refine HO.val (v := .bool false) (want_none) rfl (q_eqlPnil Try.underlying103 rfl rfl rfl) ?_
  refine HO.nil (thenQ_normal (?_))
  refine HW.condF rfl ?_
  refine HW.skip (thenQ_normal (?_))
  refine HW.seq ?_
  refine HW.seq ?_
  refine HW.region ?_
  refine HO.val (v := vwant) (want_none) rfl (q_move rfl) ?_
  refine HO.val (v := .int .i64 (want.length : Int)) (want_none) rfl (q_len ts_98 (shp hL_want.is) rfl rfl) ?_
  refine HO.val (v := .int .i64 0) (want_none) rfl (q_move rfl) ?_
  refine HO.nil (thenQ_normal (?_))
  refine HW.block ?_
  obtain ⟨I_1, m_1, hI_1, hR_1⟩ := hM
  replace hS := hS.nilOwn 100 2 e_api_Spot
  replace hS : St F (Ow.box ba 151 #[.map (some ra_seen), va_twice, .int .i64 a_all] :: Ow.map ra_seen (fun (x : Int × Int × Int × Int) => .agg #[.int .i64 x.1, .int .i64 x.2.1, .int .i64 x.2.2.1, .int .i64 x.2.2.2]) kI a_seen :: Ow.own 112 5 e_api_Given va_twice a_twice :: Ow.box b_1 100 #[.int .i64 but.1, .int .i64 but.2] :: Ow.own 100 2 e_api_Spot (.slice none 0 0) ([] : List (Int × Int)) :: fr) h_1 := St.perm (front := [Ow.own 100 2 e_api_Spot (.slice none 0 0) ([] : List (Int × Int)), Ow.box b_1 100 #[.int .i64 but.1, .int .i64 but.2], Ow.box ba 151 #[.map (some ra_seen), va_twice, .int .i64 a_all], Ow.map ra_seen (fun (x : Int × Int × Int × Int) => .agg #[.int .i64 x.1, .int .i64 x.2.1, .int .i64 x.2.2.1, .int .i64 x.2.2.2]) kI a_seen, Ow.own 112 5 e_api_Given va_twice a_twice]) (fr := fr) hS [2, 3, 4, 1, 0] 5 rfl (by decide) [Ow.box ba 151 #[.map (some ra_seen), va_twice, .int .i64 a_all], Ow.map ra_seen (fun (x : Int × Int × Int × Int) => .agg #[.int .i64 x.1, .int .i64 x.2.1, .int .i64 x.2.2.1, .int .i64 x.2.2.2]) kI a_seen, Ow.own 112 5 e_api_Given va_twice a_twice, Ow.box b_1 100 #[.int .i64 but.1, .int .i64 but.2], Ow.own 100 2 e_api_Spot (.slice none 0 0) ([] : List (Int × Int))] rfl
  refine HW.loop (S := (List (Int × Int)) × Int) (fun s f h => match s with | (lacks_1, n_1) => ∃ (F' : Fz) (vlacks_1 : Value), f 0 = .pointer (some ⟨ba, 0, none⟩) ∧ f 1 = .int .i64 id ∧ f 2 = .int .i64 vlan ∧ f 3 = vwant ∧ f 9 = .pointer (some ⟨b_1, 0, none⟩) ∧ f 10 = .slice none 0 0 ∧ f 11 = .slice none 0 0 ∧ f 12 = vlacks_1 ∧ f 13 = .slice none 0 0 ∧ f 19 = vwant ∧ f 20 = .int .i64 (want.length : Int) ∧ f 21 = .int .i64 n_1 ∧ Kp F h0 F' h ∧ St F' (Ow.box ba 151 #[.map (some ra_seen), va_twice, .int .i64 a_all] :: Ow.map ra_seen (fun (x : Int × Int × Int × Int) => .agg #[.int .i64 x.1, .int .i64 x.2.1, .int .i64 x.2.2.1, .int .i64 x.2.2.2]) kI a_seen :: Ow.own 112 5 e_api_Given va_twice a_twice :: Ow.box b_1 100 #[.int .i64 but.1, .int .i64 but.2] :: Ow.own 100 2 e_api_Spot vlacks_1 lacks_1 :: fr) h ∧ (SliceF F' h 2 e_api_Spot vwant want) ∧ I_1 (lacks_1, n_1)) m_1 ([], 0) ⟨F, .slice none 0 0, rfl, rfl, rfl, rfl, rfl, rfl, rfl, rfl, rfl, rfl, rfl, rfl, hK, hS, hL_want, hI_1⟩ ?_
  rintro ⟨lacks_1, n_1⟩ f_1 h_2 ⟨F_1, vlacks_1, e0, e1, e2, e3, e9, e10, e11, e12, e13, e19, e20, e21, hK, hS, hL_want, hI0⟩
  obtain ⟨K_1, hKe_1⟩ : ∃ K : (List (Int × Int)) → Int → Prop, K = fun lacks_1' n_1' => I_1 (lacks_1', n_1') ∧ m_1 (lacks_1', n_1') < m_1 (lacks_1, n_1) := ⟨_, rfl⟩
  have hM : audit_Audit_Held_l1 a_seen a_twice a_all id vlan want but Q K_1 lacks_1 n_1 := by rw [hKe_1]; exact hR_1 (lacks_1, n_1) hI0
  unfold audit_Audit_Held_l1 at hM
  refine HW.fr [(0, .pointer (some ⟨ba, 0, none⟩)), (1, .int .i64 id), (2, .int .i64 vlan), (3, vwant), (9, .pointer (some ⟨b_1, 0, none⟩)), (10, .slice none 0 0), (11, .slice none 0 0), (12, vlacks_1), (13, .slice none 0 0), (19, vwant), (20, .int .i64 (want.length : Int)), (21, .int .i64 n_1)] ⟨e0, e1, e2, e3, e9, e10, e11, e12, e13, e19, e20, e21, trivial⟩ ?_
  refine HW.seq ?_
  refine HW.region ?_
  refine HO.val (v := .bool (decide (n_1 < (want.length : Int)))) (want_none) rfl (q_lss rfl rfl) ?_
  refine HO.nil (thenQ_normal (?_))
  refine HW.seq ?_
  refine HW.cond (decide (n_1 < (want.length : Int))) rfl (fun c_1 => ?_) (fun c_1 => ?_)
  · replace hM := hM.1 (of_decide_eq_true c_1)
    refine HW.skip (thenQ_normal (?_))
    refine HW.seq ?_
    refine HW.block ?_
    refine HW.seq ?_
    refine HW.region ?_
    obtain ⟨ho_1, hM⟩ := hM
    refine HO.val (v := elemPtr 2 vwant (n_1).toNat) (want_none) rfl (q_idx ts_98 hL_want.is rfl rfl ho_1) ?_
    refine HO.val (v := .agg #[.int .i64 ((gi want n_1).1), .int .i64 ((gi want n_1).2)]) (want_none) rfl (q_ldElemAgg (cs := [.int .i64 ((gi want n_1).1), .int .i64 ((gi want n_1).2)]) ta_100 hL_want.is rfl ho_1 rfl) ?_
    refine HO.eff (want_none) rfl (st_alloc (c := #[.int .i64 0, .int .i64 0]) hS tz_100 rfl) ?_
    rintro _ h_3 ⟨b_2, rfl, hS, hk⟩
    replace hK := hK.trans hk
    replace hL_want := hL_want.kp hk
    refine HO.sto (want_none) rfl (st_storeAgg (c' := #[.int .i64 ((gi want n_1).1), .int .i64 ((gi want n_1).2)]) hS (i := 0) rfl ta_100 rfl rfl rfl (by simp [Value.oneCell']) (Nat.le_of_ble_eq_true rfl) rfl) ?_
    rintro h_4 ⟨hS, hk⟩
    replace hS : St F_1 (Ow.box b_2 100 #[.int .i64 ((gi want n_1).1), .int .i64 ((gi want n_1).2)] :: Ow.box ba 151 #[.map (some ra_seen), va_twice, .int .i64 a_all] :: Ow.map ra_seen (fun (x : Int × Int × Int × Int) => .agg #[.int .i64 x.1, .int .i64 x.2.1, .int .i64 x.2.2.1, .int .i64 x.2.2.2]) kI a_seen :: Ow.own 112 5 e_api_Given va_twice a_twice :: Ow.box b_1 100 #[.int .i64 but.1, .int .i64 but.2] :: Ow.own 100 2 e_api_Spot vlacks_1 lacks_1 :: fr) h_4 := hS
    replace hK := hK.trans hk
    replace hL_want := hL_want.kp hk
    refine HO.nil (thenQ_normal (?_))
    refine HW.seq_mid (fun f h => ∃ (F' : Fz) (b_3 : Bool), f 0 = .pointer (some ⟨ba, 0, none⟩) ∧ f 1 = .int .i64 id ∧ f 2 = .int .i64 vlan ∧ f 3 = vwant ∧ f 9 = .pointer (some ⟨b_1, 0, none⟩) ∧ f 10 = .slice none 0 0 ∧ f 11 = .slice none 0 0 ∧ f 12 = vlacks_1 ∧ f 13 = .slice none 0 0 ∧ f 15 = .pointer (some ⟨b_2, 0, none⟩) ∧ f 19 = vwant ∧ f 20 = .int .i64 (want.length : Int) ∧ f 21 = .int .i64 n_1 ∧ f 39 = .bool b_3 ∧ Kp F h0 F' h ∧ St F' (Ow.box ba 151 #[.map (some ra_seen), va_twice, .int .i64 a_all] :: Ow.map ra_seen (fun (x : Int × Int × Int × Int) => .agg #[.int .i64 x.1, .int .i64 x.2.1, .int .i64 x.2.2.1, .int .i64 x.2.2.2]) kI a_seen :: Ow.own 112 5 e_api_Given va_twice a_twice :: Ow.box b_1 100 #[.int .i64 but.1, .int .i64 but.2] :: Ow.own 100 2 e_api_Spot vlacks_1 lacks_1 :: Ow.box b_2 100 #[.int .i64 ((gi want n_1).1), .int .i64 ((gi want n_1).2)] :: fr) h ∧ (SliceF F' h 2 e_api_Spot vwant want) ∧ audit_Audit_Held_j1 want lacks_1 n_1 K_1 b_3) ?_ ?_
    · refine HW.regionA 15 mixed (fun h => (SliceIs h 2 e_api_Spot vwant want) ∧ (Blk h b_2 (.cells #[.int .i64 ((gi want n_1).1), .int .i64 ((gi want n_1).2)] 100 (0, 0))) ∧ (Blk h ba (.cells #[.map (some ra_seen), va_twice, .int .i64 a_all] 151 (0, 0))) ∧ (MapIs h ra_seen (fun (x : Int × Int × Int × Int) => .agg #[.int .i64 x.1, .int .i64 x.2.1, .int .i64 x.2.2.1, .int .i64 x.2.2.2]) kI a_seen) ∧ (OwnIs h 0 112 5 e_api_Given va_twice a_twice) ∧ (Blk h b_1 (.cells #[.int .i64 but.1, .int .i64 but.2] 100 (0, 0))) ∧ (OwnIs h 0 100 2 e_api_Spot vlacks_1 lacks_1)) [] (by kernel_rfl) ?_
      refine HA.val (k := 0) (v := .agg #[.int .i64 ((gi want n_1).1), .int .i64 ((gi want n_1).2)]) rfl rfl (by kernel_rfl) (by kernel_rfl) (want_none) rfl (fun _ ⟨hL_want, c319, c313, c314, c315, c316, c317⟩ => q_loadAgg (cs := [.int .i64 ((gi want n_1).1), .int .i64 ((gi want n_1).2)]) ta_100 rfl rfl (Blk.cells (k := 2) c319 rfl)) ?_
      refine HA.val (k := 1) (v := .agg #[.int .i64 but.1, .int .i64 but.2]) rfl rfl (by kernel_rfl) (by kernel_rfl) (want_none) rfl (fun _ ⟨hL_want, c319, c313, c314, c315, c316, c317⟩ => q_loadAgg (cs := [.int .i64 but.1, .int .i64 but.2]) ta_100 rfl rfl (Blk.cells (k := 2) c316 rfl)) ?_
      refine HA.val (k := 2) (v := .bool (!decide (((gi want n_1) : Int × Int) = but))) rfl rfl (by kernel_rfl) (by kernel_rfl) (want_none) rfl (fun _ ⟨hL_want, c319, c313, c314, c315, c316, c317⟩ => q_neqAgg (a := (gi want n_1)) (b := but) (fun a b w => teq_100 9998 a b w) (by kernel_rfl) rfl rfl rfl rfl) ?_
      refine HA.val (k := 3) (v := .bool (!decide (((gi want n_1) : Int × Int) = but))) rfl rfl (by kernel_rfl) (by kernel_rfl) (want_none) rfl (fun _ ⟨hL_want, c319, c313, c314, c315, c316, c317⟩ => q_move rfl) ?_
      rcases Bool.eq_false_or_eq_true (!decide (((gi want n_1) : Int × Int) = but)) with c_2 | c_2
      · replace hM := hM.1 (nd_true c_2)
        refine HA.val (k := 4) (v := .pointer (some ⟨ba, 0, none⟩)) rfl rfl (by kernel_rfl) (by kernel_rfl) (want_by rfl rfl c_2) rfl (fun _ ⟨hL_want, c319, c313, c314, c315, c316, c317⟩ => q_move rfl) ?_
        refine HA.val (k := 5) (v := .pointer (some ⟨ba, 0, none⟩)) rfl rfl (by kernel_rfl) (by kernel_rfl) (want_by rfl rfl c_2) rfl (fun _ ⟨hL_want, c319, c313, c314, c315, c316, c317⟩ => q_nilCheck rfl) ?_
        refine HA.val (k := 6) (v := .pointer (some ⟨ba, 0, none⟩)) rfl rfl (by kernel_rfl) (by kernel_rfl) (want_by rfl rfl c_2) rfl (fun _ ⟨hL_want, c319, c313, c314, c315, c316, c317⟩ => q_fieldAddr fa_151_0 rfl rfl) ?_
        refine HA.val (k := 7) (v := .map (some ra_seen)) rfl rfl (by kernel_rfl) (by kernel_rfl) (want_by rfl rfl c_2) rfl (fun _ ⟨hL_want, c319, c313, c314, c315, c316, c317⟩ => q_load to_149 rfl (Blk.cell c313 rfl)) ?_
        refine HA.val (k := 8) (v := .int .i64 id) rfl rfl (by kernel_rfl) (by kernel_rfl) (want_by rfl rfl c_2) rfl (fun _ ⟨hL_want, c319, c313, c314, c315, c316, c317⟩ => q_move rfl) ?_
        refine HA.val (k := 9) (v := .int .i64 vlan) rfl rfl (by kernel_rfl) (by kernel_rfl) (want_by rfl rfl c_2) rfl (fun _ ⟨hL_want, c319, c313, c314, c315, c316, c317⟩ => q_move rfl) ?_
        refine HA.val (k := 10) (v := .agg #[.int .i64 ((gi want n_1).1), .int .i64 ((gi want n_1).2)]) rfl rfl (by kernel_rfl) (by kernel_rfl) (want_by rfl rfl c_2) rfl (fun _ ⟨hL_want, c319, c313, c314, c315, c316, c317⟩ => q_loadAgg (cs := [.int .i64 ((gi want n_1).1), .int .i64 ((gi want n_1).2)]) ta_100 rfl rfl (Blk.cells (k := 2) c319 rfl)) ?_
        refine HA.val (k := 11) (v := .agg #[.int .i64 id, .int .i64 vlan, .int .i64 ((gi want n_1).1), .int .i64 ((gi want n_1).2)]) rfl rfl (by kernel_rfl) (by kernel_rfl) (want_by rfl rfl c_2) rfl (fun _ ⟨hL_want, c319, c313, c314, c315, c316, c317⟩ => q_build tp_153 rfl) ?_
        refine HA.val (k := 12) (v := .int .i64 (mget0 a_seen (id, vlan, (gi want n_1)))) rfl rfl (by kernel_rfl) (by kernel_rfl) (want_by rfl rfl c_2) rfl (fun _ ⟨hL_want, c319, c313, c314, c315, c316, c317⟩ => (q_lookup (k := (id, vlan, (gi want n_1))) ka_153 tmk_149 c314 rfl rfl).of_eq (mval0 (z := .int .i64 0) rfl)) ?_
        refine HA.val (k := 13) (v := .bool (decide ((mget0 a_seen (id, vlan, (gi want n_1))) = 0))) rfl rfl (by kernel_rfl) (by kernel_rfl) (want_by rfl rfl c_2) rfl (fun _ ⟨hL_want, c319, c313, c314, c315, c316, c317⟩ => q_eql rfl rfl) ?_
        refine HA.val (k := 14) (v := .bool (decide ((mget0 a_seen (id, vlan, (gi want n_1))) = 0))) rfl rfl (by kernel_rfl) (by kernel_rfl) (want_none) rfl (fun _ ⟨hL_want, c319, c313, c314, c315, c316, c317⟩ => q_pickK true rfl c_2 rfl) ?_
        refine HA.nil ⟨⟨hL_want.is, (hS.box 0 rfl), (hS.box 1 rfl), (hS.mp 2 rfl), (hS.own 3 rfl), (hS.box 4 rfl), (hS.own 5 rfl)⟩, (Go.Wk.at_nil _ _)⟩ (by kernel_rfl) (thenQ_normal (?_))
        replace hS : St F_1 (Ow.box ba 151 #[.map (some ra_seen), va_twice, .int .i64 a_all] :: Ow.map ra_seen (fun (x : Int × Int × Int × Int) => .agg #[.int .i64 x.1, .int .i64 x.2.1, .int .i64 x.2.2.1, .int .i64 x.2.2.2]) kI a_seen :: Ow.own 112 5 e_api_Given va_twice a_twice :: Ow.box b_1 100 #[.int .i64 but.1, .int .i64 but.2] :: Ow.own 100 2 e_api_Spot vlacks_1 lacks_1 :: Ow.box b_2 100 #[.int .i64 ((gi want n_1).1), .int .i64 ((gi want n_1).2)] :: fr) h_4 := St.perm (front := [Ow.box b_2 100 #[.int .i64 ((gi want n_1).1), .int .i64 ((gi want n_1).2)], Ow.box ba 151 #[.map (some ra_seen), va_twice, .int .i64 a_all], Ow.map ra_seen (fun (x : Int × Int × Int × Int) => .agg #[.int .i64 x.1, .int .i64 x.2.1, .int .i64 x.2.2.1, .int .i64 x.2.2.2]) kI a_seen, Ow.own 112 5 e_api_Given va_twice a_twice, Ow.box b_1 100 #[.int .i64 but.1, .int .i64 but.2], Ow.own 100 2 e_api_Spot vlacks_1 lacks_1]) (fr := fr) hS [1, 2, 3, 4, 5, 0] 6 rfl (by decide) [Ow.box ba 151 #[.map (some ra_seen), va_twice, .int .i64 a_all], Ow.map ra_seen (fun (x : Int × Int × Int × Int) => .agg #[.int .i64 x.1, .int .i64 x.2.1, .int .i64 x.2.2.1, .int .i64 x.2.2.2]) kI a_seen, Ow.own 112 5 e_api_Given va_twice a_twice, Ow.box b_1 100 #[.int .i64 but.1, .int .i64 but.2], Ow.own 100 2 e_api_Spot vlacks_1 lacks_1, Ow.box b_2 100 #[.int .i64 ((gi want n_1).1), .int .i64 ((gi want n_1).2)]] rfl
        exact ⟨F_1, decide ((mget0 a_seen (id, vlan, (gi want n_1))) = 0), rfl, rfl, rfl, rfl, rfl, rfl, rfl, rfl, rfl, rfl, rfl, rfl, rfl, rfl, hK, hS, hL_want, hM⟩
      · replace hM := hM.2 (nd_false c_2)
        refine HA.past (k := 4) rfl rfl (by kernel_rfl) (by kernel_rfl) (past_by rfl rfl c_2) rfl ?_
        refine HA.past (k := 5) rfl rfl (by kernel_rfl) (by kernel_rfl) (past_by rfl rfl c_2) rfl ?_
        refine HA.past (k := 6) rfl rfl (by kernel_rfl) (by kernel_rfl) (past_by rfl rfl c_2) rfl ?_
        refine HA.past (k := 7) rfl rfl (by kernel_rfl) (by kernel_rfl) (past_by rfl rfl c_2) rfl ?_
        refine HA.past (k := 8) rfl rfl (by kernel_rfl) (by kernel_rfl) (past_by rfl rfl c_2) rfl ?_
        refine HA.past (k := 9) rfl rfl (by kernel_rfl) (by kernel_rfl) (past_by rfl rfl c_2) rfl ?_
        refine HA.past (k := 10) rfl rfl (by kernel_rfl) (by kernel_rfl) (past_by rfl rfl c_2) rfl ?_
        refine HA.past (k := 11) rfl rfl (by kernel_rfl) (by kernel_rfl) (past_by rfl rfl c_2) rfl ?_
        refine HA.past (k := 12) rfl rfl (by kernel_rfl) (by kernel_rfl) (past_by rfl rfl c_2) rfl ?_
        refine HA.past (k := 13) rfl rfl (by kernel_rfl) (by kernel_rfl) (past_by rfl rfl c_2) rfl ?_
        refine HA.val (k := 14) (v := .bool false) rfl rfl (by kernel_rfl) (by kernel_rfl) (want_none) rfl (fun _ ⟨hL_want, c319, c313, c314, c315, c316, c317⟩ => q_pickK false rfl c_2 rfl) ?_
        refine HA.nil ⟨⟨hL_want.is, (hS.box 0 rfl), (hS.box 1 rfl), (hS.mp 2 rfl), (hS.own 3 rfl), (hS.box 4 rfl), (hS.own 5 rfl)⟩, (Go.Wk.at_nil _ _)⟩ (by kernel_rfl) (thenQ_normal (?_))
        replace hS : St F_1 (Ow.box ba 151 #[.map (some ra_seen), va_twice, .int .i64 a_all] :: Ow.map ra_seen (fun (x : Int × Int × Int × Int) => .agg #[.int .i64 x.1, .int .i64 x.2.1, .int .i64 x.2.2.1, .int .i64 x.2.2.2]) kI a_seen :: Ow.own 112 5 e_api_Given va_twice a_twice :: Ow.box b_1 100 #[.int .i64 but.1, .int .i64 but.2] :: Ow.own 100 2 e_api_Spot vlacks_1 lacks_1 :: Ow.box b_2 100 #[.int .i64 ((gi want n_1).1), .int .i64 ((gi want n_1).2)] :: fr) h_4 := St.perm (front := [Ow.box b_2 100 #[.int .i64 ((gi want n_1).1), .int .i64 ((gi want n_1).2)], Ow.box ba 151 #[.map (some ra_seen), va_twice, .int .i64 a_all], Ow.map ra_seen (fun (x : Int × Int × Int × Int) => .agg #[.int .i64 x.1, .int .i64 x.2.1, .int .i64 x.2.2.1, .int .i64 x.2.2.2]) kI a_seen, Ow.own 112 5 e_api_Given va_twice a_twice, Ow.box b_1 100 #[.int .i64 but.1, .int .i64 but.2], Ow.own 100 2 e_api_Spot vlacks_1 lacks_1]) (fr := fr) hS [1, 2, 3, 4, 5, 0] 6 rfl (by decide) [Ow.box ba 151 #[.map (some ra_seen), va_twice, .int .i64 a_all], Ow.map ra_seen (fun (x : Int × Int × Int × Int) => .agg #[.int .i64 x.1, .int .i64 x.2.1, .int .i64 x.2.2.1, .int .i64 x.2.2.2]) kI a_seen, Ow.own 112 5 e_api_Given va_twice a_twice, Ow.box b_1 100 #[.int .i64 but.1, .int .i64 but.2], Ow.own 100 2 e_api_Spot vlacks_1 lacks_1, Ow.box b_2 100 #[.int .i64 ((gi want n_1).1), .int .i64 ((gi want n_1).2)]] rfl
        exact ⟨F_1, false, rfl, rfl, rfl, rfl, rfl, rfl, rfl, rfl, rfl, rfl, rfl, rfl, rfl, rfl, hK, hS, hL_want, hM⟩
    · rintro f_2 h_5 ⟨F_2, b_3, e0, e1, e2, e3, e9, e10, e11, e12, e13, e15, e19, e20, e21, e39, hK, hS, hL_want, hM⟩
      unfold audit_Audit_Held_j1 at hM
      refine HW.fr [(0, .pointer (some ⟨ba, 0, none⟩)), (1, .int .i64 id), (2, .int .i64 vlan), (3, vwant), (9, .pointer (some ⟨b_1, 0, none⟩)), (10, .slice none 0 0), (11, .slice none 0 0), (12, vlacks_1), (13, .slice none 0 0), (15, .pointer (some ⟨b_2, 0, none⟩)), (19, vwant), (20, .int .i64 (want.length : Int)), (21, .int .i64 n_1), (39, .bool b_3)] ⟨e0, e1, e2, e3, e9, e10, e11, e12, e13, e15, e19, e20, e21, e39, trivial⟩ ?_
      refine HW.cond b_3 rfl (fun c_3 => ?_) (fun c_3 => ?_)
      · replace hM := hM.1 c_3
        refine HW.region ?_
        refine HO.val (v := vlacks_1) (want_none) rfl (q_move rfl) ?_
        refine HO.val (v := .agg #[.int .i64 ((gi want n_1).1), .int .i64 ((gi want n_1).2)]) (want_none) rfl (q_loadAgg (cs := [.int .i64 ((gi want n_1).1), .int .i64 ((gi want n_1).2)]) ta_100 rfl rfl (Blk.cells (k := 2) (hS.box 5 rfl) rfl)) ?_
        refine HO.eff (want_none) rfl (st_lit (enc := e_api_Spot) (cells := #[.int .i64 ((gi want n_1).1), .int .i64 ((gi want n_1).2)]) #[.int .i64 0, .int .i64 0] ([(gi want n_1)] : List (Int × Int)) hS tl_98 (by decide) (by decide) (by kernel_rfl) (by kernel_rfl) rfl (by intro x hx; rfl) rfl) ?_
        rintro _ h_6 ⟨b_4, rfl, hS, hk⟩
        replace hK := hK.trans hk
        replace hL_want := hL_want.kp hk
        obtain ⟨ho_2, hM⟩ := hM
        refine HO.eff (want_none) rfl (st_append te_98 hS (i := 5) rfl (hS.own 0 rfl).slice rfl rfl rfl (by intro a _ u hu; simp [e_api_Spot, encI, encN, encB, encT] at hu; rcases hu with rfl | rfl <;> rfl) ho_2 (by omega)) ?_
        rintro v_2 h_7 ⟨hS, hk⟩
        replace hS : St F_2 (Ow.own 100 2 e_api_Spot (.slice (some ⟨b_4, 0, none⟩) 1 1) ([(gi want n_1)] : List (Int × Int)) :: Ow.box ba 151 #[.map (some ra_seen), va_twice, .int .i64 a_all] :: Ow.map ra_seen (fun (x : Int × Int × Int × Int) => .agg #[.int .i64 x.1, .int .i64 x.2.1, .int .i64 x.2.2.1, .int .i64 x.2.2.2]) kI a_seen :: Ow.own 112 5 e_api_Given va_twice a_twice :: Ow.box b_1 100 #[.int .i64 but.1, .int .i64 but.2] :: Ow.own 100 2 e_api_Spot v_2 (lacks_1 ++ ([(gi want n_1)] : List (Int × Int))) :: Ow.box b_2 100 #[.int .i64 ((gi want n_1).1), .int .i64 ((gi want n_1).2)] :: fr) h_7 := hS
        replace hK := hK.trans hk
        replace hL_want := hL_want.kp hk
        refine HO.val (v := v_2) (want_none) rfl (q_assign rfl) ?_
        refine HO.nil (blockQ_normal (thenQ_normal (?_)))
        refine HW.region ?_
        obtain ⟨ho_3, hM⟩ := hM
        refine HO.val (v := .int .i64 (n_1 + 1)) (want_none) rfl (q_addN _ rfl rfl rfl ho_3.1 ho_3.2) ?_
        refine HO.val (v := .int .i64 (n_1 + 1)) (want_none) rfl (q_move rfl) ?_
        refine HO.nil (thenQ_normal (?_))
        replace hS : St F_2 (Ow.box ba 151 #[.map (some ra_seen), va_twice, .int .i64 a_all] :: Ow.map ra_seen (fun (x : Int × Int × Int × Int) => .agg #[.int .i64 x.1, .int .i64 x.2.1, .int .i64 x.2.2.1, .int .i64 x.2.2.2]) kI a_seen :: Ow.own 112 5 e_api_Given va_twice a_twice :: Ow.box b_1 100 #[.int .i64 but.1, .int .i64 but.2] :: Ow.own 100 2 e_api_Spot v_2 (lacks_1 ++ ([(gi want n_1)] : List (Int × Int))) :: fr) h_7 := St.perm (front := [Ow.own 100 2 e_api_Spot (.slice (some ⟨b_4, 0, none⟩) 1 1) ([(gi want n_1)] : List (Int × Int)), Ow.box ba 151 #[.map (some ra_seen), va_twice, .int .i64 a_all], Ow.map ra_seen (fun (x : Int × Int × Int × Int) => .agg #[.int .i64 x.1, .int .i64 x.2.1, .int .i64 x.2.2.1, .int .i64 x.2.2.2]) kI a_seen, Ow.own 112 5 e_api_Given va_twice a_twice, Ow.box b_1 100 #[.int .i64 but.1, .int .i64 but.2], Ow.own 100 2 e_api_Spot v_2 (lacks_1 ++ ([(gi want n_1)] : List (Int × Int))), Ow.box b_2 100 #[.int .i64 ((gi want n_1).1), .int .i64 ((gi want n_1).2)]]) (fr := fr) hS [1, 2, 3, 4, 5] 7 rfl (by decide) [Ow.box ba 151 #[.map (some ra_seen), va_twice, .int .i64 a_all], Ow.map ra_seen (fun (x : Int × Int × Int × Int) => .agg #[.int .i64 x.1, .int .i64 x.2.1, .int .i64 x.2.2.1, .int .i64 x.2.2.2]) kI a_seen, Ow.own 112 5 e_api_Given va_twice a_twice, Ow.box b_1 100 #[.int .i64 but.1, .int .i64 but.2], Ow.own 100 2 e_api_Spot v_2 (lacks_1 ++ ([(gi want n_1)] : List (Int × Int)))] rfl
        rw [hKe_1] at hM
        exact ⟨(lacks_1 ++ ([(gi want n_1)] : List (Int × Int)), n_1 + 1), ⟨F_2, v_2, rfl, rfl, rfl, rfl, rfl, rfl, rfl, rfl, rfl, rfl, rfl, rfl, hK, hS, hL_want, hM.1⟩, hM.2⟩
      · replace hM := hM.2 c_3
        refine HW.skip (blockQ_normal (thenQ_normal (?_)))
        refine HW.region ?_
        obtain ⟨ho_4, hM⟩ := hM
        refine HO.val (v := .int .i64 (n_1 + 1)) (want_none) rfl (q_addN _ rfl rfl rfl ho_4.1 ho_4.2) ?_
        refine HO.val (v := .int .i64 (n_1 + 1)) (want_none) rfl (q_move rfl) ?_
        refine HO.nil (thenQ_normal (?_))
        replace hS : St F_2 (Ow.box ba 151 #[.map (some ra_seen), va_twice, .int .i64 a_all] :: Ow.map ra_seen (fun (x : Int × Int × Int × Int) => .agg #[.int .i64 x.1, .int .i64 x.2.1, .int .i64 x.2.2.1, .int .i64 x.2.2.2]) kI a_seen :: Ow.own 112 5 e_api_Given va_twice a_twice :: Ow.box b_1 100 #[.int .i64 but.1, .int .i64 but.2] :: Ow.own 100 2 e_api_Spot vlacks_1 lacks_1 :: fr) h_5 := St.perm (front := [Ow.box ba 151 #[.map (some ra_seen), va_twice, .int .i64 a_all], Ow.map ra_seen (fun (x : Int × Int × Int × Int) => .agg #[.int .i64 x.1, .int .i64 x.2.1, .int .i64 x.2.2.1, .int .i64 x.2.2.2]) kI a_seen, Ow.own 112 5 e_api_Given va_twice a_twice, Ow.box b_1 100 #[.int .i64 but.1, .int .i64 but.2], Ow.own 100 2 e_api_Spot vlacks_1 lacks_1, Ow.box b_2 100 #[.int .i64 ((gi want n_1).1), .int .i64 ((gi want n_1).2)]]) (fr := fr) hS [0, 1, 2, 3, 4] 6 rfl (by decide) [Ow.box ba 151 #[.map (some ra_seen), va_twice, .int .i64 a_all], Ow.map ra_seen (fun (x : Int × Int × Int × Int) => .agg #[.int .i64 x.1, .int .i64 x.2.1, .int .i64 x.2.2.1, .int .i64 x.2.2.2]) kI a_seen, Ow.own 112 5 e_api_Given va_twice a_twice, Ow.box b_1 100 #[.int .i64 but.1, .int .i64 but.2], Ow.own 100 2 e_api_Spot vlacks_1 lacks_1] rfl
        rw [hKe_1] at hM
        exact ⟨(lacks_1, n_1 + 1), ⟨F_2, vlacks_1, rfl, rfl, rfl, rfl, rfl, rfl, rfl, rfl, rfl, rfl, rfl, rfl, hK, hS, hL_want, hM.1⟩, hM.2⟩
  · replace hM := hM.2 (of_decide_eq_false c_1)
    refine HW.exit (thenQ_exit (thenQ_exit (blockQ_exit (thenQ_normal (?_)))))
    refine HW.seq ?_
    refine HW.seq ?_
    refine HW.region ?_
    refine HO.val (v := .pointer (some ⟨ba, 0, none⟩)) (want_none) rfl (q_move rfl) ?_
    refine HO.val (v := .pointer (some ⟨ba, 0, none⟩)) (want_none) rfl (q_nilCheck rfl) ?_
    refine HO.val (v := .pointer (some ⟨ba, 0, none⟩)) (want_none) rfl (q_fieldAddr fa_151_0 rfl rfl) ?_
    refine HO.val (v := .map (some ra_seen)) (want_none) rfl (q_load to_149 rfl (Blk.cell (hS.box 0 rfl) rfl)) ?_
    refine HO.eff (want_none) rfl (st_range hS (i := 1) rfl Try.underlying149 rfl) ?_
    rintro _ h_8 ⟨it_1, rfl, hS, hk⟩
    replace hS : St F_1 (Ow.box ba 151 #[.map (some ra_seen), va_twice, .int .i64 a_all] :: Ow.iter it_1 ra_seen (fun (x : Int × Int × Int × Int) => .agg #[.int .i64 x.1, .int .i64 x.2.1, .int .i64 x.2.2.1, .int .i64 x.2.2.2]) kI a_seen a_seen :: Ow.own 112 5 e_api_Given va_twice a_twice :: Ow.box b_1 100 #[.int .i64 but.1, .int .i64 but.2] :: Ow.own 100 2 e_api_Spot vlacks_1 lacks_1 :: fr) h_8 := hS
    replace hK := hK.trans hk
    replace hL_want := hL_want.kp hk
    refine HO.nil (thenQ_normal (?_))
    refine HW.block ?_
    obtain ⟨I_2, m_2, hI_2, hR_2⟩ := hM
    replace hS := hS.nilOwn 100 2 e_api_Spot
    replace hS : St F_1 (Ow.box ba 151 #[.map (some ra_seen), va_twice, .int .i64 a_all] :: Ow.iter it_1 ra_seen (fun (x : Int × Int × Int × Int) => .agg #[.int .i64 x.1, .int .i64 x.2.1, .int .i64 x.2.2.1, .int .i64 x.2.2.2]) kI a_seen a_seen :: Ow.own 112 5 e_api_Given va_twice a_twice :: Ow.box b_1 100 #[.int .i64 but.1, .int .i64 but.2] :: Ow.own 100 2 e_api_Spot vlacks_1 lacks_1 :: Ow.own 100 2 e_api_Spot (.slice none 0 0) ([] : List (Int × Int)) :: fr) h_8 := St.perm (front := [Ow.own 100 2 e_api_Spot (.slice none 0 0) ([] : List (Int × Int)), Ow.box ba 151 #[.map (some ra_seen), va_twice, .int .i64 a_all], Ow.iter it_1 ra_seen (fun (x : Int × Int × Int × Int) => .agg #[.int .i64 x.1, .int .i64 x.2.1, .int .i64 x.2.2.1, .int .i64 x.2.2.2]) kI a_seen a_seen, Ow.own 112 5 e_api_Given va_twice a_twice, Ow.box b_1 100 #[.int .i64 but.1, .int .i64 but.2], Ow.own 100 2 e_api_Spot vlacks_1 lacks_1]) (fr := fr) hS [1, 2, 3, 4, 5, 0] 6 rfl (by decide) [Ow.box ba 151 #[.map (some ra_seen), va_twice, .int .i64 a_all], Ow.iter it_1 ra_seen (fun (x : Int × Int × Int × Int) => .agg #[.int .i64 x.1, .int .i64 x.2.1, .int .i64 x.2.2.1, .int .i64 x.2.2.2]) kI a_seen a_seen, Ow.own 112 5 e_api_Given va_twice a_twice, Ow.box b_1 100 #[.int .i64 but.1, .int .i64 but.2], Ow.own 100 2 e_api_Spot vlacks_1 lacks_1, Ow.own 100 2 e_api_Spot (.slice none 0 0) ([] : List (Int × Int))] rfl
    refine HW.loop (S := (List ((Int × Int × Int × Int) × Int)) × List (Int × Int)) (fun s f h => match s with | (rem_1, more_1) => ∃ (F' : Fz) (vmore_1 : Value), f 1 = .int .i64 id ∧ f 2 = .int .i64 vlan ∧ f 3 = vwant ∧ f 9 = .pointer (some ⟨b_1, 0, none⟩) ∧ f 10 = .slice none 0 0 ∧ f 11 = .slice none 0 0 ∧ f 12 = vlacks_1 ∧ f 13 = vmore_1 ∧ f 49 = .pointer (some ⟨it_1, 0, none⟩) ∧ Kp F h0 F' h ∧ St F' (Ow.box ba 151 #[.map (some ra_seen), va_twice, .int .i64 a_all] :: Ow.iter it_1 ra_seen (fun (x : Int × Int × Int × Int) => .agg #[.int .i64 x.1, .int .i64 x.2.1, .int .i64 x.2.2.1, .int .i64 x.2.2.2]) kI a_seen rem_1 :: Ow.own 112 5 e_api_Given va_twice a_twice :: Ow.box b_1 100 #[.int .i64 but.1, .int .i64 but.2] :: Ow.own 100 2 e_api_Spot vlacks_1 lacks_1 :: Ow.own 100 2 e_api_Spot vmore_1 more_1 :: fr) h ∧ (SliceF F' h 2 e_api_Spot vwant want) ∧ I_2 (rem_1, more_1)) m_2 (a_seen, []) ⟨F_1, .slice none 0 0, rfl, rfl, rfl, rfl, rfl, rfl, rfl, rfl, rfl, hK, hS, hL_want, hI_2⟩ ?_
    rintro ⟨rem_1, more_1⟩ f_3 h_9 ⟨F_3, vmore_1, e1, e2, e3, e9, e10, e11, e12, e13, e49, hK, hS, hL_want, hI0⟩
    obtain ⟨K_2, hKe_2⟩ : ∃ K : (List ((Int × Int × Int × Int) × Int)) → (List (Int × Int)) → Prop, K = fun rem_1' more_1' => I_2 (rem_1', more_1') ∧ m_2 (rem_1', more_1') < m_2 (rem_1, more_1) := ⟨_, rfl⟩
    have hM : audit_Audit_Held_l2 a_seen a_twice a_all id vlan want but Q lacks_1 K_2 rem_1 more_1 := by rw [hKe_2]; exact hR_2 (rem_1, more_1) hI0
    unfold audit_Audit_Held_l2 at hM
    refine HW.fr [(1, .int .i64 id), (2, .int .i64 vlan), (3, vwant), (9, .pointer (some ⟨b_1, 0, none⟩)), (10, .slice none 0 0), (11, .slice none 0 0), (12, vlacks_1), (13, vmore_1), (49, .pointer (some ⟨it_1, 0, none⟩))] ⟨e1, e2, e3, e9, e10, e11, e12, e13, e49, trivial⟩ ?_
    refine HW.seq ?_
    refine HW.region ?_
    refine HO.eff (want_none) rfl (st_next hS (i := 1) rfl rfl) ?_
    rintro _ h_10 (⟨hrem, rfl, hEq⟩ | ⟨p_1, rem_2, hperm, rfl, hS, hk⟩)
    · rw [hEq]
      replace hM := hM.1 hrem
      replace hS := hS.done 1 rfl
      replace hS : St F_3 (Ow.box ba 151 #[.map (some ra_seen), va_twice, .int .i64 a_all] :: Ow.map ra_seen (fun (x : Int × Int × Int × Int) => .agg #[.int .i64 x.1, .int .i64 x.2.1, .int .i64 x.2.2.1, .int .i64 x.2.2.2]) kI a_seen :: Ow.own 112 5 e_api_Given va_twice a_twice :: Ow.box b_1 100 #[.int .i64 but.1, .int .i64 but.2] :: Ow.own 100 2 e_api_Spot vlacks_1 lacks_1 :: Ow.own 100 2 e_api_Spot vmore_1 more_1 :: fr) h_9 := hS
      refine HO.val (v := .bool false) (want_none) rfl (q_extract rfl rfl) ?_
      refine HO.nil (thenQ_normal (?_))
      refine HW.seq ?_
      refine HW.condF rfl ?_
      refine HW.exit (thenQ_exit (thenQ_exit (blockQ_exit (thenQ_normal (?_)))))
      refine HW.seq ?_
      refine HW.region ?_
      refine HO.val (v := vlacks_1) (want_none) rfl (q_move rfl) ?_
      replace hS : St F_3 (Ow.own 100 2 e_api_Spot vlacks_1 lacks_1 :: Ow.box ba 151 #[.map (some ra_seen), va_twice, .int .i64 a_all] :: Ow.map ra_seen (fun (x : Int × Int × Int × Int) => .agg #[.int .i64 x.1, .int .i64 x.2.1, .int .i64 x.2.2.1, .int .i64 x.2.2.2]) kI a_seen :: Ow.own 112 5 e_api_Given va_twice a_twice :: Ow.box b_1 100 #[.int .i64 but.1, .int .i64 but.2] :: Ow.own 100 2 e_api_Spot vmore_1 more_1 :: fr) h_9 := St.perm (front := [Ow.box ba 151 #[.map (some ra_seen), va_twice, .int .i64 a_all], Ow.map ra_seen (fun (x : Int × Int × Int × Int) => .agg #[.int .i64 x.1, .int .i64 x.2.1, .int .i64 x.2.2.1, .int .i64 x.2.2.2]) kI a_seen, Ow.own 112 5 e_api_Given va_twice a_twice, Ow.box b_1 100 #[.int .i64 but.1, .int .i64 but.2], Ow.own 100 2 e_api_Spot vlacks_1 lacks_1, Ow.own 100 2 e_api_Spot vmore_1 more_1]) (fr := fr) hS [4, 0, 1, 2, 3, 5] 6 rfl (by decide) [Ow.own 100 2 e_api_Spot vlacks_1 lacks_1, Ow.box ba 151 #[.map (some ra_seen), va_twice, .int .i64 a_all], Ow.map ra_seen (fun (x : Int × Int × Int × Int) => .agg #[.int .i64 x.1, .int .i64 x.2.1, .int .i64 x.2.2.1, .int .i64 x.2.2.2]) kI a_seen, Ow.own 112 5 e_api_Given va_twice a_twice, Ow.box b_1 100 #[.int .i64 but.1, .int .i64 but.2], Ow.own 100 2 e_api_Spot vmore_1 more_1] rfl
      refine HO.call (want_none) rfl (ec en_114 rfl rfl) (audit_set_walk (fr := (Ow.box ba 151 #[.map (some ra_seen), va_twice, .int .i64 a_all] :: Ow.map ra_seen (fun (x : Int × Int × Int × Int) => .agg #[.int .i64 x.1, .int .i64 x.2.1, .int .i64 x.2.2.1, .int .i64 x.2.2.2]) kI a_seen :: Ow.own 112 5 e_api_Given va_twice a_twice :: Ow.box b_1 100 #[.int .i64 but.1, .int .i64 but.2] :: Ow.own 100 2 e_api_Spot vmore_1 more_1 :: fr)) lacks_1 vlacks_1 hS hM) ?_
      rintro vr_1 h_11 ⟨F_4, r_1, _, rfl, hk, hS, hM⟩
      replace hK := hK.trans hk
      replace hL_want := hL_want.kp hk
      refine HO.val (v := vmore_1) (want_none) rfl (q_move rfl) ?_
      replace hS : St F_4 (Ow.own 100 2 e_api_Spot vmore_1 more_1 :: Ow.own 100 2 e_api_Spot vr_1 r_1 :: Ow.box ba 151 #[.map (some ra_seen), va_twice, .int .i64 a_all] :: Ow.map ra_seen (fun (x : Int × Int × Int × Int) => .agg #[.int .i64 x.1, .int .i64 x.2.1, .int .i64 x.2.2.1, .int .i64 x.2.2.2]) kI a_seen :: Ow.own 112 5 e_api_Given va_twice a_twice :: Ow.box b_1 100 #[.int .i64 but.1, .int .i64 but.2] :: fr) h_11 := St.perm (front := [Ow.own 100 2 e_api_Spot vr_1 r_1, Ow.box ba 151 #[.map (some ra_seen), va_twice, .int .i64 a_all], Ow.map ra_seen (fun (x : Int × Int × Int × Int) => .agg #[.int .i64 x.1, .int .i64 x.2.1, .int .i64 x.2.2.1, .int .i64 x.2.2.2]) kI a_seen, Ow.own 112 5 e_api_Given va_twice a_twice, Ow.box b_1 100 #[.int .i64 but.1, .int .i64 but.2], Ow.own 100 2 e_api_Spot vmore_1 more_1]) (fr := fr) hS [5, 0, 1, 2, 3, 4] 6 rfl (by decide) [Ow.own 100 2 e_api_Spot vmore_1 more_1, Ow.own 100 2 e_api_Spot vr_1 r_1, Ow.box ba 151 #[.map (some ra_seen), va_twice, .int .i64 a_all], Ow.map ra_seen (fun (x : Int × Int × Int × Int) => .agg #[.int .i64 x.1, .int .i64 x.2.1, .int .i64 x.2.2.1, .int .i64 x.2.2.2]) kI a_seen, Ow.own 112 5 e_api_Given va_twice a_twice, Ow.box b_1 100 #[.int .i64 but.1, .int .i64 but.2]] rfl
      refine HO.call (want_none) rfl (ec en_114 rfl rfl) (audit_set_walk (fr := (Ow.own 100 2 e_api_Spot vr_1 r_1 :: Ow.box ba 151 #[.map (some ra_seen), va_twice, .int .i64 a_all] :: Ow.map ra_seen (fun (x : Int × Int × Int × Int) => .agg #[.int .i64 x.1, .int .i64 x.2.1, .int .i64 x.2.2.1, .int .i64 x.2.2.2]) kI a_seen :: Ow.own 112 5 e_api_Given va_twice a_twice :: Ow.box b_1 100 #[.int .i64 but.1, .int .i64 but.2] :: fr)) more_1 vmore_1 hS hM) ?_
      rintro vr_2 h_12 ⟨F_5, r_2, _, rfl, hk, hS, hM⟩
      replace hK := hK.trans hk
      replace hL_want := hL_want.kp hk
      refine HO.val (v := vr_1) (want_none) rfl (q_assign rfl) ?_
      refine HO.val (v := vr_2) (want_none) rfl (q_assign rfl) ?_
      refine HO.nil (thenQ_normal (?_))
      refine HW.ret (?_)
      refine ⟨.inr rfl, .tuple #[vr_1, vr_2], res2 rfl (rt rfl) (rt rfl), ?_⟩
      replace hS : St F_5 (Ow.own 100 2 e_api_Spot vr_1 r_1 :: Ow.own 100 2 e_api_Spot vr_2 r_2 :: Ow.box ba 151 #[.map (some ra_seen), va_twice, .int .i64 a_all] :: Ow.map ra_seen (fun (x : Int × Int × Int × Int) => .agg #[.int .i64 x.1, .int .i64 x.2.1, .int .i64 x.2.2.1, .int .i64 x.2.2.2]) kI a_seen :: Ow.own 112 5 e_api_Given va_twice a_twice :: fr) h_12 := St.perm (front := [Ow.own 100 2 e_api_Spot vr_2 r_2, Ow.own 100 2 e_api_Spot vr_1 r_1, Ow.box ba 151 #[.map (some ra_seen), va_twice, .int .i64 a_all], Ow.map ra_seen (fun (x : Int × Int × Int × Int) => .agg #[.int .i64 x.1, .int .i64 x.2.1, .int .i64 x.2.2.1, .int .i64 x.2.2.2]) kI a_seen, Ow.own 112 5 e_api_Given va_twice a_twice, Ow.box b_1 100 #[.int .i64 but.1, .int .i64 but.2]]) (fr := fr) hS [1, 0, 2, 3, 4] 6 rfl (by decide) [Ow.own 100 2 e_api_Spot vr_1 r_1, Ow.own 100 2 e_api_Spot vr_2 r_2, Ow.box ba 151 #[.map (some ra_seen), va_twice, .int .i64 a_all], Ow.map ra_seen (fun (x : Int × Int × Int × Int) => .agg #[.int .i64 x.1, .int .i64 x.2.1, .int .i64 x.2.2.1, .int .i64 x.2.2.2]) kI a_seen, Ow.own 112 5 e_api_Given va_twice a_twice] rfl
      exact ⟨F_5, r_1, r_2, a_seen, a_twice, a_all, vr_1, vr_2, va_twice, rfl, hK, hS, hL_want, hM⟩
    · replace hM := hM.2 p_1 rem_2 hperm
      replace hS : St F_3 (Ow.box ba 151 #[.map (some ra_seen), va_twice, .int .i64 a_all] :: Ow.cur it_1 ra_seen (fun (x : Int × Int × Int × Int) => .agg #[.int .i64 x.1, .int .i64 x.2.1, .int .i64 x.2.2.1, .int .i64 x.2.2.2]) kI a_seen rem_2 p_1 :: Ow.own 112 5 e_api_Given va_twice a_twice :: Ow.box b_1 100 #[.int .i64 but.1, .int .i64 but.2] :: Ow.own 100 2 e_api_Spot vlacks_1 lacks_1 :: Ow.own 100 2 e_api_Spot vmore_1 more_1 :: fr) h_10 := hS
      replace hK := hK.trans hk
      replace hL_want := hL_want.kp hk
      refine HO.val (v := .bool true) (want_none) rfl (q_extract rfl rfl) ?_
      refine HO.nil (thenQ_normal (?_))
      refine HW.seq ?_
      refine HW.condT rfl ?_
      refine HW.skip (thenQ_normal (?_))
      refine HW.block ?_
      refine HW.seq ?_
      refine HW.region ?_
      refine HO.val (v := .tuple #[.agg #[.int .i64 p_1.1.1, .int .i64 p_1.1.2.1, .int .i64 p_1.1.2.2.1, .int .i64 p_1.1.2.2.2], .int .i64 p_1.2]) (want_none) rfl (q_entry (hS.cu 1 rfl) rfl) ?_
      refine HO.val (v := .agg #[.int .i64 p_1.1.1, .int .i64 p_1.1.2.1, .int .i64 p_1.1.2.2.1, .int .i64 p_1.1.2.2.2]) (want_none) rfl (q_extract rfl rfl) ?_
      refine HO.eff (want_none) rfl (st_alloc (c := #[.int .i64 0, .int .i64 0, .int .i64 0, .int .i64 0]) hS tz_153 rfl) ?_
      rintro _ h_13 ⟨b_5, rfl, hS, hk⟩
      replace hK := hK.trans hk
      replace hL_want := hL_want.kp hk
      refine HO.sto (want_none) rfl (st_storeAgg (c' := #[.int .i64 p_1.1.1, .int .i64 p_1.1.2.1, .int .i64 p_1.1.2.2.1, .int .i64 p_1.1.2.2.2]) hS (i := 0) rfl ta_153 rfl rfl rfl (by simp [Value.oneCell']) (Nat.le_of_ble_eq_true rfl) rfl) ?_
      rintro h_14 ⟨hS, hk⟩
      replace hS : St F_3 (Ow.box b_5 153 #[.int .i64 p_1.1.1, .int .i64 p_1.1.2.1, .int .i64 p_1.1.2.2.1, .int .i64 p_1.1.2.2.2] :: Ow.box ba 151 #[.map (some ra_seen), va_twice, .int .i64 a_all] :: Ow.cur it_1 ra_seen (fun (x : Int × Int × Int × Int) => .agg #[.int .i64 x.1, .int .i64 x.2.1, .int .i64 x.2.2.1, .int .i64 x.2.2.2]) kI a_seen rem_2 p_1 :: Ow.own 112 5 e_api_Given va_twice a_twice :: Ow.box b_1 100 #[.int .i64 but.1, .int .i64 but.2] :: Ow.own 100 2 e_api_Spot vlacks_1 lacks_1 :: Ow.own 100 2 e_api_Spot vmore_1 more_1 :: fr) h_14 := hS
      replace hK := hK.trans hk
      replace hL_want := hL_want.kp hk
      refine HO.nil (thenQ_normal (?_))
      refine HW.seq_mid (fun f h => ∃ (F' : Fz) (rem_3 : List ((Int × Int × Int × Int) × Int)) (b_6 : Bool), f 1 = .int .i64 id ∧ f 2 = .int .i64 vlan ∧ f 3 = vwant ∧ f 9 = .pointer (some ⟨b_1, 0, none⟩) ∧ f 10 = .slice none 0 0 ∧ f 11 = .slice none 0 0 ∧ f 12 = vlacks_1 ∧ f 13 = vmore_1 ∧ f 16 = .pointer (some ⟨b_5, 0, none⟩) ∧ f 49 = .pointer (some ⟨it_1, 0, none⟩) ∧ f 76 = .bool b_6 ∧ Kp F h0 F' h ∧ St F' (Ow.box ba 151 #[.map (some ra_seen), va_twice, .int .i64 a_all] :: Ow.iter it_1 ra_seen (fun (x : Int × Int × Int × Int) => .agg #[.int .i64 x.1, .int .i64 x.2.1, .int .i64 x.2.2.1, .int .i64 x.2.2.2]) kI a_seen rem_3 :: Ow.own 112 5 e_api_Given va_twice a_twice :: Ow.box b_1 100 #[.int .i64 but.1, .int .i64 but.2] :: Ow.own 100 2 e_api_Spot vlacks_1 lacks_1 :: Ow.own 100 2 e_api_Spot vmore_1 more_1 :: Ow.box b_5 153 #[.int .i64 p_1.1.1, .int .i64 p_1.1.2.1, .int .i64 p_1.1.2.2.1, .int .i64 p_1.1.2.2.2] :: fr) h ∧ (SliceF F' h 2 e_api_Spot vwant want) ∧ audit_Audit_Held_j2 more_1 K_2 p_1 rem_3 b_6) ?_ ?_
      · refine HW.region ?_
        refine HO.val (v := .pointer (some ⟨b_5, 0, none⟩)) (want_none) rfl (q_fieldAddr fa_153_0 rfl rfl) ?_
        refine HO.val (v := .int .i64 p_1.1.1) (want_none) rfl (q_load to_3 rfl (Blk.cell (hS.box 0 rfl) rfl)) ?_
        refine HO.val (v := .int .i64 id) (want_none) rfl (q_move rfl) ?_
        refine HO.val (v := .bool (decide (p_1.1.1 = id))) (want_none) rfl (q_eql rfl rfl) ?_
        refine HO.val (v := .bool (decide (p_1.1.1 = id))) (want_none) rfl (q_move rfl) ?_
        rcases Bool.eq_false_or_eq_true (decide (p_1.1.1 = id)) with c_4 | c_4
        · replace hM := hM.1 (of_decide_eq_true c_4)
          refine HO.val (v := .pointer (some ⟨b_5, 1, none⟩)) (want_by rfl rfl c_4) rfl (q_fieldAddr fa_153_1 rfl rfl) ?_
          refine HO.val (v := .int .i64 p_1.1.2.1) (want_by rfl rfl c_4) rfl (q_load to_3 rfl (Blk.cell (hS.box 0 rfl) rfl)) ?_
          refine HO.val (v := .int .i64 vlan) (want_by rfl rfl c_4) rfl (q_move rfl) ?_
          refine HO.val (v := .bool (decide (p_1.1.2.1 = vlan))) (want_by rfl rfl c_4) rfl (q_eql rfl rfl) ?_
          refine HO.val (v := .bool (decide (p_1.1.2.1 = vlan))) (want_none) rfl (q_pickK true rfl c_4 rfl) ?_
          refine HO.val (v := .bool (decide (p_1.1.2.1 = vlan))) (want_none) rfl (q_move rfl) ?_
          rcases Bool.eq_false_or_eq_true (decide (p_1.1.2.1 = vlan)) with c_5 | c_5
          · replace hM := hM.1 (of_decide_eq_true c_5)
            refine HO.val (v := .pointer (some ⟨b_5, 2, none⟩)) (want_by rfl rfl c_5) rfl (q_fieldAddr fa_153_2 rfl rfl) ?_
            refine HO.val (v := .agg #[.int .i64 p_1.1.2.2.1, .int .i64 p_1.1.2.2.2]) (want_by rfl rfl c_5) rfl (q_loadAgg (cs := [.int .i64 p_1.1.2.2.1, .int .i64 p_1.1.2.2.2]) ta_100 rfl rfl (Blk.cells (k := 2) (hS.box 0 rfl) rfl)) ?_
            refine HO.val (v := .agg #[.int .i64 but.1, .int .i64 but.2]) (want_by rfl rfl c_5) rfl (q_loadAgg (cs := [.int .i64 but.1, .int .i64 but.2]) ta_100 rfl rfl (Blk.cells (k := 2) (hS.box 4 rfl) rfl)) ?_
            refine HO.val (v := .bool (decide ((p_1.1.2.2 : Int × Int) = but))) (want_by rfl rfl c_5) rfl (q_eqlAgg (a := p_1.1.2.2) (b := but) (fun a b w => teq_100 9998 a b w) (by kernel_rfl) rfl rfl rfl rfl) ?_
            refine HO.val (v := .bool (decide ((p_1.1.2.2 : Int × Int) = but))) (want_by rfl rfl c_5) rfl (q_move rfl) ?_
            rcases Bool.eq_false_or_eq_true (decide ((p_1.1.2.2 : Int × Int) = but)) with c_6 | c_6
            · replace hM := hM.1 (of_decide_eq_true c_6)
              refine HO.past (past_by rfl rfl c_6) rfl ?_
              refine HO.past (past_by rfl rfl c_6) rfl ?_
              refine HO.past (past_by rfl rfl c_6) rfl ?_
              refine HO.past (past_by rfl rfl c_6) rfl ?_
              refine HO.past (past_by rfl rfl c_6) rfl ?_
              refine HO.val (v := .bool true) (want_by rfl rfl c_5) rfl (q_pickK true rfl c_6 rfl) ?_
              refine HO.val (v := .bool true) (want_none) rfl (q_pickK true rfl c_5 rfl) ?_
              refine HO.nil (thenQ_normal (?_))
              replace hS := hS.again 2 rfl
              replace hS : St F_3 (Ow.box b_5 153 #[.int .i64 p_1.1.1, .int .i64 p_1.1.2.1, .int .i64 p_1.1.2.2.1, .int .i64 p_1.1.2.2.2] :: Ow.box ba 151 #[.map (some ra_seen), va_twice, .int .i64 a_all] :: Ow.iter it_1 ra_seen (fun (x : Int × Int × Int × Int) => .agg #[.int .i64 x.1, .int .i64 x.2.1, .int .i64 x.2.2.1, .int .i64 x.2.2.2]) kI a_seen rem_2 :: Ow.own 112 5 e_api_Given va_twice a_twice :: Ow.box b_1 100 #[.int .i64 but.1, .int .i64 but.2] :: Ow.own 100 2 e_api_Spot vlacks_1 lacks_1 :: Ow.own 100 2 e_api_Spot vmore_1 more_1 :: fr) h_14 := hS
              replace hS : St F_3 (Ow.box ba 151 #[.map (some ra_seen), va_twice, .int .i64 a_all] :: Ow.iter it_1 ra_seen (fun (x : Int × Int × Int × Int) => .agg #[.int .i64 x.1, .int .i64 x.2.1, .int .i64 x.2.2.1, .int .i64 x.2.2.2]) kI a_seen rem_2 :: Ow.own 112 5 e_api_Given va_twice a_twice :: Ow.box b_1 100 #[.int .i64 but.1, .int .i64 but.2] :: Ow.own 100 2 e_api_Spot vlacks_1 lacks_1 :: Ow.own 100 2 e_api_Spot vmore_1 more_1 :: Ow.box b_5 153 #[.int .i64 p_1.1.1, .int .i64 p_1.1.2.1, .int .i64 p_1.1.2.2.1, .int .i64 p_1.1.2.2.2] :: fr) h_14 := St.perm (front := [Ow.box b_5 153 #[.int .i64 p_1.1.1, .int .i64 p_1.1.2.1, .int .i64 p_1.1.2.2.1, .int .i64 p_1.1.2.2.2], Ow.box ba 151 #[.map (some ra_seen), va_twice, .int .i64 a_all], Ow.iter it_1 ra_seen (fun (x : Int × Int × Int × Int) => .agg #[.int .i64 x.1, .int .i64 x.2.1, .int .i64 x.2.2.1, .int .i64 x.2.2.2]) kI a_seen rem_2, Ow.own 112 5 e_api_Given va_twice a_twice, Ow.box b_1 100 #[.int .i64 but.1, .int .i64 but.2], Ow.own 100 2 e_api_Spot vlacks_1 lacks_1, Ow.own 100 2 e_api_Spot vmore_1 more_1]) (fr := fr) hS [1, 2, 3, 4, 5, 6, 0] 7 rfl (by decide) [Ow.box ba 151 #[.map (some ra_seen), va_twice, .int .i64 a_all], Ow.iter it_1 ra_seen (fun (x : Int × Int × Int × Int) => .agg #[.int .i64 x.1, .int .i64 x.2.1, .int .i64 x.2.2.1, .int .i64 x.2.2.2]) kI a_seen rem_2, Ow.own 112 5 e_api_Given va_twice a_twice, Ow.box b_1 100 #[.int .i64 but.1, .int .i64 but.2], Ow.own 100 2 e_api_Spot vlacks_1 lacks_1, Ow.own 100 2 e_api_Spot vmore_1 more_1, Ow.box b_5 153 #[.int .i64 p_1.1.1, .int .i64 p_1.1.2.1, .int .i64 p_1.1.2.2.1, .int .i64 p_1.1.2.2.2]] rfl
              exact ⟨F_3, rem_2, true, rfl, rfl, rfl, rfl, rfl, rfl, rfl, rfl, rfl, rfl, rfl, hK, hS, hL_want, hM⟩
            · replace hM := hM.2 (of_decide_eq_false c_6)
              refine HO.val (v := vwant) (want_by rfl rfl c_6) rfl (q_move rfl) ?_
              refine HO.val (v := .pointer (some ⟨b_5, 2, none⟩)) (want_by rfl rfl c_6) rfl (q_fieldAddr fa_153_2 rfl rfl) ?_
              refine HO.val (v := .agg #[.int .i64 p_1.1.2.2.1, .int .i64 p_1.1.2.2.2]) (want_by rfl rfl c_6) rfl (q_loadAgg (cs := [.int .i64 p_1.1.2.2.1, .int .i64 p_1.1.2.2.2]) ta_100 rfl rfl (Blk.cells (k := 2) (hS.box 0 rfl) rfl)) ?_
              refine HO.call (want_by rfl rfl c_6) rfl (ec en_113 rfl rfl) (slices_Contains_s_api_Spot_api_Spot_walk (fr := (Ow.box b_5 153 #[.int .i64 p_1.1.1, .int .i64 p_1.1.2.1, .int .i64 p_1.1.2.2.1, .int .i64 p_1.1.2.2.2] :: Ow.box ba 151 #[.map (some ra_seen), va_twice, .int .i64 a_all] :: Ow.cur it_1 ra_seen (fun (x : Int × Int × Int × Int) => .agg #[.int .i64 x.1, .int .i64 x.2.1, .int .i64 x.2.2.1, .int .i64 x.2.2.2]) kI a_seen rem_2 p_1 :: Ow.own 112 5 e_api_Given va_twice a_twice :: Ow.box b_1 100 #[.int .i64 but.1, .int .i64 but.2] :: Ow.own 100 2 e_api_Spot vlacks_1 lacks_1 :: Ow.own 100 2 e_api_Spot vmore_1 more_1 :: fr)) want p_1.1.2.2 vwant hS hL_want hM) ?_
              rintro _ h_15 ⟨F_6, r_3, rfl, hk, hS, _, hM⟩
              replace hK := hK.trans hk
              replace hL_want := hL_want.kp hk
              refine HO.val (v := .bool (!r_3)) (want_by rfl rfl c_6) rfl (q_not rfl) ?_
              refine HO.val (v := .bool (!r_3)) (want_by rfl rfl c_5) rfl (q_pickK false rfl c_6 rfl) ?_
              refine HO.val (v := .bool (!r_3)) (want_none) rfl (q_pickK true rfl c_5 rfl) ?_
              refine HO.nil (thenQ_normal (?_))
              replace hS := hS.again 2 rfl
              replace hS : St F_6 (Ow.box b_5 153 #[.int .i64 p_1.1.1, .int .i64 p_1.1.2.1, .int .i64 p_1.1.2.2.1, .int .i64 p_1.1.2.2.2] :: Ow.box ba 151 #[.map (some ra_seen), va_twice, .int .i64 a_all] :: Ow.iter it_1 ra_seen (fun (x : Int × Int × Int × Int) => .agg #[.int .i64 x.1, .int .i64 x.2.1, .int .i64 x.2.2.1, .int .i64 x.2.2.2]) kI a_seen rem_2 :: Ow.own 112 5 e_api_Given va_twice a_twice :: Ow.box b_1 100 #[.int .i64 but.1, .int .i64 but.2] :: Ow.own 100 2 e_api_Spot vlacks_1 lacks_1 :: Ow.own 100 2 e_api_Spot vmore_1 more_1 :: fr) h_15 := hS
              replace hS : St F_6 (Ow.box ba 151 #[.map (some ra_seen), va_twice, .int .i64 a_all] :: Ow.iter it_1 ra_seen (fun (x : Int × Int × Int × Int) => .agg #[.int .i64 x.1, .int .i64 x.2.1, .int .i64 x.2.2.1, .int .i64 x.2.2.2]) kI a_seen rem_2 :: Ow.own 112 5 e_api_Given va_twice a_twice :: Ow.box b_1 100 #[.int .i64 but.1, .int .i64 but.2] :: Ow.own 100 2 e_api_Spot vlacks_1 lacks_1 :: Ow.own 100 2 e_api_Spot vmore_1 more_1 :: Ow.box b_5 153 #[.int .i64 p_1.1.1, .int .i64 p_1.1.2.1, .int .i64 p_1.1.2.2.1, .int .i64 p_1.1.2.2.2] :: fr) h_15 := St.perm (front := [Ow.box b_5 153 #[.int .i64 p_1.1.1, .int .i64 p_1.1.2.1, .int .i64 p_1.1.2.2.1, .int .i64 p_1.1.2.2.2], Ow.box ba 151 #[.map (some ra_seen), va_twice, .int .i64 a_all], Ow.iter it_1 ra_seen (fun (x : Int × Int × Int × Int) => .agg #[.int .i64 x.1, .int .i64 x.2.1, .int .i64 x.2.2.1, .int .i64 x.2.2.2]) kI a_seen rem_2, Ow.own 112 5 e_api_Given va_twice a_twice, Ow.box b_1 100 #[.int .i64 but.1, .int .i64 but.2], Ow.own 100 2 e_api_Spot vlacks_1 lacks_1, Ow.own 100 2 e_api_Spot vmore_1 more_1]) (fr := fr) hS [1, 2, 3, 4, 5, 6, 0] 7 rfl (by decide) [Ow.box ba 151 #[.map (some ra_seen), va_twice, .int .i64 a_all], Ow.iter it_1 ra_seen (fun (x : Int × Int × Int × Int) => .agg #[.int .i64 x.1, .int .i64 x.2.1, .int .i64 x.2.2.1, .int .i64 x.2.2.2]) kI a_seen rem_2, Ow.own 112 5 e_api_Given va_twice a_twice, Ow.box b_1 100 #[.int .i64 but.1, .int .i64 but.2], Ow.own 100 2 e_api_Spot vlacks_1 lacks_1, Ow.own 100 2 e_api_Spot vmore_1 more_1, Ow.box b_5 153 #[.int .i64 p_1.1.1, .int .i64 p_1.1.2.1, .int .i64 p_1.1.2.2.1, .int .i64 p_1.1.2.2.2]] rfl
              exact ⟨F_6, rem_2, !r_3, rfl, rfl, rfl, rfl, rfl, rfl, rfl, rfl, rfl, rfl, rfl, hK, hS, hL_want, hM⟩
          · replace hM := hM.2 (of_decide_eq_false c_5)
            refine HO.past (past_by rfl rfl c_5) rfl ?_
            refine HO.past (past_by rfl rfl c_5) rfl ?_
            refine HO.past (past_by rfl rfl c_5) rfl ?_
            refine HO.past (past_by rfl rfl c_5) rfl ?_
            refine HO.past (past_by rfl rfl c_5) rfl ?_
            refine HO.past (past_undef rfl rfl) rfl ?_
            refine HO.past (past_undef rfl rfl) rfl ?_
            refine HO.past (past_undef rfl rfl) rfl ?_
            refine HO.past (past_undef rfl rfl) rfl ?_
            refine HO.past (past_undef rfl rfl) rfl ?_
            refine HO.past (past_by rfl rfl c_5) rfl ?_
            refine HO.val (v := .bool false) (want_none) rfl (q_pickK false rfl c_5 rfl) ?_
            refine HO.nil (thenQ_normal (?_))
            replace hS := hS.again 2 rfl
            replace hS : St F_3 (Ow.box b_5 153 #[.int .i64 p_1.1.1, .int .i64 p_1.1.2.1, .int .i64 p_1.1.2.2.1, .int .i64 p_1.1.2.2.2] :: Ow.box ba 151 #[.map (some ra_seen), va_twice, .int .i64 a_all] :: Ow.iter it_1 ra_seen (fun (x : Int × Int × Int × Int) => .agg #[.int .i64 x.1, .int .i64 x.2.1, .int .i64 x.2.2.1, .int .i64 x.2.2.2]) kI a_seen rem_2 :: Ow.own 112 5 e_api_Given va_twice a_twice :: Ow.box b_1 100 #[.int .i64 but.1, .int .i64 but.2] :: Ow.own 100 2 e_api_Spot vlacks_1 lacks_1 :: Ow.own 100 2 e_api_Spot vmore_1 more_1 :: fr) h_14 := hS
            replace hS : St F_3 (Ow.box ba 151 #[.map (some ra_seen), va_twice, .int .i64 a_all] :: Ow.iter it_1 ra_seen (fun (x : Int × Int × Int × Int) => .agg #[.int .i64 x.1, .int .i64 x.2.1, .int .i64 x.2.2.1, .int .i64 x.2.2.2]) kI a_seen rem_2 :: Ow.own 112 5 e_api_Given va_twice a_twice :: Ow.box b_1 100 #[.int .i64 but.1, .int .i64 but.2] :: Ow.own 100 2 e_api_Spot vlacks_1 lacks_1 :: Ow.own 100 2 e_api_Spot vmore_1 more_1 :: Ow.box b_5 153 #[.int .i64 p_1.1.1, .int .i64 p_1.1.2.1, .int .i64 p_1.1.2.2.1, .int .i64 p_1.1.2.2.2] :: fr) h_14 := St.perm (front := [Ow.box b_5 153 #[.int .i64 p_1.1.1, .int .i64 p_1.1.2.1, .int .i64 p_1.1.2.2.1, .int .i64 p_1.1.2.2.2], Ow.box ba 151 #[.map (some ra_seen), va_twice, .int .i64 a_all], Ow.iter it_1 ra_seen (fun (x : Int × Int × Int × Int) => .agg #[.int .i64 x.1, .int .i64 x.2.1, .int .i64 x.2.2.1, .int .i64 x.2.2.2]) kI a_seen rem_2, Ow.own 112 5 e_api_Given va_twice a_twice, Ow.box b_1 100 #[.int .i64 but.1, .int .i64 but.2], Ow.own 100 2 e_api_Spot vlacks_1 lacks_1, Ow.own 100 2 e_api_Spot vmore_1 more_1]) (fr := fr) hS [1, 2, 3, 4, 5, 6, 0] 7 rfl (by decide) [Ow.box ba 151 #[.map (some ra_seen), va_twice, .int .i64 a_all], Ow.iter it_1 ra_seen (fun (x : Int × Int × Int × Int) => .agg #[.int .i64 x.1, .int .i64 x.2.1, .int .i64 x.2.2.1, .int .i64 x.2.2.2]) kI a_seen rem_2, Ow.own 112 5 e_api_Given va_twice a_twice, Ow.box b_1 100 #[.int .i64 but.1, .int .i64 but.2], Ow.own 100 2 e_api_Spot vlacks_1 lacks_1, Ow.own 100 2 e_api_Spot vmore_1 more_1, Ow.box b_5 153 #[.int .i64 p_1.1.1, .int .i64 p_1.1.2.1, .int .i64 p_1.1.2.2.1, .int .i64 p_1.1.2.2.2]] rfl
            exact ⟨F_3, rem_2, false, rfl, rfl, rfl, rfl, rfl, rfl, rfl, rfl, rfl, rfl, rfl, hK, hS, hL_want, hM⟩
        · replace hM := hM.2 (of_decide_eq_false c_4)
          refine HO.past (past_by rfl rfl c_4) rfl ?_
          refine HO.past (past_by rfl rfl c_4) rfl ?_
          refine HO.past (past_by rfl rfl c_4) rfl ?_
          refine HO.past (past_by rfl rfl c_4) rfl ?_
          refine HO.val (v := .bool false) (want_none) rfl (q_pickK false rfl c_4 rfl) ?_
          refine HO.val (v := .bool false) (want_none) rfl (q_move rfl) ?_
          refine HO.past (past_some rfl rfl) rfl ?_
          refine HO.past (past_some rfl rfl) rfl ?_
          refine HO.past (past_some rfl rfl) rfl ?_
          refine HO.past (past_some rfl rfl) rfl ?_
          refine HO.past (past_some rfl rfl) rfl ?_
          refine HO.past (past_undef rfl rfl) rfl ?_
          refine HO.past (past_undef rfl rfl) rfl ?_
          refine HO.past (past_undef rfl rfl) rfl ?_
          refine HO.past (past_undef rfl rfl) rfl ?_
          refine HO.past (past_undef rfl rfl) rfl ?_
          refine HO.past (past_some rfl rfl) rfl ?_
          refine HO.val (v := .bool false) (want_none) rfl (q_pick rfl rfl) ?_
          refine HO.nil (thenQ_normal (?_))
          replace hS := hS.again 2 rfl
          replace hS : St F_3 (Ow.box b_5 153 #[.int .i64 p_1.1.1, .int .i64 p_1.1.2.1, .int .i64 p_1.1.2.2.1, .int .i64 p_1.1.2.2.2] :: Ow.box ba 151 #[.map (some ra_seen), va_twice, .int .i64 a_all] :: Ow.iter it_1 ra_seen (fun (x : Int × Int × Int × Int) => .agg #[.int .i64 x.1, .int .i64 x.2.1, .int .i64 x.2.2.1, .int .i64 x.2.2.2]) kI a_seen rem_2 :: Ow.own 112 5 e_api_Given va_twice a_twice :: Ow.box b_1 100 #[.int .i64 but.1, .int .i64 but.2] :: Ow.own 100 2 e_api_Spot vlacks_1 lacks_1 :: Ow.own 100 2 e_api_Spot vmore_1 more_1 :: fr) h_14 := hS
          replace hS : St F_3 (Ow.box ba 151 #[.map (some ra_seen), va_twice, .int .i64 a_all] :: Ow.iter it_1 ra_seen (fun (x : Int × Int × Int × Int) => .agg #[.int .i64 x.1, .int .i64 x.2.1, .int .i64 x.2.2.1, .int .i64 x.2.2.2]) kI a_seen rem_2 :: Ow.own 112 5 e_api_Given va_twice a_twice :: Ow.box b_1 100 #[.int .i64 but.1, .int .i64 but.2] :: Ow.own 100 2 e_api_Spot vlacks_1 lacks_1 :: Ow.own 100 2 e_api_Spot vmore_1 more_1 :: Ow.box b_5 153 #[.int .i64 p_1.1.1, .int .i64 p_1.1.2.1, .int .i64 p_1.1.2.2.1, .int .i64 p_1.1.2.2.2] :: fr) h_14 := St.perm (front := [Ow.box b_5 153 #[.int .i64 p_1.1.1, .int .i64 p_1.1.2.1, .int .i64 p_1.1.2.2.1, .int .i64 p_1.1.2.2.2], Ow.box ba 151 #[.map (some ra_seen), va_twice, .int .i64 a_all], Ow.iter it_1 ra_seen (fun (x : Int × Int × Int × Int) => .agg #[.int .i64 x.1, .int .i64 x.2.1, .int .i64 x.2.2.1, .int .i64 x.2.2.2]) kI a_seen rem_2, Ow.own 112 5 e_api_Given va_twice a_twice, Ow.box b_1 100 #[.int .i64 but.1, .int .i64 but.2], Ow.own 100 2 e_api_Spot vlacks_1 lacks_1, Ow.own 100 2 e_api_Spot vmore_1 more_1]) (fr := fr) hS [1, 2, 3, 4, 5, 6, 0] 7 rfl (by decide) [Ow.box ba 151 #[.map (some ra_seen), va_twice, .int .i64 a_all], Ow.iter it_1 ra_seen (fun (x : Int × Int × Int × Int) => .agg #[.int .i64 x.1, .int .i64 x.2.1, .int .i64 x.2.2.1, .int .i64 x.2.2.2]) kI a_seen rem_2, Ow.own 112 5 e_api_Given va_twice a_twice, Ow.box b_1 100 #[.int .i64 but.1, .int .i64 but.2], Ow.own 100 2 e_api_Spot vlacks_1 lacks_1, Ow.own 100 2 e_api_Spot vmore_1 more_1, Ow.box b_5 153 #[.int .i64 p_1.1.1, .int .i64 p_1.1.2.1, .int .i64 p_1.1.2.2.1, .int .i64 p_1.1.2.2.2]] rfl
          exact ⟨F_3, rem_2, false, rfl, rfl, rfl, rfl, rfl, rfl, rfl, rfl, rfl, rfl, rfl, hK, hS, hL_want, hM⟩
      · rintro f_4 h_16 ⟨F_7, rem_3, b_6, e1, e2, e3, e9, e10, e11, e12, e13, e16, e49, e76, hK, hS, hL_want, hM⟩
        unfold audit_Audit_Held_j2 at hM
        refine HW.fr [(1, .int .i64 id), (2, .int .i64 vlan), (3, vwant), (9, .pointer (some ⟨b_1, 0, none⟩)), (10, .slice none 0 0), (11, .slice none 0 0), (12, vlacks_1), (13, vmore_1), (16, .pointer (some ⟨b_5, 0, none⟩)), (49, .pointer (some ⟨it_1, 0, none⟩)), (76, .bool b_6)] ⟨e1, e2, e3, e9, e10, e11, e12, e13, e16, e49, e76, trivial⟩ ?_
        refine HW.cond b_6 rfl (fun c_7 => ?_) (fun c_7 => ?_)
        · replace hM := hM.1 c_7
          refine HW.region ?_
          refine HO.val (v := vmore_1) (want_none) rfl (q_move rfl) ?_
          refine HO.val (v := .pointer (some ⟨b_5, 2, none⟩)) (want_none) rfl (q_fieldAddr fa_153_2 rfl rfl) ?_
          refine HO.val (v := .agg #[.int .i64 p_1.1.2.2.1, .int .i64 p_1.1.2.2.2]) (want_none) rfl (q_loadAgg (cs := [.int .i64 p_1.1.2.2.1, .int .i64 p_1.1.2.2.2]) ta_100 rfl rfl (Blk.cells (k := 2) (hS.box 6 rfl) rfl)) ?_
          refine HO.eff (want_none) rfl (st_lit (enc := e_api_Spot) (cells := #[.int .i64 p_1.1.2.2.1, .int .i64 p_1.1.2.2.2]) #[.int .i64 0, .int .i64 0] ([p_1.1.2.2] : List (Int × Int)) hS tl_98 (by decide) (by decide) (by kernel_rfl) (by kernel_rfl) rfl (by intro x hx; rfl) rfl) ?_
          rintro _ h_17 ⟨b_7, rfl, hS, hk⟩
          replace hK := hK.trans hk
          replace hL_want := hL_want.kp hk
          obtain ⟨ho_5, hM⟩ := hM
          refine HO.eff (want_none) rfl (st_append te_98 hS (i := 6) rfl (hS.own 0 rfl).slice rfl rfl rfl (by intro a _ u hu; simp [e_api_Spot, encI, encN, encB, encT] at hu; rcases hu with rfl | rfl <;> rfl) ho_5 (by omega)) ?_
          rintro v_3 h_18 ⟨hS, hk⟩
          replace hS : St F_7 (Ow.own 100 2 e_api_Spot (.slice (some ⟨b_7, 0, none⟩) 1 1) ([p_1.1.2.2] : List (Int × Int)) :: Ow.box ba 151 #[.map (some ra_seen), va_twice, .int .i64 a_all] :: Ow.iter it_1 ra_seen (fun (x : Int × Int × Int × Int) => .agg #[.int .i64 x.1, .int .i64 x.2.1, .int .i64 x.2.2.1, .int .i64 x.2.2.2]) kI a_seen rem_3 :: Ow.own 112 5 e_api_Given va_twice a_twice :: Ow.box b_1 100 #[.int .i64 but.1, .int .i64 but.2] :: Ow.own 100 2 e_api_Spot vlacks_1 lacks_1 :: Ow.own 100 2 e_api_Spot v_3 (more_1 ++ ([p_1.1.2.2] : List (Int × Int))) :: Ow.box b_5 153 #[.int .i64 p_1.1.1, .int .i64 p_1.1.2.1, .int .i64 p_1.1.2.2.1, .int .i64 p_1.1.2.2.2] :: fr) h_18 := hS
          replace hK := hK.trans hk
          replace hL_want := hL_want.kp hk
          refine HO.val (v := v_3) (want_none) rfl (q_assign rfl) ?_
          refine HO.nil (blockQ_normal (thenQ_normal (?_)))
          replace hS : St F_7 (Ow.box ba 151 #[.map (some ra_seen), va_twice, .int .i64 a_all] :: Ow.iter it_1 ra_seen (fun (x : Int × Int × Int × Int) => .agg #[.int .i64 x.1, .int .i64 x.2.1, .int .i64 x.2.2.1, .int .i64 x.2.2.2]) kI a_seen rem_3 :: Ow.own 112 5 e_api_Given va_twice a_twice :: Ow.box b_1 100 #[.int .i64 but.1, .int .i64 but.2] :: Ow.own 100 2 e_api_Spot vlacks_1 lacks_1 :: Ow.own 100 2 e_api_Spot v_3 (more_1 ++ ([p_1.1.2.2] : List (Int × Int))) :: fr) h_18 := St.perm (front := [Ow.own 100 2 e_api_Spot (.slice (some ⟨b_7, 0, none⟩) 1 1) ([p_1.1.2.2] : List (Int × Int)), Ow.box ba 151 #[.map (some ra_seen), va_twice, .int .i64 a_all], Ow.iter it_1 ra_seen (fun (x : Int × Int × Int × Int) => .agg #[.int .i64 x.1, .int .i64 x.2.1, .int .i64 x.2.2.1, .int .i64 x.2.2.2]) kI a_seen rem_3, Ow.own 112 5 e_api_Given va_twice a_twice, Ow.box b_1 100 #[.int .i64 but.1, .int .i64 but.2], Ow.own 100 2 e_api_Spot vlacks_1 lacks_1, Ow.own 100 2 e_api_Spot v_3 (more_1 ++ ([p_1.1.2.2] : List (Int × Int))), Ow.box b_5 153 #[.int .i64 p_1.1.1, .int .i64 p_1.1.2.1, .int .i64 p_1.1.2.2.1, .int .i64 p_1.1.2.2.2]]) (fr := fr) hS [1, 2, 3, 4, 5, 6] 8 rfl (by decide) [Ow.box ba 151 #[.map (some ra_seen), va_twice, .int .i64 a_all], Ow.iter it_1 ra_seen (fun (x : Int × Int × Int × Int) => .agg #[.int .i64 x.1, .int .i64 x.2.1, .int .i64 x.2.2.1, .int .i64 x.2.2.2]) kI a_seen rem_3, Ow.own 112 5 e_api_Given va_twice a_twice, Ow.box b_1 100 #[.int .i64 but.1, .int .i64 but.2], Ow.own 100 2 e_api_Spot vlacks_1 lacks_1, Ow.own 100 2 e_api_Spot v_3 (more_1 ++ ([p_1.1.2.2] : List (Int × Int)))] rfl
          rw [hKe_2] at hM
          exact ⟨(rem_3, more_1 ++ ([p_1.1.2.2] : List (Int × Int))), ⟨F_7, v_3, rfl, rfl, rfl, rfl, rfl, rfl, rfl, rfl, rfl, hK, hS, hL_want, hM.1⟩, hM.2⟩
        · replace hM := hM.2 c_7
          refine HW.skip (blockQ_normal (thenQ_normal (?_)))
          replace hS : St F_7 (Ow.box ba 151 #[.map (some ra_seen), va_twice, .int .i64 a_all] :: Ow.iter it_1 ra_seen (fun (x : Int × Int × Int × Int) => .agg #[.int .i64 x.1, .int .i64 x.2.1, .int .i64 x.2.2.1, .int .i64 x.2.2.2]) kI a_seen rem_3 :: Ow.own 112 5 e_api_Given va_twice a_twice :: Ow.box b_1 100 #[.int .i64 but.1, .int .i64 but.2] :: Ow.own 100 2 e_api_Spot vlacks_1 lacks_1 :: Ow.own 100 2 e_api_Spot vmore_1 more_1 :: fr) h_16 := St.perm (front := [Ow.box ba 151 #[.map (some ra_seen), va_twice, .int .i64 a_all], Ow.iter it_1 ra_seen (fun (x : Int × Int × Int × Int) => .agg #[.int .i64 x.1, .int .i64 x.2.1, .int .i64 x.2.2.1, .int .i64 x.2.2.2]) kI a_seen rem_3, Ow.own 112 5 e_api_Given va_twice a_twice, Ow.box b_1 100 #[.int .i64 but.1, .int .i64 but.2], Ow.own 100 2 e_api_Spot vlacks_1 lacks_1, Ow.own 100 2 e_api_Spot vmore_1 more_1, Ow.box b_5 153 #[.int .i64 p_1.1.1, .int .i64 p_1.1.2.1, .int .i64 p_1.1.2.2.1, .int .i64 p_1.1.2.2.2]]) (fr := fr) hS [0, 1, 2, 3, 4, 5] 7 rfl (by decide) [Ow.box ba 151 #[.map (some ra_seen), va_twice, .int .i64 a_all], Ow.iter it_1 ra_seen (fun (x : Int × Int × Int × Int) => .agg #[.int .i64 x.1, .int .i64 x.2.1, .int .i64 x.2.2.1, .int .i64 x.2.2.2]) kI a_seen rem_3, Ow.own 112 5 e_api_Given va_twice a_twice, Ow.box b_1 100 #[.int .i64 but.1, .int .i64 but.2], Ow.own 100 2 e_api_Spot vlacks_1 lacks_1, Ow.own 100 2 e_api_Spot vmore_1 more_1] rfl
          rw [hKe_2] at hM
          exact ⟨(rem_3, more_1), ⟨F_7, vmore_1, rfl, rfl, rfl, rfl, rfl, rfl, rfl, rfl, rfl, hK, hS, hL_want, hM.1⟩, hM.2⟩

def law01_Cut_W (s1 : Str) (most : Int) (Q : Str → Prop) : Prop :=
  (most < (s1.length : Int) → ((0 : Int) ≤ most ∧ most ≤ (s1.length : Int)) ∧ (Q (cut s1 0 most))) ∧ (¬ (most < (s1.length : Int)) → Q s1)
set_option maxHeartbeats 40000000 in
set_option maxRecDepth 100000 in
theorem law01_Cut_walk {F : Fz} {fr : List Ow} {h0 : Heap} (s1 : Str) (most : Int) (hS : St F (fr) h0)  {Q : Str → Prop} (hM : law01_Cut_W s1 most Q) :
    HC Try.prog 33 #[.string (bs s1), .int .i64 most] h0 fun u h' => ∃ (F' : Fz) (r_1 : Str), u = .string (bs r_1) ∧ Kp F h0 F' h' ∧ St F' (fr) h' ∧ Q r_1 := by
  unfold law01_Cut_W at hM
  have hK := Kp.refl F h0
  refine HC.of_HW (n := 13) Try.func33 rfl rfl (Nat.le_of_ble_eq_true rfl) ?_
  refine HW.seq ?_
  refine HW.region ?_
  refine HO.val (v := .string (bs [])) (want_none) rfl (q_assign rfl) ?_
  refine HO.nil (thenQ_normal (?_))
  refine HW.seq ?_
  refine HW.seq ?_
  refine HW.region ?_
  refine HO.val (v := .string (bs s1)) (want_none) rfl (q_move rfl) ?_
  refine HO.val (v := .int .i64 (s1.length : Int)) (want_none) rfl (q_lenT Try.underlying9 rfl rfl) ?_
  refine HO.val (v := .int .i64 most) (want_none) rfl (q_move rfl) ?_
  refine HO.val (v := .bool (decide (most < (s1.length : Int)))) (want_none) rfl (q_gtr rfl rfl) ?_
  refine HO.nil (thenQ_normal (?_))
  refine HW.cond (decide (most < (s1.length : Int))) rfl (fun c_1 => ?_) (fun c_1 => ?_)
  · replace hM := hM.1 (of_decide_eq_true c_1)
    refine HW.seq ?_
    refine HW.region ?_
    refine HO.val (v := .string (bs s1)) (want_none) rfl (q_move rfl) ?_
    refine HO.val (v := .int .i64 most) (want_none) rfl (q_move rfl) ?_
    obtain ⟨ho_1, hM⟩ := hM
    refine HO.val (v := .string (bs (cut s1 0 most))) (want_none) rfl (q_strH Try.underlying9 rfl rfl ho_1) ?_
    refine HO.val (v := .string (bs (cut s1 0 most))) (want_none) rfl (q_assign rfl) ?_
    refine HO.nil (thenQ_normal (?_))
    refine HW.ret (thenQ_ret (?_))
    refine ⟨.inr rfl, .string (bs (cut s1 0 most)), res1 rfl (rt rfl), ?_⟩
    exact ⟨F, cut s1 0 most, rfl, hK, hS, hM⟩
  · replace hM := hM.2 (of_decide_eq_false c_1)
    refine HW.skip (thenQ_normal (?_))
    refine HW.seq ?_
    refine HW.region ?_
    refine HO.val (v := .string (bs s1)) (want_none) rfl (q_move rfl) ?_
    refine HO.val (v := .string (bs s1)) (want_none) rfl (q_assign rfl) ?_
    refine HO.nil (thenQ_normal (?_))
    refine HW.ret (?_)
    refine ⟨.inr rfl, .string (bs s1), res1 rfl (rt rfl), ?_⟩
    exact ⟨F, s1, rfl, hK, hS, hM⟩

def law44_few_j1 (l : List (Int × Int × Int × Int × Str)) (Q : (List (Int × Int × Int × Int × Str)) → Prop) (out_1 : List (Int × Int × Int × Int × Str)) (i_1 : Int) (K_1 : (List (Int × Int × Int × Int × Str)) → Int → Prop) (b_2 : Bool) : Prop :=
  (b_2 = true → ((0 : Int) ≤ i_1 ∧ i_1 < (l.length : Int)) ∧ (law01_Cut_W ((gi l i_1).2.2.2.2) 8 (fun r_2 => ((out_1.length + ([((gi l i_1).1, (gi l i_1).2.1, (gi l i_1).2.2.1, (gi l i_1).2.2.2.1, r_2)] : List (Int × Int × Int × Int × Str)).length) * 48 ≤ 140737488355328) ∧ ((I64 (i_1 + 1)) ∧ (K_1 (out_1 ++ ([((gi l i_1).1, (gi l i_1).2.1, (gi l i_1).2.2.1, (gi l i_1).2.2.2.1, r_2)] : List (Int × Int × Int × Int × Str))) (i_1 + 1)))))) ∧ (b_2 = false → Q out_1)
def law44_few_l1 (l : List (Int × Int × Int × Int × Str)) (Q : (List (Int × Int × Int × Int × Str)) → Prop) (K_1 : (List (Int × Int × Int × Int × Str)) → Int → Prop) (out_1 : List (Int × Int × Int × Int × Str)) (i_1 : Int) : Prop :=
  (i_1 < (l.length : Int) → law44_few_j1 l Q out_1 i_1 K_1 (decide (i_1 < 12))) ∧ (¬ (i_1 < (l.length : Int)) → law44_few_j1 l Q out_1 i_1 K_1 false)
def law44_few_W (l : List (Int × Int × Int × Int × Str)) (Q : (List (Int × Int × Int × Int × Str)) → Prop) : Prop :=
  loopW (fun (K_1 : ((List (Int × Int × Int × Int × Str)) × Int) → Prop) (s : (List (Int × Int × Int × Int × Str)) × Int) => law44_few_l1 l Q (fun out_1 i_1 => K_1 (out_1, i_1)) s.1 s.2) ([], 0)
set_option maxHeartbeats 40000000 in
set_option maxRecDepth 100000 in
theorem law44_few_walk {F : Fz} {fr : List Ow} {h0 : Heap} (l : List (Int × Int × Int × Int × Str)) (vl : Value) (hS : St F (fr) h0) (hL_l : SliceF F h0 5 e_api_Given vl l) {Q : (List (Int × Int × Int × Int × Str)) → Prop} (hM : law44_few_W l Q) :
    HC Try.prog 73 #[vl] h0 fun u h' => ∃ (F' : Fz) (r_1 : List (Int × Int × Int × Int × Str)) (vr_1 : Value), u = vr_1 ∧ Kp F h0 F' h' ∧ St F' (Ow.own 112 5 e_api_Given vr_1 r_1 :: fr) h' ∧ (SliceF F' h' 5 e_api_Given vl l) ∧ Q r_1 := by
  unfold law44_few_W at hM
  have hK := Kp.refl F h0
  refine HC.of_HW (n := 30) Try.func73 rfl rfl (Nat.le_of_ble_eq_true rfl) ?_
  refine HW.seq ?_
  refine HW.region ?_
  refine HO.val (v := .slice none 0 0) (want_none) rfl (q_assign rfl) ?_
  refine HO.nil (thenQ_normal (?_))
  refine HW.seq ?_
  refine HW.region ?_
  refine HO.eff (want_none) rfl (st_litEmpty (α := Int × Int × Int × Int × Str) e_api_Given hS tl_97) ?_
  rintro _ h_1 ⟨b_1, rfl, hS, hk⟩
  replace hK := hK.trans hk
  replace hL_l := hL_l.kp hk
  refine HO.val (v := .slice (some ⟨b_1, 0, none⟩) 0 0) (want_none) rfl (q_assign rfl) ?_
  refine HO.nil (thenQ_normal (?_))
  refine HW.seq ?_
  refine HW.seq ?_
  refine HW.region ?_
  refine HO.val (v := .int .i64 0) (want_none) rfl (q_assign rfl) ?_
  refine HO.nil (thenQ_normal (?_))
  refine HW.block ?_
  obtain ⟨I_1, m_1, hI_1, hR_1⟩ := hM
  refine HW.loop (S := (List (Int × Int × Int × Int × Str)) × Int) (fun s f h => match s with | (out_1, i_1) => ∃ (F' : Fz) (vout_1 : Value), f 0 = vl ∧ f 2 = .slice none 0 0 ∧ f 3 = vout_1 ∧ f 4 = .int .i64 i_1 ∧ Kp F h0 F' h ∧ St F' (Ow.own 112 5 e_api_Given vout_1 out_1 :: fr) h ∧ (SliceF F' h 5 e_api_Given vl l) ∧ I_1 (out_1, i_1)) m_1 ([], 0) ⟨F, .slice (some ⟨b_1, 0, none⟩) 0 0, rfl, rfl, rfl, rfl, hK, hS, hL_l, hI_1⟩ ?_
  rintro ⟨out_1, i_1⟩ f_1 h_2 ⟨F_1, vout_1, e0, e2, e3, e4, hK, hS, hL_l, hI0⟩
  obtain ⟨K_1, hKe_1⟩ : ∃ K : (List (Int × Int × Int × Int × Str)) → Int → Prop, K = fun out_1' i_1' => I_1 (out_1', i_1') ∧ m_1 (out_1', i_1') < m_1 (out_1, i_1) := ⟨_, rfl⟩
  have hM : law44_few_l1 l Q K_1 out_1 i_1 := by rw [hKe_1]; exact hR_1 (out_1, i_1) hI0
  unfold law44_few_l1 at hM
  refine HW.fr [(0, vl), (2, .slice none 0 0), (3, vout_1), (4, .int .i64 i_1)] ⟨e0, e2, e3, e4, trivial⟩ ?_
  refine HW.seq ?_
  refine HW.seq_mid (fun f h => ∃ (F' : Fz) (b_2 : Bool), f 0 = vl ∧ f 2 = .slice none 0 0 ∧ f 3 = vout_1 ∧ f 4 = .int .i64 i_1 ∧ f 14 = .bool b_2 ∧ Kp F h0 F' h ∧ St F' (Ow.own 112 5 e_api_Given vout_1 out_1 :: fr) h ∧ (SliceF F' h 5 e_api_Given vl l) ∧ law44_few_j1 l Q out_1 i_1 K_1 b_2) ?_ ?_
  · refine HW.region ?_
    refine HO.val (v := .int .i64 i_1) (want_none) rfl (q_move rfl) ?_
    refine HO.val (v := vl) (want_none) rfl (q_move rfl) ?_
    refine HO.val (v := .int .i64 (l.length : Int)) (want_none) rfl (q_len ts_97 (shp hL_l.is) rfl rfl) ?_
    refine HO.val (v := .bool (decide (i_1 < (l.length : Int)))) (want_none) rfl (q_lss rfl rfl) ?_
    refine HO.val (v := .bool (decide (i_1 < (l.length : Int)))) (want_none) rfl (q_move rfl) ?_
    rcases Bool.eq_false_or_eq_true (decide (i_1 < (l.length : Int))) with c_1 | c_1
    · replace hM := hM.1 (of_decide_eq_true c_1)
      refine HO.val (v := .int .i64 i_1) (want_by rfl rfl c_1) rfl (q_move rfl) ?_
      refine HO.val (v := .bool (decide (i_1 < 12))) (want_by rfl rfl c_1) rfl (q_lss rfl rfl) ?_
      refine HO.val (v := .bool (decide (i_1 < 12))) (want_none) rfl (q_pickK true rfl c_1 rfl) ?_
      refine HO.nil (thenQ_normal (?_))
      exact ⟨F_1, decide (i_1 < 12), rfl, rfl, rfl, rfl, rfl, hK, hS, hL_l, hM⟩
    · replace hM := hM.2 (of_decide_eq_false c_1)
      refine HO.past (past_by rfl rfl c_1) rfl ?_
      refine HO.past (past_by rfl rfl c_1) rfl ?_
      refine HO.val (v := .bool false) (want_none) rfl (q_pickK false rfl c_1 rfl) ?_
      refine HO.nil (thenQ_normal (?_))
      exact ⟨F_1, false, rfl, rfl, rfl, rfl, rfl, hK, hS, hL_l, hM⟩
  · rintro f_2 h_3 ⟨F_2, b_2, e0, e2, e3, e4, e14, hK, hS, hL_l, hM⟩
    unfold law44_few_j1 at hM
    refine HW.fr [(0, vl), (2, .slice none 0 0), (3, vout_1), (4, .int .i64 i_1), (14, .bool b_2)] ⟨e0, e2, e3, e4, e14, trivial⟩ ?_
    refine HW.cond b_2 rfl (fun c_2 => ?_) (fun c_2 => ?_)
    · replace hM := hM.1 c_2
      refine HW.skip (thenQ_normal (?_))
      refine HW.seq ?_
      refine HW.block ?_
      refine HW.seq ?_
      refine HW.region ?_
      refine HO.val (v := vl) (want_none) rfl (q_move rfl) ?_
      refine HO.val (v := .int .i64 i_1) (want_none) rfl (q_move rfl) ?_
      obtain ⟨ho_1, hM⟩ := hM
      refine HO.val (v := elemPtr 5 vl (i_1).toNat) (want_none) rfl (q_idx ts_97 hL_l.is rfl rfl ho_1) ?_
      refine HO.val (v := .agg #[.int .i64 ((gi l i_1).1), .int .i64 ((gi l i_1).2.1), .int .i64 ((gi l i_1).2.2.1), .int .i64 ((gi l i_1).2.2.2.1), .string (bs ((gi l i_1).2.2.2.2))]) (want_none) rfl (q_ldElemAgg (cs := [.int .i64 ((gi l i_1).1), .int .i64 ((gi l i_1).2.1), .int .i64 ((gi l i_1).2.2.1), .int .i64 ((gi l i_1).2.2.2.1), .string (bs ((gi l i_1).2.2.2.2))]) ta_112 hL_l.is rfl ho_1 rfl) ?_
      refine HO.eff (want_none) rfl (st_alloc (c := #[.int .i64 0, .int .i64 0, .int .i64 0, .int .i64 0, .string (bs [])]) hS tz_112 rfl) ?_
      rintro _ h_4 ⟨b_3, rfl, hS, hk⟩
      replace hK := hK.trans hk
      replace hL_l := hL_l.kp hk
      refine HO.sto (want_none) rfl (st_storeAgg (c' := #[.int .i64 ((gi l i_1).1), .int .i64 ((gi l i_1).2.1), .int .i64 ((gi l i_1).2.2.1), .int .i64 ((gi l i_1).2.2.2.1), .string (bs ((gi l i_1).2.2.2.2))]) hS (i := 0) rfl ta_112 rfl rfl rfl (by simp [Value.oneCell']) (Nat.le_of_ble_eq_true rfl) rfl) ?_
      rintro h_5 ⟨hS, hk⟩
      replace hS : St F_2 (Ow.box b_3 112 #[.int .i64 ((gi l i_1).1), .int .i64 ((gi l i_1).2.1), .int .i64 ((gi l i_1).2.2.1), .int .i64 ((gi l i_1).2.2.2.1), .string (bs ((gi l i_1).2.2.2.2))] :: Ow.own 112 5 e_api_Given vout_1 out_1 :: fr) h_5 := hS
      replace hK := hK.trans hk
      replace hL_l := hL_l.kp hk
      refine HO.nil (thenQ_normal (?_))
      refine HW.seq ?_
      refine HW.region ?_
      refine HO.val (v := .pointer (some ⟨b_3, 4, none⟩)) (want_none) rfl (q_fieldAddr fa_112_4 rfl rfl) ?_
      refine HO.val (v := .string (bs ((gi l i_1).2.2.2.2))) (want_none) rfl (q_load to_9 rfl (Blk.cell (hS.box 0 rfl) rfl)) ?_
      refine HO.call (want_none) rfl (ec en_33 rfl rfl) (law01_Cut_walk (fr := (Ow.box b_3 112 #[.int .i64 ((gi l i_1).1), .int .i64 ((gi l i_1).2.1), .int .i64 ((gi l i_1).2.2.1), .int .i64 ((gi l i_1).2.2.2.1), .string (bs ((gi l i_1).2.2.2.2))] :: Ow.own 112 5 e_api_Given vout_1 out_1 :: fr)) ((gi l i_1).2.2.2.2) 8 hS hM) ?_
      rintro _ h_6 ⟨F_3, r_2, rfl, hk, hS, hM⟩
      replace hK := hK.trans hk
      replace hL_l := hL_l.kp hk
      refine HO.val (v := .pointer (some ⟨b_3, 4, none⟩)) (want_none) rfl (q_fieldAddr fa_112_4 rfl rfl) ?_
      refine HO.sto (want_none) rfl (st_store (c' := #[.int .i64 ((gi l i_1).1), .int .i64 ((gi l i_1).2.1), .int .i64 ((gi l i_1).2.2.1), .int .i64 ((gi l i_1).2.2.2.1), .string (bs r_2)]) hS (i := 0) rfl to_9 rfl rfl rfl rfl (Nat.le_of_ble_eq_true rfl) rfl) ?_
      rintro h_7 ⟨hS, hk⟩
      replace hS : St F_3 (Ow.box b_3 112 #[.int .i64 ((gi l i_1).1), .int .i64 ((gi l i_1).2.1), .int .i64 ((gi l i_1).2.2.1), .int .i64 ((gi l i_1).2.2.2.1), .string (bs r_2)] :: Ow.own 112 5 e_api_Given vout_1 out_1 :: fr) h_7 := hS
      replace hK := hK.trans hk
      replace hL_l := hL_l.kp hk
      refine HO.nil (thenQ_normal (?_))
      refine HW.region ?_
      refine HO.val (v := vout_1) (want_none) rfl (q_move rfl) ?_
      refine HO.val (v := .agg #[.int .i64 ((gi l i_1).1), .int .i64 ((gi l i_1).2.1), .int .i64 ((gi l i_1).2.2.1), .int .i64 ((gi l i_1).2.2.2.1), .string (bs r_2)]) (want_none) rfl (q_loadAgg (cs := [.int .i64 ((gi l i_1).1), .int .i64 ((gi l i_1).2.1), .int .i64 ((gi l i_1).2.2.1), .int .i64 ((gi l i_1).2.2.2.1), .string (bs r_2)]) ta_112 rfl rfl (Blk.cells (k := 5) (hS.box 0 rfl) rfl)) ?_
      refine HO.eff (want_none) rfl (st_lit (enc := e_api_Given) (cells := #[.int .i64 ((gi l i_1).1), .int .i64 ((gi l i_1).2.1), .int .i64 ((gi l i_1).2.2.1), .int .i64 ((gi l i_1).2.2.2.1), .string (bs r_2)]) #[.int .i64 0, .int .i64 0, .int .i64 0, .int .i64 0, .string (bs [])] ([((gi l i_1).1, (gi l i_1).2.1, (gi l i_1).2.2.1, (gi l i_1).2.2.2.1, r_2)] : List (Int × Int × Int × Int × Str)) hS tl_97 (by decide) (by decide) (by kernel_rfl) (by kernel_rfl) rfl (by intro x hx; rfl) rfl) ?_
      rintro _ h_8 ⟨b_4, rfl, hS, hk⟩
      replace hK := hK.trans hk
      replace hL_l := hL_l.kp hk
      obtain ⟨ho_2, hM⟩ := hM
      refine HO.eff (want_none) rfl (st_append te_97 hS (i := 2) rfl (hS.own 0 rfl).slice rfl rfl rfl (by intro a _ u hu; simp [e_api_Given, encI, encN, encB, encT] at hu; rcases hu with rfl | rfl | rfl | rfl | rfl <;> rfl) ho_2 (by omega)) ?_
      rintro v_1 h_9 ⟨hS, hk⟩
      replace hS : St F_3 (Ow.own 112 5 e_api_Given (.slice (some ⟨b_4, 0, none⟩) 1 1) ([((gi l i_1).1, (gi l i_1).2.1, (gi l i_1).2.2.1, (gi l i_1).2.2.2.1, r_2)] : List (Int × Int × Int × Int × Str)) :: Ow.box b_3 112 #[.int .i64 ((gi l i_1).1), .int .i64 ((gi l i_1).2.1), .int .i64 ((gi l i_1).2.2.1), .int .i64 ((gi l i_1).2.2.2.1), .string (bs r_2)] :: Ow.own 112 5 e_api_Given v_1 (out_1 ++ ([((gi l i_1).1, (gi l i_1).2.1, (gi l i_1).2.2.1, (gi l i_1).2.2.2.1, r_2)] : List (Int × Int × Int × Int × Str))) :: fr) h_9 := hS
      replace hK := hK.trans hk
      replace hL_l := hL_l.kp hk
      refine HO.val (v := v_1) (want_none) rfl (q_assign rfl) ?_
      refine HO.nil (blockQ_normal (thenQ_normal (?_)))
      refine HW.region ?_
      refine HO.val (v := .int .i64 i_1) (want_none) rfl (q_move rfl) ?_
      obtain ⟨ho_3, hM⟩ := hM
      refine HO.val (v := .int .i64 (i_1 + 1)) (want_none) rfl (q_addN _ rfl rfl rfl ho_3.1 ho_3.2) ?_
      refine HO.val (v := .int .i64 (i_1 + 1)) (want_none) rfl (q_assign rfl) ?_
      refine HO.nil (thenQ_normal (?_))
      replace hS : St F_3 (Ow.own 112 5 e_api_Given v_1 (out_1 ++ ([((gi l i_1).1, (gi l i_1).2.1, (gi l i_1).2.2.1, (gi l i_1).2.2.2.1, r_2)] : List (Int × Int × Int × Int × Str))) :: fr) h_9 := St.perm (front := [Ow.own 112 5 e_api_Given (.slice (some ⟨b_4, 0, none⟩) 1 1) ([((gi l i_1).1, (gi l i_1).2.1, (gi l i_1).2.2.1, (gi l i_1).2.2.2.1, r_2)] : List (Int × Int × Int × Int × Str)), Ow.box b_3 112 #[.int .i64 ((gi l i_1).1), .int .i64 ((gi l i_1).2.1), .int .i64 ((gi l i_1).2.2.1), .int .i64 ((gi l i_1).2.2.2.1), .string (bs r_2)], Ow.own 112 5 e_api_Given v_1 (out_1 ++ ([((gi l i_1).1, (gi l i_1).2.1, (gi l i_1).2.2.1, (gi l i_1).2.2.2.1, r_2)] : List (Int × Int × Int × Int × Str)))]) (fr := fr) hS [2] 3 rfl (by decide) [Ow.own 112 5 e_api_Given v_1 (out_1 ++ ([((gi l i_1).1, (gi l i_1).2.1, (gi l i_1).2.2.1, (gi l i_1).2.2.2.1, r_2)] : List (Int × Int × Int × Int × Str)))] rfl
      rw [hKe_1] at hM
      exact ⟨(out_1 ++ ([((gi l i_1).1, (gi l i_1).2.1, (gi l i_1).2.2.1, (gi l i_1).2.2.2.1, r_2)] : List (Int × Int × Int × Int × Str)), i_1 + 1), ⟨F_3, v_1, rfl, rfl, rfl, rfl, hK, hS, hL_l, hM.1⟩, hM.2⟩
    · replace hM := hM.2 c_2
      refine HW.exit (thenQ_exit (thenQ_exit (blockQ_exit (thenQ_normal (?_)))))
      refine HW.seq ?_
      refine HW.region ?_
      refine HO.val (v := vout_1) (want_none) rfl (q_move rfl) ?_
      refine HO.val (v := vout_1) (want_none) rfl (q_assign rfl) ?_
      refine HO.nil (thenQ_normal (?_))
      refine HW.ret (?_)
      refine ⟨.inr rfl, vout_1, res1 rfl (rt rfl), ?_⟩
      exact ⟨F_2, out_1, vout_1, rfl, hK, hS, hL_l, hM⟩

def audit_Audit_Add_j1 (l : List (Int × Int × Int × Int × Str)) (a_0_2 : List ((Int × Int × Int × Int) × Int)) (n_1 : Int) (n_2 : Int) (K_1 : (List ((Int × Int × Int × Int) × Int)) → (List (Int × Int × Int × Int × Str)) → Int → Int → Prop) (a_1_3 : List (Int × Int × Int × Int × Str)) : Prop :=
  (I64 ((mget0 a_0_2 ((gi l n_2).1, (gi l n_2).2.2.1, ((gi l n_2).2.1, (gi l n_2).2.2.2.1))) + 1)) ∧ ((I64 (n_1 + 1)) ∧ ((I64 (n_2 + 1)) ∧ (K_1 (mset a_0_2 ((gi l n_2).1, (gi l n_2).2.2.1, ((gi l n_2).2.1, (gi l n_2).2.2.2.1)) ((mget0 a_0_2 ((gi l n_2).1, (gi l n_2).2.2.1, ((gi l n_2).2.1, (gi l n_2).2.2.2.1))) + 1)) a_1_3 (n_1 + 1) (n_2 + 1))))
def audit_Audit_Add_l1 (a_all : Int) (l : List (Int × Int × Int × Int × Str)) (Q : Int → (List ((Int × Int × Int × Int) × Int)) → (List (Int × Int × Int × Int × Str)) → Int → Prop) (K_1 : (List ((Int × Int × Int × Int) × Int)) → (List (Int × Int × Int × Int × Str)) → Int → Int → Prop) (a_0_2 : List ((Int × Int × Int × Int) × Int)) (a_1_2 : List (Int × Int × Int × Int × Str)) (n_1 : Int) (n_2 : Int) : Prop :=
  (n_2 < (l.length : Int) → ((0 : Int) ≤ n_2 ∧ n_2 < (l.length : Int)) ∧ ((((gi l n_2).1) ≤ 0 → (I64 (n_2 + 1)) ∧ (K_1 a_0_2 a_1_2 n_1 (n_2 + 1))) ∧ (¬ (((gi l n_2).1) ≤ 0) → (0 < (mget0 a_0_2 ((gi l n_2).1, (gi l n_2).2.2.1, ((gi l n_2).2.1, (gi l n_2).2.2.2.1))) → ((a_1_2.length + ([(gi l n_2)] : List (Int × Int × Int × Int × Str)).length) * 48 ≤ 140737488355328) ∧ (audit_Audit_Add_j1 l a_0_2 n_1 n_2 K_1 (a_1_2 ++ ([(gi l n_2)] : List (Int × Int × Int × Int × Str))))) ∧ (¬ (0 < (mget0 a_0_2 ((gi l n_2).1, (gi l n_2).2.2.1, ((gi l n_2).2.1, (gi l n_2).2.2.2.1)))) → audit_Audit_Add_j1 l a_0_2 n_1 n_2 K_1 a_1_2)))) ∧ (¬ (n_2 < (l.length : Int)) → (I64 (a_all + n_1)) ∧ (Q n_1 a_0_2 a_1_2 (a_all + n_1)))
def audit_Audit_Add_W (a_seen : List ((Int × Int × Int × Int) × Int)) (a_twice : List (Int × Int × Int × Int × Str)) (a_all : Int) (l : List (Int × Int × Int × Int × Str)) (Q : Int → (List ((Int × Int × Int × Int) × Int)) → (List (Int × Int × Int × Int × Str)) → Int → Prop) : Prop :=
  loopW (fun (K_1 : ((List ((Int × Int × Int × Int) × Int)) × (List (Int × Int × Int × Int × Str)) × Int × Int) → Prop) (s : (List ((Int × Int × Int × Int) × Int)) × (List (Int × Int × Int × Int × Str)) × Int × Int) => audit_Audit_Add_l1 a_all l Q (fun a_0_2 a_1_2 n_1 n_2 => K_1 (a_0_2, a_1_2, n_1, n_2)) s.1 s.2.1 s.2.2.1 s.2.2.2) (a_seen, a_twice, 0, 0)
set_option maxHeartbeats 40000000 in
set_option maxRecDepth 100000 in
theorem audit_Audit_Add_walk {F : Fz} {fr : List Ow} {h0 : Heap} (a_seen : List ((Int × Int × Int × Int) × Int)) (a_twice : List (Int × Int × Int × Int × Str)) (a_all : Int) (l : List (Int × Int × Int × Int × Str)) (ba : Nat) (ra_seen : Nat) (va_twice : Value) (vl : Value) (hS : St F (Ow.box ba 151 #[.map (some ra_seen), va_twice, .int .i64 a_all] :: Ow.map ra_seen (fun (x : Int × Int × Int × Int) => .agg #[.int .i64 x.1, .int .i64 x.2.1, .int .i64 x.2.2.1, .int .i64 x.2.2.2]) kI a_seen :: Ow.own 112 5 e_api_Given va_twice a_twice :: fr) h0) (hL_l : SliceF F h0 5 e_api_Given vl l) {Q : Int → (List ((Int × Int × Int × Int) × Int)) → (List (Int × Int × Int × Int × Str)) → Int → Prop} (hM : audit_Audit_Add_W a_seen a_twice a_all l Q) :
    HC Try.prog 74 #[.pointer (some ⟨ba, 0, none⟩), vl] h0 fun u h' => ∃ (F' : Fz) (r_1 : Int) (am_1 : List ((Int × Int × Int × Int) × Int)) (a_twice_1 : List (Int × Int × Int × Int × Str)) (a_all_1 : Int) (v_1 : Value), u = .int .i64 r_1 ∧ Kp F h0 F' h' ∧ St F' (Ow.box ba 151 #[.map (some ra_seen), v_1, .int .i64 a_all_1] :: Ow.map ra_seen (fun (x : Int × Int × Int × Int) => .agg #[.int .i64 x.1, .int .i64 x.2.1, .int .i64 x.2.2.1, .int .i64 x.2.2.2]) kI am_1 :: Ow.own 112 5 e_api_Given v_1 a_twice_1 :: fr) h' ∧ (SliceF F' h' 5 e_api_Given vl l) ∧ Q r_1 am_1 a_twice_1 a_all_1 := by
  unfold audit_Audit_Add_W at hM
  have hK := Kp.refl F h0
  refine HC.of_HW (n := 68) Try.func74 rfl rfl (Nat.le_of_ble_eq_true rfl) ?_
  refine HW.seq ?_
  refine HW.region ?_
  refine HO.val (v := .int .i64 0) (want_none) rfl (q_assign rfl) ?_
  refine HO.nil (thenQ_normal (?_))
  refine HW.seq ?_
  refine HW.region ?_
  refine HO.val (v := .int .i64 0) (want_none) rfl (q_assign rfl) ?_
  refine HO.nil (thenQ_normal (?_))
  refine HW.seq ?_
  refine HW.seq ?_
  refine HW.region ?_
  refine HO.val (v := .pointer (some ⟨ba, 0, none⟩)) (want_none) rfl (q_move rfl) ?_
  refine HO.val (v := .bool false) (want_none) rfl (q_eqlPnil Try.underlying103 rfl rfl rfl) ?_
  refine HO.nil (thenQ_normal (?_))
  refine HW.condF rfl ?_
  refine HW.skip (thenQ_normal (?_))
  refine HW.seq ?_
  refine HW.seq ?_
  refine HW.region ?_
  refine HO.val (v := vl) (want_none) rfl (q_move rfl) ?_
  refine HO.val (v := .int .i64 (l.length : Int)) (want_none) rfl (q_len ts_97 (shp hL_l.is) rfl rfl) ?_
  refine HO.val (v := .int .i64 0) (want_none) rfl (q_move rfl) ?_
  refine HO.nil (thenQ_normal (?_))
  refine HW.block ?_
  obtain ⟨I_1, m_1, hI_1, hR_1⟩ := hM
  refine HW.loop (S := (List ((Int × Int × Int × Int) × Int)) × (List (Int × Int × Int × Int × Str)) × Int × Int) (fun s f h => match s with | (a_0_2, a_1_2, n_1, n_2) => ∃ (F' : Fz) (va_1_2 : Value), f 0 = .pointer (some ⟨ba, 0, none⟩) ∧ f 4 = .int .i64 0 ∧ f 5 = .int .i64 n_1 ∧ f 11 = vl ∧ f 12 = .int .i64 (l.length : Int) ∧ f 13 = .int .i64 n_2 ∧ Kp F h0 F' h ∧ St F' (Ow.box ba 151 #[.map (some ra_seen), va_1_2, .int .i64 a_all] :: Ow.map ra_seen (fun (x : Int × Int × Int × Int) => .agg #[.int .i64 x.1, .int .i64 x.2.1, .int .i64 x.2.2.1, .int .i64 x.2.2.2]) kI a_0_2 :: Ow.own 112 5 e_api_Given va_1_2 a_1_2 :: fr) h ∧ (SliceF F' h 5 e_api_Given vl l) ∧ I_1 (a_0_2, a_1_2, n_1, n_2)) m_1 (a_seen, a_twice, 0, 0) ⟨F, va_twice, rfl, rfl, rfl, rfl, rfl, rfl, hK, hS, hL_l, hI_1⟩ ?_
  rintro ⟨a_0_2, a_1_2, n_1, n_2⟩ f_1 h_1 ⟨F_1, va_1_2, e0, e4, e5, e11, e12, e13, hK, hS, hL_l, hI0⟩
  obtain ⟨K_1, hKe_1⟩ : ∃ K : (List ((Int × Int × Int × Int) × Int)) → (List (Int × Int × Int × Int × Str)) → Int → Int → Prop, K = fun a_0_2' a_1_2' n_1' n_2' => I_1 (a_0_2', a_1_2', n_1', n_2') ∧ m_1 (a_0_2', a_1_2', n_1', n_2') < m_1 (a_0_2, a_1_2, n_1, n_2) := ⟨_, rfl⟩
  have hM : audit_Audit_Add_l1 a_all l Q K_1 a_0_2 a_1_2 n_1 n_2 := by rw [hKe_1]; exact hR_1 (a_0_2, a_1_2, n_1, n_2) hI0
  unfold audit_Audit_Add_l1 at hM
  refine HW.fr [(0, .pointer (some ⟨ba, 0, none⟩)), (4, .int .i64 0), (5, .int .i64 n_1), (11, vl), (12, .int .i64 (l.length : Int)), (13, .int .i64 n_2)] ⟨e0, e4, e5, e11, e12, e13, trivial⟩ ?_
  refine HW.seq ?_
  refine HW.region ?_
  refine HO.val (v := .bool (decide (n_2 < (l.length : Int)))) (want_none) rfl (q_lss rfl rfl) ?_
  refine HO.nil (thenQ_normal (?_))
  refine HW.seq ?_
  refine HW.cond (decide (n_2 < (l.length : Int))) rfl (fun c_1 => ?_) (fun c_1 => ?_)
  · replace hM := hM.1 (of_decide_eq_true c_1)
    refine HW.skip (thenQ_normal (?_))
    refine HW.seq ?_
    refine HW.block ?_
    refine HW.seq ?_
    refine HW.region ?_
    obtain ⟨ho_1, hM⟩ := hM
    refine HO.val (v := elemPtr 5 vl (n_2).toNat) (want_none) rfl (q_idx ts_97 hL_l.is rfl rfl ho_1) ?_
    refine HO.val (v := .agg #[.int .i64 ((gi l n_2).1), .int .i64 ((gi l n_2).2.1), .int .i64 ((gi l n_2).2.2.1), .int .i64 ((gi l n_2).2.2.2.1), .string (bs ((gi l n_2).2.2.2.2))]) (want_none) rfl (q_ldElemAgg (cs := [.int .i64 ((gi l n_2).1), .int .i64 ((gi l n_2).2.1), .int .i64 ((gi l n_2).2.2.1), .int .i64 ((gi l n_2).2.2.2.1), .string (bs ((gi l n_2).2.2.2.2))]) ta_112 hL_l.is rfl ho_1 rfl) ?_
    refine HO.eff (want_none) rfl (st_alloc (c := #[.int .i64 0, .int .i64 0, .int .i64 0, .int .i64 0, .string (bs [])]) hS tz_112 rfl) ?_
    rintro _ h_2 ⟨b_1, rfl, hS, hk⟩
    replace hK := hK.trans hk
    replace hL_l := hL_l.kp hk
    refine HO.sto (want_none) rfl (st_storeAgg (c' := #[.int .i64 ((gi l n_2).1), .int .i64 ((gi l n_2).2.1), .int .i64 ((gi l n_2).2.2.1), .int .i64 ((gi l n_2).2.2.2.1), .string (bs ((gi l n_2).2.2.2.2))]) hS (i := 0) rfl ta_112 rfl rfl rfl (by simp [Value.oneCell']) (Nat.le_of_ble_eq_true rfl) rfl) ?_
    rintro h_3 ⟨hS, hk⟩
    replace hS : St F_1 (Ow.box b_1 112 #[.int .i64 ((gi l n_2).1), .int .i64 ((gi l n_2).2.1), .int .i64 ((gi l n_2).2.2.1), .int .i64 ((gi l n_2).2.2.2.1), .string (bs ((gi l n_2).2.2.2.2))] :: Ow.box ba 151 #[.map (some ra_seen), va_1_2, .int .i64 a_all] :: Ow.map ra_seen (fun (x : Int × Int × Int × Int) => .agg #[.int .i64 x.1, .int .i64 x.2.1, .int .i64 x.2.2.1, .int .i64 x.2.2.2]) kI a_0_2 :: Ow.own 112 5 e_api_Given va_1_2 a_1_2 :: fr) h_3 := hS
    replace hK := hK.trans hk
    replace hL_l := hL_l.kp hk
    refine HO.nil (thenQ_normal (?_))
    refine HW.seq ?_
    refine HW.seq ?_
    refine HW.region ?_
    refine HO.val (v := .pointer (some ⟨b_1, 0, none⟩)) (want_none) rfl (q_fieldAddr fa_112_0 rfl rfl) ?_
    refine HO.val (v := .int .i64 ((gi l n_2).1)) (want_none) rfl (q_load to_3 rfl (Blk.cell (hS.box 0 rfl) rfl)) ?_
    refine HO.val (v := .bool (decide (((gi l n_2).1) ≤ 0))) (want_none) rfl (q_leq rfl rfl) ?_
    refine HO.nil (thenQ_normal (?_))
    refine HW.cond (decide (((gi l n_2).1) ≤ 0)) rfl (fun c_2 => ?_) (fun c_2 => ?_)
    · replace hM := hM.1 (of_decide_eq_true c_2)
      refine HW.exit (thenQ_exit (blockQ_exit (thenQ_normal (?_))))
      refine HW.region ?_
      obtain ⟨ho_2, hM⟩ := hM
      refine HO.val (v := .int .i64 (n_2 + 1)) (want_none) rfl (q_addN _ rfl rfl rfl ho_2.1 ho_2.2) ?_
      refine HO.val (v := .int .i64 (n_2 + 1)) (want_none) rfl (q_move rfl) ?_
      refine HO.nil (thenQ_normal (?_))
      replace hS : St F_1 (Ow.box ba 151 #[.map (some ra_seen), va_1_2, .int .i64 a_all] :: Ow.map ra_seen (fun (x : Int × Int × Int × Int) => .agg #[.int .i64 x.1, .int .i64 x.2.1, .int .i64 x.2.2.1, .int .i64 x.2.2.2]) kI a_0_2 :: Ow.own 112 5 e_api_Given va_1_2 a_1_2 :: fr) h_3 := St.perm (front := [Ow.box b_1 112 #[.int .i64 ((gi l n_2).1), .int .i64 ((gi l n_2).2.1), .int .i64 ((gi l n_2).2.2.1), .int .i64 ((gi l n_2).2.2.2.1), .string (bs ((gi l n_2).2.2.2.2))], Ow.box ba 151 #[.map (some ra_seen), va_1_2, .int .i64 a_all], Ow.map ra_seen (fun (x : Int × Int × Int × Int) => .agg #[.int .i64 x.1, .int .i64 x.2.1, .int .i64 x.2.2.1, .int .i64 x.2.2.2]) kI a_0_2, Ow.own 112 5 e_api_Given va_1_2 a_1_2]) (fr := fr) hS [1, 2, 3] 4 rfl (by decide) [Ow.box ba 151 #[.map (some ra_seen), va_1_2, .int .i64 a_all], Ow.map ra_seen (fun (x : Int × Int × Int × Int) => .agg #[.int .i64 x.1, .int .i64 x.2.1, .int .i64 x.2.2.1, .int .i64 x.2.2.2]) kI a_0_2, Ow.own 112 5 e_api_Given va_1_2 a_1_2] rfl
      rw [hKe_1] at hM
      exact ⟨(a_0_2, a_1_2, n_1, n_2 + 1), ⟨F_1, va_1_2, rfl, rfl, rfl, rfl, rfl, rfl, hK, hS, hL_l, hM.1⟩, hM.2⟩
    · replace hM := hM.2 (of_decide_eq_false c_2)
      refine HW.skip (thenQ_normal (?_))
      refine HW.seq ?_
      refine HW.region ?_
      refine HO.val (v := .pointer (some ⟨b_1, 0, none⟩)) (want_none) rfl (q_fieldAddr fa_112_0 rfl rfl) ?_
      refine HO.val (v := .int .i64 ((gi l n_2).1)) (want_none) rfl (q_load to_3 rfl (Blk.cell (hS.box 0 rfl) rfl)) ?_
      refine HO.val (v := .pointer (some ⟨b_1, 2, none⟩)) (want_none) rfl (q_fieldAddr fa_112_2 rfl rfl) ?_
      refine HO.val (v := .int .i64 ((gi l n_2).2.2.1)) (want_none) rfl (q_load to_3 rfl (Blk.cell (hS.box 0 rfl) rfl)) ?_
      refine HO.val (v := .pointer (some ⟨b_1, 1, none⟩)) (want_none) rfl (q_fieldAddr fa_112_1 rfl rfl) ?_
      refine HO.val (v := .int .i64 ((gi l n_2).2.1)) (want_none) rfl (q_load to_3 rfl (Blk.cell (hS.box 0 rfl) rfl)) ?_
      refine HO.val (v := .pointer (some ⟨b_1, 3, none⟩)) (want_none) rfl (q_fieldAddr fa_112_3 rfl rfl) ?_
      refine HO.val (v := .int .i64 ((gi l n_2).2.2.2.1)) (want_none) rfl (q_load to_3 rfl (Blk.cell (hS.box 0 rfl) rfl)) ?_
      refine HO.val (v := .agg #[.int .i64 ((gi l n_2).2.1), .int .i64 ((gi l n_2).2.2.2.1)]) (want_none) rfl (q_build tp_100 rfl) ?_
      refine HO.val (v := .agg #[.int .i64 ((gi l n_2).1), .int .i64 ((gi l n_2).2.2.1), .int .i64 ((gi l n_2).2.1), .int .i64 ((gi l n_2).2.2.2.1)]) (want_none) rfl (q_build tp_153 rfl) ?_
      refine HO.eff (want_none) rfl (st_alloc (c := #[.int .i64 0, .int .i64 0, .int .i64 0, .int .i64 0]) hS tz_153 rfl) ?_
      rintro _ h_4 ⟨b_2, rfl, hS, hk⟩
      replace hK := hK.trans hk
      replace hL_l := hL_l.kp hk
      refine HO.sto (want_none) rfl (st_storeAgg (c' := #[.int .i64 ((gi l n_2).1), .int .i64 ((gi l n_2).2.2.1), .int .i64 ((gi l n_2).2.1), .int .i64 ((gi l n_2).2.2.2.1)]) hS (i := 0) rfl ta_153 rfl rfl rfl (by simp [Value.oneCell']) (Nat.le_of_ble_eq_true rfl) rfl) ?_
      rintro h_5 ⟨hS, hk⟩
      replace hS : St F_1 (Ow.box b_2 153 #[.int .i64 ((gi l n_2).1), .int .i64 ((gi l n_2).2.2.1), .int .i64 ((gi l n_2).2.1), .int .i64 ((gi l n_2).2.2.2.1)] :: Ow.box b_1 112 #[.int .i64 ((gi l n_2).1), .int .i64 ((gi l n_2).2.1), .int .i64 ((gi l n_2).2.2.1), .int .i64 ((gi l n_2).2.2.2.1), .string (bs ((gi l n_2).2.2.2.2))] :: Ow.box ba 151 #[.map (some ra_seen), va_1_2, .int .i64 a_all] :: Ow.map ra_seen (fun (x : Int × Int × Int × Int) => .agg #[.int .i64 x.1, .int .i64 x.2.1, .int .i64 x.2.2.1, .int .i64 x.2.2.2]) kI a_0_2 :: Ow.own 112 5 e_api_Given va_1_2 a_1_2 :: fr) h_5 := hS
      replace hK := hK.trans hk
      replace hL_l := hL_l.kp hk
      refine HO.nil (thenQ_normal (?_))
      refine HW.seq_mid (fun f h => ∃ (F' : Fz) (a_1_3 : List (Int × Int × Int × Int × Str)) (va_1_3 : Value), f 0 = .pointer (some ⟨ba, 0, none⟩) ∧ f 4 = .int .i64 0 ∧ f 5 = .int .i64 n_1 ∧ f 8 = .pointer (some ⟨b_2, 0, none⟩) ∧ f 11 = vl ∧ f 12 = .int .i64 (l.length : Int) ∧ f 13 = .int .i64 n_2 ∧ Kp F h0 F' h ∧ St F' (Ow.box ba 151 #[.map (some ra_seen), va_1_3, .int .i64 a_all] :: Ow.map ra_seen (fun (x : Int × Int × Int × Int) => .agg #[.int .i64 x.1, .int .i64 x.2.1, .int .i64 x.2.2.1, .int .i64 x.2.2.2]) kI a_0_2 :: Ow.own 112 5 e_api_Given va_1_3 a_1_3 :: Ow.box b_2 153 #[.int .i64 ((gi l n_2).1), .int .i64 ((gi l n_2).2.2.1), .int .i64 ((gi l n_2).2.1), .int .i64 ((gi l n_2).2.2.2.1)] :: fr) h ∧ (SliceF F' h 5 e_api_Given vl l) ∧ audit_Audit_Add_j1 l a_0_2 n_1 n_2 K_1 a_1_3) ?_ ?_
      · refine HW.seq ?_
        refine HW.regionA 7 mixed (fun h => (SliceIs h 5 e_api_Given vl l) ∧ (Blk h b_2 (.cells #[.int .i64 ((gi l n_2).1), .int .i64 ((gi l n_2).2.2.1), .int .i64 ((gi l n_2).2.1), .int .i64 ((gi l n_2).2.2.2.1)] 153 (0, 0))) ∧ (Blk h b_1 (.cells #[.int .i64 ((gi l n_2).1), .int .i64 ((gi l n_2).2.1), .int .i64 ((gi l n_2).2.2.1), .int .i64 ((gi l n_2).2.2.2.1), .string (bs ((gi l n_2).2.2.2.2))] 112 (0, 0))) ∧ (Blk h ba (.cells #[.map (some ra_seen), va_1_2, .int .i64 a_all] 151 (0, 0))) ∧ (MapIs h ra_seen (fun (x : Int × Int × Int × Int) => .agg #[.int .i64 x.1, .int .i64 x.2.1, .int .i64 x.2.2.1, .int .i64 x.2.2.2]) kI a_0_2) ∧ (OwnIs h 0 112 5 e_api_Given va_1_2 a_1_2)) [] (by kernel_rfl) ?_
        refine HA.val (k := 0) (v := .pointer (some ⟨ba, 0, none⟩)) rfl rfl (by kernel_rfl) (by kernel_rfl) (want_none) rfl (fun _ ⟨hL_l, c364, c363, c360, c361, c362⟩ => q_move rfl) ?_
        refine HA.val (k := 1) (v := .pointer (some ⟨ba, 0, none⟩)) rfl rfl (by kernel_rfl) (by kernel_rfl) (want_none) rfl (fun _ ⟨hL_l, c364, c363, c360, c361, c362⟩ => q_nilCheck rfl) ?_
        refine HA.val (k := 2) (v := .pointer (some ⟨ba, 0, none⟩)) rfl rfl (by kernel_rfl) (by kernel_rfl) (want_none) rfl (fun _ ⟨hL_l, c364, c363, c360, c361, c362⟩ => q_fieldAddr fa_151_0 rfl rfl) ?_
        refine HA.val (k := 3) (v := .map (some ra_seen)) rfl rfl (by kernel_rfl) (by kernel_rfl) (want_none) rfl (fun _ ⟨hL_l, c364, c363, c360, c361, c362⟩ => q_load to_149 rfl (Blk.cell c360 rfl)) ?_
        refine HA.val (k := 4) (v := .agg #[.int .i64 ((gi l n_2).1), .int .i64 ((gi l n_2).2.2.1), .int .i64 ((gi l n_2).2.1), .int .i64 ((gi l n_2).2.2.2.1)]) rfl rfl (by kernel_rfl) (by kernel_rfl) (want_none) rfl (fun _ ⟨hL_l, c364, c363, c360, c361, c362⟩ => q_loadAgg (cs := [.int .i64 ((gi l n_2).1), .int .i64 ((gi l n_2).2.2.1), .int .i64 ((gi l n_2).2.1), .int .i64 ((gi l n_2).2.2.2.1)]) ta_153 rfl rfl (Blk.cells (k := 4) c364 rfl)) ?_
        refine HA.val (k := 5) (v := .int .i64 (mget0 a_0_2 ((gi l n_2).1, (gi l n_2).2.2.1, ((gi l n_2).2.1, (gi l n_2).2.2.2.1)))) rfl rfl (by kernel_rfl) (by kernel_rfl) (want_none) rfl (fun _ ⟨hL_l, c364, c363, c360, c361, c362⟩ => (q_lookup (k := ((gi l n_2).1, (gi l n_2).2.2.1, ((gi l n_2).2.1, (gi l n_2).2.2.2.1))) ka_153 tmk_149 c361 rfl rfl).of_eq (mval0 (z := .int .i64 0) rfl)) ?_
        refine HA.val (k := 6) (v := .bool (decide (0 < (mget0 a_0_2 ((gi l n_2).1, (gi l n_2).2.2.1, ((gi l n_2).2.1, (gi l n_2).2.2.2.1)))))) rfl rfl (by kernel_rfl) (by kernel_rfl) (want_none) rfl (fun _ ⟨hL_l, c364, c363, c360, c361, c362⟩ => q_gtr rfl rfl) ?_
        refine HA.nil ⟨⟨hL_l.is, (hS.box 0 rfl), (hS.box 1 rfl), (hS.box 2 rfl), (hS.mp 3 rfl), (hS.own 4 rfl)⟩, (Go.Wk.at_nil _ _)⟩ (by kernel_rfl) (thenQ_normal (?_))
        refine HW.cond (decide (0 < (mget0 a_0_2 ((gi l n_2).1, (gi l n_2).2.2.1, ((gi l n_2).2.1, (gi l n_2).2.2.2.1))))) rfl (fun c_3 => ?_) (fun c_3 => ?_)
        · replace hM := hM.1 (of_decide_eq_true c_3)
          refine HW.regionA 11 mixed (fun h => (SliceIs h 5 e_api_Given vl l) ∧ (Blk h b_2 (.cells #[.int .i64 ((gi l n_2).1), .int .i64 ((gi l n_2).2.2.1), .int .i64 ((gi l n_2).2.1), .int .i64 ((gi l n_2).2.2.2.1)] 153 (0, 0))) ∧ (Blk h b_1 (.cells #[.int .i64 ((gi l n_2).1), .int .i64 ((gi l n_2).2.1), .int .i64 ((gi l n_2).2.2.1), .int .i64 ((gi l n_2).2.2.2.1), .string (bs ((gi l n_2).2.2.2.2))] 112 (0, 0))) ∧ (MapIs h ra_seen (fun (x : Int × Int × Int × Int) => .agg #[.int .i64 x.1, .int .i64 x.2.1, .int .i64 x.2.2.1, .int .i64 x.2.2.2]) kI a_0_2)) [(7, fun h => (OwnIs h 0 112 5 e_api_Given va_1_2 a_1_2)), (10, fun h => (Blk h ba (.cells #[.map (some ra_seen), va_1_2, .int .i64 a_all] 151 (0, 0))))] (by kernel_rfl) ?_
          refine HA.val (k := 0) (v := .pointer (some ⟨ba, 0, none⟩)) rfl rfl (by kernel_rfl) (by kernel_rfl) (want_none) rfl (fun _ ⟨hL_l, c364, c363, c361⟩ => q_move rfl) ?_
          refine HA.val (k := 1) (v := .pointer (some ⟨ba, 0, none⟩)) rfl rfl (by kernel_rfl) (by kernel_rfl) (want_none) rfl (fun _ ⟨hL_l, c364, c363, c361⟩ => q_move rfl) ?_
          refine HA.val (k := 2) (v := .pointer (some ⟨ba, 0, none⟩)) rfl rfl (by kernel_rfl) (by kernel_rfl) (want_none) rfl (fun _ ⟨hL_l, c364, c363, c361⟩ => q_nilCheck rfl) ?_
          refine HA.val (k := 3) (v := .pointer (some ⟨ba, 1, none⟩)) rfl rfl (by kernel_rfl) (by kernel_rfl) (want_none) rfl (fun _ ⟨hL_l, c364, c363, c361⟩ => q_fieldAddr fa_151_1 rfl rfl) ?_
          refine Go.Wk.HA.valN (k := 4) (v := va_1_2) 1 10 (fun h => (Blk h ba (.cells #[.map (some ra_seen), va_1_2, .int .i64 a_all] 151 (0, 0)))) rfl rfl (by kernel_rfl) (by kernel_rfl) (want_none) rfl rfl (by kernel_rfl) (fun _ ⟨hL_l, c364, c363, c361⟩ c360 => q_load to_97 rfl (Blk.cell c360 rfl)) ?_
          refine HA.val (k := 5) (v := .agg #[.int .i64 ((gi l n_2).1), .int .i64 ((gi l n_2).2.1), .int .i64 ((gi l n_2).2.2.1), .int .i64 ((gi l n_2).2.2.2.1), .string (bs ((gi l n_2).2.2.2.2))]) rfl rfl (by kernel_rfl) (by kernel_rfl) (want_none) rfl (fun _ ⟨hL_l, c364, c363, c361⟩ => q_loadAgg (cs := [.int .i64 ((gi l n_2).1), .int .i64 ((gi l n_2).2.1), .int .i64 ((gi l n_2).2.2.1), .int .i64 ((gi l n_2).2.2.2.1), .string (bs ((gi l n_2).2.2.2.2))]) ta_112 rfl rfl (Blk.cells (k := 5) c363 rfl)) ?_
          refine HA.one (k := 6) ⟨⟨hL_l.is, (hS.box 0 rfl), (hS.box 1 rfl), (hS.mp 3 rfl)⟩, (at_now (hS.own 4 rfl) (at_now (hS.box 2 rfl) (Go.Wk.at_nil _ _)))⟩ (by kernel_rfl) ?_
          refine HS.eff rfl (want_none) rfl (st_lit (enc := e_api_Given) (cells := #[.int .i64 ((gi l n_2).1), .int .i64 ((gi l n_2).2.1), .int .i64 ((gi l n_2).2.2.1), .int .i64 ((gi l n_2).2.2.2.1), .string (bs ((gi l n_2).2.2.2.2))]) #[.int .i64 0, .int .i64 0, .int .i64 0, .int .i64 0, .string (bs [])] ([(gi l n_2)] : List (Int × Int × Int × Int × Str)) hS tl_97 (by decide) (by decide) (by kernel_rfl) (by kernel_rfl) rfl (by intro x hx; rfl) rfl) ?_
          rintro _ h_6 ⟨b_3, rfl, hS, hk⟩
          replace hK := hK.trans hk
          replace hL_l := hL_l.kp hk
          refine Go.Wk.HA.re (fun h => (SliceIs h 5 e_api_Given vl l) ∧ (OwnIs h 0 112 5 e_api_Given (.slice (some ⟨b_3, 0, none⟩) 1 1) ([(gi l n_2)] : List (Int × Int × Int × Int × Str))) ∧ (Blk h b_2 (.cells #[.int .i64 ((gi l n_2).1), .int .i64 ((gi l n_2).2.2.1), .int .i64 ((gi l n_2).2.1), .int .i64 ((gi l n_2).2.2.2.1)] 153 (0, 0))) ∧ (Blk h b_1 (.cells #[.int .i64 ((gi l n_2).1), .int .i64 ((gi l n_2).2.1), .int .i64 ((gi l n_2).2.2.1), .int .i64 ((gi l n_2).2.2.2.1), .string (bs ((gi l n_2).2.2.2.2))] 112 (0, 0))) ∧ (MapIs h ra_seen (fun (x : Int × Int × Int × Int) => .agg #[.int .i64 x.1, .int .i64 x.2.1, .int .i64 x.2.2.1, .int .i64 x.2.2.2]) kI a_0_2)) [(7, fun h => (OwnIs h 0 112 5 e_api_Given va_1_2 a_1_2)), (10, fun h => (Blk h ba (.cells #[.map (some ra_seen), va_1_2, .int .i64 a_all] 151 (0, 0))))] (fun L_ h_ hL_ ⟨hL_l, c453, c364, c363, c361⟩ hs_ => ⟨⟨hL_l, c364, c363, c361⟩, (at_keep 0 rfl hs_ (fun c362 => c362) (at_keep 1 rfl hs_ (fun c360 => c360) (Go.Wk.at_nil _ _)))⟩) ?_
          refine HA.one (k := 7) ⟨⟨hL_l.is, (hS.own 0 rfl), (hS.box 1 rfl), (hS.box 2 rfl), (hS.mp 4 rfl)⟩, (at_now (hS.own 5 rfl) (at_now (hS.box 3 rfl) (Go.Wk.at_nil _ _)))⟩ (by kernel_rfl) ?_
          obtain ⟨ho_3, hM⟩ := hM
          refine HS.eff rfl (want_none) rfl (st_append te_97 hS (i := 5) rfl (hS.own 0 rfl).slice rfl rfl rfl (by intro a _ u hu; simp [e_api_Given, encI, encN, encB, encT] at hu; rcases hu with rfl | rfl | rfl | rfl | rfl <;> rfl) ho_3 (by omega)) ?_
          rintro v_2 h_7 ⟨hS, hk⟩
          replace hS : St F_1 (Ow.own 112 5 e_api_Given (.slice (some ⟨b_3, 0, none⟩) 1 1) ([(gi l n_2)] : List (Int × Int × Int × Int × Str)) :: Ow.box b_2 153 #[.int .i64 ((gi l n_2).1), .int .i64 ((gi l n_2).2.2.1), .int .i64 ((gi l n_2).2.1), .int .i64 ((gi l n_2).2.2.2.1)] :: Ow.box b_1 112 #[.int .i64 ((gi l n_2).1), .int .i64 ((gi l n_2).2.1), .int .i64 ((gi l n_2).2.2.1), .int .i64 ((gi l n_2).2.2.2.1), .string (bs ((gi l n_2).2.2.2.2))] :: Ow.box ba 151 #[.map (some ra_seen), va_1_2, .int .i64 a_all] :: Ow.map ra_seen (fun (x : Int × Int × Int × Int) => .agg #[.int .i64 x.1, .int .i64 x.2.1, .int .i64 x.2.2.1, .int .i64 x.2.2.2]) kI a_0_2 :: Ow.own 112 5 e_api_Given v_2 (a_1_2 ++ ([(gi l n_2)] : List (Int × Int × Int × Int × Str))) :: fr) h_7 := hS
          replace hK := hK.trans hk
          replace hL_l := hL_l.kp hk
          refine Go.Wk.HA.re (fun h => (SliceIs h 5 e_api_Given vl l) ∧ (OwnIs h 0 112 5 e_api_Given (.slice (some ⟨b_3, 0, none⟩) 1 1) ([(gi l n_2)] : List (Int × Int × Int × Int × Str))) ∧ (Blk h b_2 (.cells #[.int .i64 ((gi l n_2).1), .int .i64 ((gi l n_2).2.2.1), .int .i64 ((gi l n_2).2.1), .int .i64 ((gi l n_2).2.2.2.1)] 153 (0, 0))) ∧ (Blk h b_1 (.cells #[.int .i64 ((gi l n_2).1), .int .i64 ((gi l n_2).2.1), .int .i64 ((gi l n_2).2.2.1), .int .i64 ((gi l n_2).2.2.2.1), .string (bs ((gi l n_2).2.2.2.2))] 112 (0, 0))) ∧ (MapIs h ra_seen (fun (x : Int × Int × Int × Int) => .agg #[.int .i64 x.1, .int .i64 x.2.1, .int .i64 x.2.2.1, .int .i64 x.2.2.2]) kI a_0_2) ∧ (OwnIs h 0 112 5 e_api_Given v_2 (a_1_2 ++ ([(gi l n_2)] : List (Int × Int × Int × Int × Str))))) [(10, fun h => (Blk h ba (.cells #[.map (some ra_seen), va_1_2, .int .i64 a_all] 151 (0, 0))))] (fun L_ h_ hL_ ⟨hL_l, c453, c364, c363, c361, c362⟩ hs_ => ⟨⟨hL_l, c453, c364, c363, c361⟩, (at_gone hL_ (by kernel_rfl) (at_keep 0 rfl hs_ (fun c360 => c360) (Go.Wk.at_nil _ _)))⟩) ?_
          refine HA.val (k := 8) (v := .pointer (some ⟨ba, 0, none⟩)) rfl rfl (by kernel_rfl) (by kernel_rfl) (want_none) rfl (fun _ ⟨hL_l, c453, c364, c363, c361, c362⟩ => q_nilCheck rfl) ?_
          refine HA.val (k := 9) (v := .pointer (some ⟨ba, 1, none⟩)) rfl rfl (by kernel_rfl) (by kernel_rfl) (want_none) rfl (fun _ ⟨hL_l, c453, c364, c363, c361, c362⟩ => q_fieldAddr fa_151_1 rfl rfl) ?_
          refine HA.one (k := 10) ⟨⟨hL_l.is, (hS.own 0 rfl), (hS.box 1 rfl), (hS.box 2 rfl), (hS.mp 4 rfl), (hS.own 5 rfl)⟩, (at_now (hS.box 3 rfl) (Go.Wk.at_nil _ _))⟩ (by kernel_rfl) ?_
          refine HS.sto rfl (want_none) rfl (st_store (c' := #[.map (some ra_seen), v_2, .int .i64 a_all]) hS (i := 3) rfl to_97 rfl rfl (shp (hS.own 5 rfl).slice).cells (shp (hS.own 5 rfl).slice).one (Nat.le_of_ble_eq_true rfl) rfl) ?_
          rintro h_8 ⟨hS, hk⟩
          replace hS : St F_1 (Ow.own 112 5 e_api_Given (.slice (some ⟨b_3, 0, none⟩) 1 1) ([(gi l n_2)] : List (Int × Int × Int × Int × Str)) :: Ow.box b_2 153 #[.int .i64 ((gi l n_2).1), .int .i64 ((gi l n_2).2.2.1), .int .i64 ((gi l n_2).2.1), .int .i64 ((gi l n_2).2.2.2.1)] :: Ow.box b_1 112 #[.int .i64 ((gi l n_2).1), .int .i64 ((gi l n_2).2.1), .int .i64 ((gi l n_2).2.2.1), .int .i64 ((gi l n_2).2.2.2.1), .string (bs ((gi l n_2).2.2.2.2))] :: Ow.box ba 151 #[.map (some ra_seen), v_2, .int .i64 a_all] :: Ow.map ra_seen (fun (x : Int × Int × Int × Int) => .agg #[.int .i64 x.1, .int .i64 x.2.1, .int .i64 x.2.2.1, .int .i64 x.2.2.2]) kI a_0_2 :: Ow.own 112 5 e_api_Given v_2 (a_1_2 ++ ([(gi l n_2)] : List (Int × Int × Int × Int × Str))) :: fr) h_8 := hS
          replace hK := hK.trans hk
          replace hL_l := hL_l.kp hk
          refine HA.nil ⟨⟨hL_l.is, (hS.own 0 rfl), (hS.box 1 rfl), (hS.box 2 rfl), (hS.mp 4 rfl), (hS.own 5 rfl)⟩, (at_done (by kernel_rfl) (Go.Wk.at_nil _ _))⟩ (by kernel_rfl) (thenQ_normal (?_))
          replace hS : St F_1 (Ow.box ba 151 #[.map (some ra_seen), v_2, .int .i64 a_all] :: Ow.map ra_seen (fun (x : Int × Int × Int × Int) => .agg #[.int .i64 x.1, .int .i64 x.2.1, .int .i64 x.2.2.1, .int .i64 x.2.2.2]) kI a_0_2 :: Ow.own 112 5 e_api_Given v_2 (a_1_2 ++ ([(gi l n_2)] : List (Int × Int × Int × Int × Str))) :: Ow.box b_2 153 #[.int .i64 ((gi l n_2).1), .int .i64 ((gi l n_2).2.2.1), .int .i64 ((gi l n_2).2.1), .int .i64 ((gi l n_2).2.2.2.1)] :: fr) h_8 := St.perm (front := [Ow.own 112 5 e_api_Given (.slice (some ⟨b_3, 0, none⟩) 1 1) ([(gi l n_2)] : List (Int × Int × Int × Int × Str)), Ow.box b_2 153 #[.int .i64 ((gi l n_2).1), .int .i64 ((gi l n_2).2.2.1), .int .i64 ((gi l n_2).2.1), .int .i64 ((gi l n_2).2.2.2.1)], Ow.box b_1 112 #[.int .i64 ((gi l n_2).1), .int .i64 ((gi l n_2).2.1), .int .i64 ((gi l n_2).2.2.1), .int .i64 ((gi l n_2).2.2.2.1), .string (bs ((gi l n_2).2.2.2.2))], Ow.box ba 151 #[.map (some ra_seen), v_2, .int .i64 a_all], Ow.map ra_seen (fun (x : Int × Int × Int × Int) => .agg #[.int .i64 x.1, .int .i64 x.2.1, .int .i64 x.2.2.1, .int .i64 x.2.2.2]) kI a_0_2, Ow.own 112 5 e_api_Given v_2 (a_1_2 ++ ([(gi l n_2)] : List (Int × Int × Int × Int × Str)))]) (fr := fr) hS [3, 4, 5, 1] 6 rfl (by decide) [Ow.box ba 151 #[.map (some ra_seen), v_2, .int .i64 a_all], Ow.map ra_seen (fun (x : Int × Int × Int × Int) => .agg #[.int .i64 x.1, .int .i64 x.2.1, .int .i64 x.2.2.1, .int .i64 x.2.2.2]) kI a_0_2, Ow.own 112 5 e_api_Given v_2 (a_1_2 ++ ([(gi l n_2)] : List (Int × Int × Int × Int × Str))), Ow.box b_2 153 #[.int .i64 ((gi l n_2).1), .int .i64 ((gi l n_2).2.2.1), .int .i64 ((gi l n_2).2.1), .int .i64 ((gi l n_2).2.2.2.1)]] rfl
          exact ⟨F_1, a_1_2 ++ ([(gi l n_2)] : List (Int × Int × Int × Int × Str)), v_2, rfl, rfl, rfl, rfl, rfl, rfl, rfl, hK, hS, hL_l, hM⟩
        · replace hM := hM.2 (of_decide_eq_false c_3)
          refine HW.skip (thenQ_normal (?_))
          replace hS : St F_1 (Ow.box ba 151 #[.map (some ra_seen), va_1_2, .int .i64 a_all] :: Ow.map ra_seen (fun (x : Int × Int × Int × Int) => .agg #[.int .i64 x.1, .int .i64 x.2.1, .int .i64 x.2.2.1, .int .i64 x.2.2.2]) kI a_0_2 :: Ow.own 112 5 e_api_Given va_1_2 a_1_2 :: Ow.box b_2 153 #[.int .i64 ((gi l n_2).1), .int .i64 ((gi l n_2).2.2.1), .int .i64 ((gi l n_2).2.1), .int .i64 ((gi l n_2).2.2.2.1)] :: fr) h_5 := St.perm (front := [Ow.box b_2 153 #[.int .i64 ((gi l n_2).1), .int .i64 ((gi l n_2).2.2.1), .int .i64 ((gi l n_2).2.1), .int .i64 ((gi l n_2).2.2.2.1)], Ow.box b_1 112 #[.int .i64 ((gi l n_2).1), .int .i64 ((gi l n_2).2.1), .int .i64 ((gi l n_2).2.2.1), .int .i64 ((gi l n_2).2.2.2.1), .string (bs ((gi l n_2).2.2.2.2))], Ow.box ba 151 #[.map (some ra_seen), va_1_2, .int .i64 a_all], Ow.map ra_seen (fun (x : Int × Int × Int × Int) => .agg #[.int .i64 x.1, .int .i64 x.2.1, .int .i64 x.2.2.1, .int .i64 x.2.2.2]) kI a_0_2, Ow.own 112 5 e_api_Given va_1_2 a_1_2]) (fr := fr) hS [2, 3, 4, 0] 5 rfl (by decide) [Ow.box ba 151 #[.map (some ra_seen), va_1_2, .int .i64 a_all], Ow.map ra_seen (fun (x : Int × Int × Int × Int) => .agg #[.int .i64 x.1, .int .i64 x.2.1, .int .i64 x.2.2.1, .int .i64 x.2.2.2]) kI a_0_2, Ow.own 112 5 e_api_Given va_1_2 a_1_2, Ow.box b_2 153 #[.int .i64 ((gi l n_2).1), .int .i64 ((gi l n_2).2.2.1), .int .i64 ((gi l n_2).2.1), .int .i64 ((gi l n_2).2.2.2.1)]] rfl
          exact ⟨F_1, a_1_2, va_1_2, rfl, rfl, rfl, rfl, rfl, rfl, rfl, hK, hS, hL_l, hM⟩
      · rintro f_2 h_9 ⟨F_2, a_1_3, va_1_3, e0, e4, e5, e8, e11, e12, e13, hK, hS, hL_l, hM⟩
        unfold audit_Audit_Add_j1 at hM
        refine HW.fr [(0, .pointer (some ⟨ba, 0, none⟩)), (4, .int .i64 0), (5, .int .i64 n_1), (8, .pointer (some ⟨b_2, 0, none⟩)), (11, vl), (12, .int .i64 (l.length : Int)), (13, .int .i64 n_2)] ⟨e0, e4, e5, e8, e11, e12, e13, trivial⟩ ?_
        refine HW.seq ?_
        refine HW.regionA 10 mixed (fun h => (SliceIs h 5 e_api_Given vl l) ∧ (Blk h ba (.cells #[.map (some ra_seen), va_1_3, .int .i64 a_all] 151 (0, 0))) ∧ (OwnIs h 0 112 5 e_api_Given va_1_3 a_1_3) ∧ (Blk h b_2 (.cells #[.int .i64 ((gi l n_2).1), .int .i64 ((gi l n_2).2.2.1), .int .i64 ((gi l n_2).2.1), .int .i64 ((gi l n_2).2.2.2.1)] 153 (0, 0)))) [(9, fun h => (Phi h ra_seen (fun (x : Int × Int × Int × Int) => .agg #[.int .i64 x.1, .int .i64 x.2.1, .int .i64 x.2.2.1, .int .i64 x.2.2.2]) kI ((gi l n_2).1, (gi l n_2).2.2.1, ((gi l n_2).2.1, (gi l n_2).2.2.2.1)) (mget0 a_0_2 ((gi l n_2).1, (gi l n_2).2.2.1, ((gi l n_2).2.1, (gi l n_2).2.2.2.1)))))] (by kernel_rfl) ?_
        refine HA.val (k := 0) (v := .pointer (some ⟨ba, 0, none⟩)) rfl rfl (by kernel_rfl) (by kernel_rfl) (want_none) rfl (fun _ ⟨hL_l, c365, c367, c368⟩ => q_move rfl) ?_
        refine HA.val (k := 1) (v := .pointer (some ⟨ba, 0, none⟩)) rfl rfl (by kernel_rfl) (by kernel_rfl) (want_none) rfl (fun _ ⟨hL_l, c365, c367, c368⟩ => q_nilCheck rfl) ?_
        refine HA.val (k := 2) (v := .pointer (some ⟨ba, 0, none⟩)) rfl rfl (by kernel_rfl) (by kernel_rfl) (want_none) rfl (fun _ ⟨hL_l, c365, c367, c368⟩ => q_fieldAddr fa_151_0 rfl rfl) ?_
        refine HA.val (k := 3) (v := .map (some ra_seen)) rfl rfl (by kernel_rfl) (by kernel_rfl) (want_none) rfl (fun _ ⟨hL_l, c365, c367, c368⟩ => q_load to_149 rfl (Blk.cell c365 rfl)) ?_
        refine HA.val (k := 4) (v := .agg #[.int .i64 ((gi l n_2).1), .int .i64 ((gi l n_2).2.2.1), .int .i64 ((gi l n_2).2.1), .int .i64 ((gi l n_2).2.2.2.1)]) rfl rfl (by kernel_rfl) (by kernel_rfl) (want_none) rfl (fun _ ⟨hL_l, c365, c367, c368⟩ => q_loadAgg (cs := [.int .i64 ((gi l n_2).1), .int .i64 ((gi l n_2).2.2.1), .int .i64 ((gi l n_2).2.1), .int .i64 ((gi l n_2).2.2.2.1)]) ta_153 rfl rfl (Blk.cells (k := 4) c368 rfl)) ?_
        refine Go.Wk.HA.valN (k := 5) (v := .int .i64 (mget0 a_0_2 ((gi l n_2).1, (gi l n_2).2.2.1, ((gi l n_2).2.1, (gi l n_2).2.2.2.1)))) 0 9 (fun h => (Phi h ra_seen (fun (x : Int × Int × Int × Int) => .agg #[.int .i64 x.1, .int .i64 x.2.1, .int .i64 x.2.2.1, .int .i64 x.2.2.2]) kI ((gi l n_2).1, (gi l n_2).2.2.1, ((gi l n_2).2.1, (gi l n_2).2.2.2.1)) (mget0 a_0_2 ((gi l n_2).1, (gi l n_2).2.2.1, ((gi l n_2).2.1, (gi l n_2).2.2.2.1))))) rfl rfl (by kernel_rfl) (by kernel_rfl) (want_none) rfl rfl (by kernel_rfl) (fun _ ⟨hL_l, c365, c367, c368⟩ c366 => q_lookupPhi (k := ((gi l n_2).1, (gi l n_2).2.2.1, ((gi l n_2).2.1, (gi l n_2).2.2.2.1))) ka_153 tmk_149 rfl c366 rfl rfl) ?_
        obtain ⟨ho_4, hM⟩ := hM
        refine HA.val (k := 6) (v := .int .i64 ((mget0 a_0_2 ((gi l n_2).1, (gi l n_2).2.2.1, ((gi l n_2).2.1, (gi l n_2).2.2.2.1))) + 1)) rfl rfl (by kernel_rfl) (by kernel_rfl) (want_none) rfl (fun _ ⟨hL_l, c365, c367, c368⟩ => q_addN _ rfl rfl rfl ho_4.1 ho_4.2) ?_
        refine HA.one (k := 7) ⟨⟨hL_l.is, (hS.box 0 rfl), (hS.own 2 rfl), (hS.box 3 rfl)⟩, (at_now (Phi.of_map (hS.mp 1 rfl)) (Go.Wk.at_nil _ _))⟩ (by kernel_rfl) ?_
        refine HS.eff rfl (want_none) rfl (st_mapEntry (k := ((gi l n_2).1, (gi l n_2).2.2.1, ((gi l n_2).2.1, (gi l n_2).2.2.2.1))) hS (i := 1) rfl ka_153 tmk_149 rfl rfl rfl) ?_
        rintro _ h_10 ⟨born_1, rfl, hS, hk⟩
        replace hS : St F_2 (Ow.box ba 151 #[.map (some ra_seen), va_1_3, .int .i64 a_all] :: Ow.at ra_seen (fun (x : Int × Int × Int × Int) => .agg #[.int .i64 x.1, .int .i64 x.2.1, .int .i64 x.2.2.1, .int .i64 x.2.2.2]) kI (mset a_0_2 ((gi l n_2).1, (gi l n_2).2.2.1, ((gi l n_2).2.1, (gi l n_2).2.2.2.1)) (mget0 a_0_2 ((gi l n_2).1, (gi l n_2).2.2.1, ((gi l n_2).2.1, (gi l n_2).2.2.2.1)))) ((gi l n_2).1, (gi l n_2).2.2.1, ((gi l n_2).2.1, (gi l n_2).2.2.2.1)) born_1 :: Ow.own 112 5 e_api_Given va_1_3 a_1_3 :: Ow.box b_2 153 #[.int .i64 ((gi l n_2).1), .int .i64 ((gi l n_2).2.2.1), .int .i64 ((gi l n_2).2.1), .int .i64 ((gi l n_2).2.2.2.1)] :: fr) h_10 := hS
        replace hK := hK.trans hk
        replace hL_l := hL_l.kp hk
        refine HA.val (k := 8) (v := .int .i64 (born_1 : Int)) rfl rfl (by kernel_rfl) (by kernel_rfl) (want_none) rfl (fun _ ⟨hL_l, c365, c367, c368⟩ => q_extract rfl rfl) ?_
        refine HA.one (k := 9) ⟨⟨hL_l.is, (hS.box 0 rfl), (hS.own 2 rfl), (hS.box 3 rfl)⟩, (at_now (Phi.of_at (hS.at' 1 rfl)) (Go.Wk.at_nil _ _))⟩ (by kernel_rfl) ?_
        refine HS.sto rfl (want_none) rfl (st_entryStore (v := (mget0 a_0_2 ((gi l n_2).1, (gi l n_2).2.2.1, ((gi l n_2).2.1, (gi l n_2).2.2.2.1))) + 1) hS (i := 1) rfl rfl rfl rfl) ?_
        rintro h_11 ⟨hS, hk⟩
        replace hS : St F_2 (Ow.box ba 151 #[.map (some ra_seen), va_1_3, .int .i64 a_all] :: Ow.map ra_seen (fun (x : Int × Int × Int × Int) => .agg #[.int .i64 x.1, .int .i64 x.2.1, .int .i64 x.2.2.1, .int .i64 x.2.2.2]) kI (mset a_0_2 ((gi l n_2).1, (gi l n_2).2.2.1, ((gi l n_2).2.1, (gi l n_2).2.2.2.1)) ((mget0 a_0_2 ((gi l n_2).1, (gi l n_2).2.2.1, ((gi l n_2).2.1, (gi l n_2).2.2.2.1))) + 1)) :: Ow.own 112 5 e_api_Given va_1_3 a_1_3 :: Ow.box b_2 153 #[.int .i64 ((gi l n_2).1), .int .i64 ((gi l n_2).2.2.1), .int .i64 ((gi l n_2).2.1), .int .i64 ((gi l n_2).2.2.2.1)] :: fr) h_11 := hS
        replace hK := hK.trans hk
        replace hL_l := hL_l.kp hk
        refine HA.nil ⟨⟨hL_l.is, (hS.box 0 rfl), (hS.own 2 rfl), (hS.box 3 rfl)⟩, (at_done (by kernel_rfl) (Go.Wk.at_nil _ _))⟩ (by kernel_rfl) (thenQ_normal (?_))
        refine HW.region ?_
        refine HO.val (v := .int .i64 n_1) (want_none) rfl (q_move rfl) ?_
        obtain ⟨ho_5, hM⟩ := hM
        refine HO.val (v := .int .i64 (n_1 + 1)) (want_none) rfl (q_addN _ rfl rfl rfl ho_5.1 ho_5.2) ?_
        refine HO.val (v := .int .i64 (n_1 + 1)) (want_none) rfl (q_assign rfl) ?_
        refine HO.nil (blockQ_normal (thenQ_normal (?_)))
        refine HW.region ?_
        obtain ⟨ho_6, hM⟩ := hM
        refine HO.val (v := .int .i64 (n_2 + 1)) (want_none) rfl (q_addN _ rfl rfl rfl ho_6.1 ho_6.2) ?_
        refine HO.val (v := .int .i64 (n_2 + 1)) (want_none) rfl (q_move rfl) ?_
        refine HO.nil (thenQ_normal (?_))
        replace hS : St F_2 (Ow.box ba 151 #[.map (some ra_seen), va_1_3, .int .i64 a_all] :: Ow.map ra_seen (fun (x : Int × Int × Int × Int) => .agg #[.int .i64 x.1, .int .i64 x.2.1, .int .i64 x.2.2.1, .int .i64 x.2.2.2]) kI (mset a_0_2 ((gi l n_2).1, (gi l n_2).2.2.1, ((gi l n_2).2.1, (gi l n_2).2.2.2.1)) ((mget0 a_0_2 ((gi l n_2).1, (gi l n_2).2.2.1, ((gi l n_2).2.1, (gi l n_2).2.2.2.1))) + 1)) :: Ow.own 112 5 e_api_Given va_1_3 a_1_3 :: fr) h_11 := St.perm (front := [Ow.box ba 151 #[.map (some ra_seen), va_1_3, .int .i64 a_all], Ow.map ra_seen (fun (x : Int × Int × Int × Int) => .agg #[.int .i64 x.1, .int .i64 x.2.1, .int .i64 x.2.2.1, .int .i64 x.2.2.2]) kI (mset a_0_2 ((gi l n_2).1, (gi l n_2).2.2.1, ((gi l n_2).2.1, (gi l n_2).2.2.2.1)) ((mget0 a_0_2 ((gi l n_2).1, (gi l n_2).2.2.1, ((gi l n_2).2.1, (gi l n_2).2.2.2.1))) + 1)), Ow.own 112 5 e_api_Given va_1_3 a_1_3, Ow.box b_2 153 #[.int .i64 ((gi l n_2).1), .int .i64 ((gi l n_2).2.2.1), .int .i64 ((gi l n_2).2.1), .int .i64 ((gi l n_2).2.2.2.1)]]) (fr := fr) hS [0, 1, 2] 4 rfl (by decide) [Ow.box ba 151 #[.map (some ra_seen), va_1_3, .int .i64 a_all], Ow.map ra_seen (fun (x : Int × Int × Int × Int) => .agg #[.int .i64 x.1, .int .i64 x.2.1, .int .i64 x.2.2.1, .int .i64 x.2.2.2]) kI (mset a_0_2 ((gi l n_2).1, (gi l n_2).2.2.1, ((gi l n_2).2.1, (gi l n_2).2.2.2.1)) ((mget0 a_0_2 ((gi l n_2).1, (gi l n_2).2.2.1, ((gi l n_2).2.1, (gi l n_2).2.2.2.1))) + 1)), Ow.own 112 5 e_api_Given va_1_3 a_1_3] rfl
        rw [hKe_1] at hM
        exact ⟨(mset a_0_2 ((gi l n_2).1, (gi l n_2).2.2.1, ((gi l n_2).2.1, (gi l n_2).2.2.2.1)) ((mget0 a_0_2 ((gi l n_2).1, (gi l n_2).2.2.1, ((gi l n_2).2.1, (gi l n_2).2.2.2.1))) + 1), a_1_3, n_1 + 1, n_2 + 1), ⟨F_2, va_1_3, rfl, rfl, rfl, rfl, rfl, rfl, hK, hS, hL_l, hM.1⟩, hM.2⟩
  · replace hM := hM.2 (of_decide_eq_false c_1)
    refine HW.exit (thenQ_exit (thenQ_exit (blockQ_exit (thenQ_normal (?_)))))
    refine HW.seq ?_
    refine HW.region ?_
    refine HO.val (v := .pointer (some ⟨ba, 0, none⟩)) (want_none) rfl (q_move rfl) ?_
    refine HO.val (v := .pointer (some ⟨ba, 0, none⟩)) (want_none) rfl (q_nilCheck rfl) ?_
    refine HO.val (v := .pointer (some ⟨ba, 2, none⟩)) (want_none) rfl (q_fieldAddr fa_151_2 rfl rfl) ?_
    refine HO.val (v := .int .i64 a_all) (want_none) rfl (q_load to_3 rfl (Blk.cell (hS.box 0 rfl) rfl)) ?_
    refine HO.val (v := .int .i64 n_1) (want_none) rfl (q_move rfl) ?_
    obtain ⟨ho_7, hM⟩ := hM
    refine HO.val (v := .int .i64 (a_all + n_1)) (want_none) rfl (q_addN _ rfl rfl rfl ho_7.1 ho_7.2) ?_
    refine HO.val (v := .pointer (some ⟨ba, 0, none⟩)) (want_none) rfl (q_nilCheck rfl) ?_
    refine HO.val (v := .pointer (some ⟨ba, 2, none⟩)) (want_none) rfl (q_fieldAddr fa_151_2 rfl rfl) ?_
    refine HO.sto (want_none) rfl (st_store (c' := #[.map (some ra_seen), va_1_2, .int .i64 (a_all + n_1)]) hS (i := 0) rfl to_3 rfl rfl rfl rfl (Nat.le_of_ble_eq_true rfl) rfl) ?_
    rintro h_12 ⟨hS, hk⟩
    replace hS : St F_1 (Ow.box ba 151 #[.map (some ra_seen), va_1_2, .int .i64 (a_all + n_1)] :: Ow.map ra_seen (fun (x : Int × Int × Int × Int) => .agg #[.int .i64 x.1, .int .i64 x.2.1, .int .i64 x.2.2.1, .int .i64 x.2.2.2]) kI a_0_2 :: Ow.own 112 5 e_api_Given va_1_2 a_1_2 :: fr) h_12 := hS
    replace hK := hK.trans hk
    replace hL_l := hL_l.kp hk
    refine HO.nil (thenQ_normal (?_))
    refine HW.seq ?_
    refine HW.region ?_
    refine HO.val (v := .int .i64 n_1) (want_none) rfl (q_move rfl) ?_
    refine HO.val (v := .int .i64 n_1) (want_none) rfl (q_assign rfl) ?_
    refine HO.nil (thenQ_normal (?_))
    refine HW.ret (?_)
    refine ⟨.inr rfl, .int .i64 n_1, res1 rfl (rt rfl), ?_⟩
    exact ⟨F_1, n_1, a_0_2, a_1_2, a_all + n_1, va_1_2, rfl, hK, hS, hL_l, hM⟩
end Go.Wk
