/- Walks of Addr laws. -/
import Derived.Test.YtamiodnbinhmhaaGreatDoorStrs
import Derived.Test.YtamiodnbinhmhaaGreatDoorLayT
import Derived.Test.YtamiodnbinhmhaaGreatDoorProg
set_option linter.unusedSimpArgs false
set_option linter.unusedVariables false
set_option linter.unusedSectionVars false
namespace Go.Wk
open Go.HL
open Go.Proofs hiding encI
variable [DM]
abbrev T_api_Addr := Bool × Ba 16
def tab10 (_ : Unit) : List Value := Lib.pow10Tab.map fun z => Value.int .u64 z
def tab64 : Ba 64 := mkB 64 [0, 1, 56, 2, 57, 49, 28, 3, 61, 58, 42, 50, 38, 29, 17, 4, 62, 47, 59, 36, 45, 43, 51, 22, 53, 39, 33, 30, 24, 18, 12, 5, 63, 55, 48, 27, 60, 41, 37, 16, 46, 35, 44, 21, 52, 32, 23, 11, 54, 26, 40, 15, 34, 20, 31, 10, 25, 14, 19, 9, 13, 8, 7, 6]
def e_api_Addr (x : T_api_Addr) : List Value := [.bool x.1, .int .u8 (b8 x.2 0), .int .u8 (b8 x.2 1), .int .u8 (b8 x.2 2), .int .u8 (b8 x.2 3), .int .u8 (b8 x.2 4), .int .u8 (b8 x.2 5), .int .u8 (b8 x.2 6), .int .u8 (b8 x.2 7), .int .u8 (b8 x.2 8), .int .u8 (b8 x.2 9), .int .u8 (b8 x.2 10), .int .u8 (b8 x.2 11), .int .u8 (b8 x.2 12), .int .u8 (b8 x.2 13), .int .u8 (b8 x.2 14), .int .u8 (b8 x.2 15)]
theorem one_e_api_Addr (x : T_api_Addr) : ∀ v ∈ e_api_Addr x, v.oneCell' = true := by intro v hv; simp [e_api_Addr] at hv; rcases hv with rfl | rfl | rfl | rfl | rfl | rfl | rfl | rfl | rfl | rfl | rfl | rfl | rfl | rfl | rfl | rfl | rfl <;> rfl
theorem tz_24 : TZero Tryz.prog 24 (.agg #[.bool false, .int .u8 0, .int .u8 0, .int .u8 0, .int .u8 0, .int .u8 0, .int .u8 0, .int .u8 0, .int .u8 0, .int .u8 0, .int .u8 0, .int .u8 0, .int .u8 0, .int .u8 0, .int .u8 0, .int .u8 0, .int .u8 0]) := Tryz.zeroValue24
theorem tz_22 : TZero Tryz.prog 22 (.agg #[.int .u8 0, .int .u8 0, .int .u8 0, .int .u8 0, .int .u8 0, .int .u8 0, .int .u8 0, .int .u8 0, .int .u8 0, .int .u8 0, .int .u8 0, .int .u8 0, .int .u8 0, .int .u8 0, .int .u8 0, .int .u8 0]) := Tryz.zeroValue22
theorem to_5 : TOne Tryz.prog 5 := ⟨Tryz.isAgg5, Tryz.sizeOf5⟩
theorem tr_22 : TArr Tryz.prog 22 16 5 := ⟨Tryz.underlying22, to_5, Tryz.underlying5, ⟨Tryz.t5, by kernel_rfl⟩, by kernel_rfl⟩
theorem tb_22 : TBuildA Tryz.prog 22 #[.int .u8 0, .int .u8 0, .int .u8 0, .int .u8 0, .int .u8 0, .int .u8 0, .int .u8 0, .int .u8 0, .int .u8 0, .int .u8 0, .int .u8 0, .int .u8 0, .int .u8 0, .int .u8 0, .int .u8 0, .int .u8 0] := tbuildA tr_22 tz_22 rfl
theorem tp_24 : TPlaces Tryz.prog 24 #[(0, 1), (1, 16)] #[.bool false, .int .u8 0, .int .u8 0, .int .u8 0, .int .u8 0, .int .u8 0, .int .u8 0, .int .u8 0, .int .u8 0, .int .u8 0, .int .u8 0, .int .u8 0, .int .u8 0, .int .u8 0, .int .u8 0, .int .u8 0, .int .u8 0] := tplaces Tryz.runUnderlying24 Tryz.zeroValue24 rfl (fun w => by kernel_rfl)
theorem ta_24 : TAgg Tryz.prog 24 17 := ⟨Tryz.isAgg24, Tryz.sizeOf24⟩
theorem fa_24_0 : FieldAt Tryz.prog 24 0 0 := fun a w => by kernel_rfl
theorem to_4 : TOne Tryz.prog 4 := ⟨Tryz.isAgg4, Tryz.sizeOf4⟩
theorem fa_24_1 : FieldAt Tryz.prog 24 1 1 := fun a w => by kernel_rfl
theorem en_23 (args : Array Value) (w : World) : (callFunc 23 args).run Tryz.prog w = .ok (.enter 23 args) w := by kernel_rfl
theorem teq_22 (d : Nat) (a b : Ba 16) (w : World) : (Op.equalIn (d + 2) 22 (.agg (arrCells a).toArray) (.agg (arrCells b).toArray)).run Tryz.prog w = .ok (decide (a = b)) w := teqArr tr_22 d a b w
set_option maxRecDepth 100000 in
theorem teq_24 (d : Nat) (a b : T_api_Addr) (w : World) : (Op.equalIn (d + 3) 24 (.agg (e_api_Addr a).toArray) (.agg (e_api_Addr b).toArray)).run Tryz.prog w = .ok (decide (a = b)) w := by
  refine (eqs w (d + 2) 24 _ _ Tryz.underlying24 (by kernel_rfl) (eqf_cons w (a := .bool a.1) (b := .bool b.1) (by decide) (by kernel_rfl) (by kernel_rfl) (run_equalIn_bool' w _ _ _ _ Tryz.underlying4) (eqf_cons w (a := .agg (arrCells a.2).toArray) (b := .agg (arrCells b.2).toArray) (by decide) (by kernel_rfl) (by kernel_rfl) (teq_22 (d + 0) _ _ w) (eqf_nil w)))).trans ?_
  congr 1; rw [Bool.eq_iff_iff]; simp [Prod.ext_iff]
theorem mixed : Tryz.prog.follows .mixedOrders = true := by kernel_rfl
theorem tz_28 : TZero Tryz.prog 28 (.agg #[.int .u8 0, .int .u8 0, .int .u8 0, .int .u8 0, .int .u8 0, .int .u8 0]) := Tryz.zeroValue28
theorem en_24 (args : Array Value) (w : World) : (callFunc 24 args).run Tryz.prog w = .ok (.enter 24 args) w := by kernel_rfl
theorem tr_28 : TArr Tryz.prog 28 6 5 := ⟨Tryz.underlying28, to_5, Tryz.underlying5, ⟨Tryz.t5, by kernel_rfl⟩, by kernel_rfl⟩
theorem tb_28 : TBuildA Tryz.prog 28 #[.int .u8 0, .int .u8 0, .int .u8 0, .int .u8 0, .int .u8 0, .int .u8 0] := tbuildA tr_28 tz_28 rfl
theorem ta_28 : TAgg Tryz.prog 28 6 := ⟨Tryz.isAgg28, Tryz.sizeOf28⟩
theorem en_15 (args : Array Value) (w : World) : (callFunc 15 args).run Tryz.prog w = .ok (.enter 15 args) w := by kernel_rfl
theorem ts_36 : TSlice Tryz.prog 36 5 1 := ⟨Tryz.underlying36, Tryz.sizeOf5⟩
theorem en_25 (args : Array Value) (w : World) : (callFunc 25 args).run Tryz.prog w = .ok (.enter 25 args) w := by kernel_rfl
theorem tz_5 : TZero Tryz.prog 5 (.int .u8 0) := Tryz.zeroValue5
theorem tl_36 : TLit Tryz.prog 36 5 1 #[.int .u8 0] := tlit ts_36 tz_5 rfl
theorem te_36 : TElem Tryz.prog 36 5 1 1 := ⟨Tryz.underlying36, ⟨Tryz.t5, .int .u8 0, by kernel_rfl, by kernel_rfl, by kernel_rfl, by kernel_rfl, by kernel_rfl⟩, by decide⟩
theorem ta_22 : TAgg Tryz.prog 22 16 := ⟨Tryz.isAgg22, Tryz.sizeOf22⟩
theorem en_51 (args : Array Value) (w : World) : (callFunc 51 args).run Tryz.prog w = .ok (.enter 51 args) w := by kernel_rfl
theorem en_38 (args : Array Value) (w : World) : (callFunc 38 args).run Tryz.prog w = .ok (.enter 38 args) w := by kernel_rfl
theorem en_30 (args : Array Value) (w : World) : (callFunc 30 args).run Tryz.prog w = .ok (.enter 30 args) w := by kernel_rfl
theorem en_26 (args : Array Value) (w : World) : (callFunc 26 args).run Tryz.prog w = .ok (.enter 26 args) w := by kernel_rfl
theorem en_21 (args : Array Value) (w : World) : (callFunc 21 args).run Tryz.prog w = .ok (.enter 21 args) w := by kernel_rfl
theorem en_67 (args : Array Value) (w : World) : (callFunc 67 args).run Tryz.prog w = .ok (.enter 67 args) w := by kernel_rfl
theorem en_68 (args : Array Value) (w : World) : (callFunc 68 args).run Tryz.prog w = .ok (.enter 68 args) w := by kernel_rfl
theorem en_53 (args : Array Value) (w : World) : (callFunc 53 args).run Tryz.prog w = .ok (.enter 53 args) w := by kernel_rfl
theorem en_54 (args : Array Value) (w : World) : (callFunc 54 args).run Tryz.prog w = .ok (.enter 54 args) w := by kernel_rfl
theorem en_73 (args : Array Value) (w : World) : (callFunc 73 args).run Tryz.prog w = .ok (.enter 73 args) w := by kernel_rfl
theorem en_55 (args : Array Value) (w : World) : (callFunc 55 args).run Tryz.prog w = .ok (.enter 55 args) w := by kernel_rfl
theorem en_39 (args : Array Value) (w : World) : (callFunc 39 args).run Tryz.prog w = .ok (.enter 39 args) w := by kernel_rfl
theorem ts_47 : TSlice Tryz.prog 47 9 1 := ⟨Tryz.underlying47, Tryz.sizeOf9⟩
theorem to_9 : TOne Tryz.prog 9 := ⟨Tryz.isAgg9, Tryz.sizeOf9⟩
theorem en_40 (args : Array Value) (w : World) : (callFunc 40 args).run Tryz.prog w = .ok (.enter 40 args) w := by kernel_rfl
theorem en_41 (args : Array Value) (w : World) : (callFunc 41 args).run Tryz.prog w = .ok (.enter 41 args) w := by kernel_rfl
theorem en_43 (args : Array Value) (w : World) : (callFunc 43 args).run Tryz.prog w = .ok (.enter 43 args) w := by kernel_rfl
theorem en_31 (args : Array Value) (w : World) : (callFunc 31 args).run Tryz.prog w = .ok (.enter 31 args) w := by kernel_rfl
theorem en_44 (args : Array Value) (w : World) : (callFunc 44 args).run Tryz.prog w = .ok (.enter 44 args) w := by kernel_rfl
theorem en_61 (args : Array Value) (w : World) : (callFunc 61 args).run Tryz.prog w = .ok (.enter 61 args) w := by kernel_rfl
theorem tr_124 : TArr Tryz.prog 124 64 5 := ⟨Tryz.underlying124, to_5, Tryz.underlying5, ⟨Tryz.t5, by kernel_rfl⟩, by kernel_rfl⟩
theorem en_102 (args : Array Value) (w : World) : (callFunc 102 args).run Tryz.prog w = .ok (.enter 102 args) w := by kernel_rfl
theorem tz_115 : TZero Tryz.prog 115 (.agg #[.int .u8 0, .int .u8 0, .int .u8 0, .int .u8 0, .int .u8 0, .int .u8 0, .int .u8 0, .int .u8 0, .int .u8 0, .int .u8 0, .int .u8 0, .int .u8 0, .int .u8 0, .int .u8 0, .int .u8 0, .int .u8 0, .int .u8 0, .int .u8 0, .int .u8 0, .int .u8 0, .int .u8 0, .int .u8 0, .int .u8 0, .int .u8 0, .int .u8 0, .int .u8 0, .int .u8 0, .int .u8 0, .int .u8 0, .int .u8 0, .int .u8 0, .int .u8 0, .int .u8 0, .int .u8 0, .int .u8 0, .int .u8 0, .int .u8 0, .int .u8 0, .int .u8 0, .int .u8 0, .int .u8 0, .int .u8 0, .int .u8 0, .int .u8 0, .int .u8 0, .int .u8 0, .int .u8 0, .int .u8 0, .int .u8 0, .int .u8 0, .int .u8 0, .int .u8 0, .int .u8 0, .int .u8 0, .int .u8 0, .int .u8 0, .int .u8 0, .int .u8 0, .int .u8 0, .int .u8 0, .int .u8 0, .int .u8 0, .int .u8 0, .int .u8 0, .int .u8 0]) := Tryz.zeroValue115
theorem en_99 (args : Array Value) (w : World) : (callFunc 99 args).run Tryz.prog w = .ok (.enter 99 args) w := by kernel_rfl
theorem en_100 (args : Array Value) (w : World) : (callFunc 100 args).run Tryz.prog w = .ok (.enter 100 args) w := by kernel_rfl
theorem tr_115 : TArr Tryz.prog 115 65 5 := ⟨Tryz.underlying115, to_5, Tryz.underlying5, ⟨Tryz.t5, by kernel_rfl⟩, by kernel_rfl⟩
theorem en_91 (args : Array Value) (w : World) : (callFunc 91 args).run Tryz.prog w = .ok (.enter 91 args) w := by kernel_rfl
theorem tz_105 : TZero Tryz.prog 105 (.agg #[.int .u8 0, .int .u8 0, .int .u8 0, .int .u8 0, .int .u8 0, .int .u8 0, .int .u8 0, .int .u8 0, .int .u8 0, .int .u8 0, .int .u8 0, .int .u8 0, .int .u8 0, .int .u8 0, .int .u8 0, .int .u8 0, .int .u8 0, .int .u8 0, .int .u8 0, .int .u8 0, .int .u8 0, .int .u8 0, .int .u8 0, .int .u8 0]) := Tryz.zeroValue105
theorem en_94 (args : Array Value) (w : World) : (callFunc 94 args).run Tryz.prog w = .ok (.enter 94 args) w := by kernel_rfl
theorem en_81 (args : Array Value) (w : World) : (callFunc 81 args).run Tryz.prog w = .ok (.enter 81 args) w := by kernel_rfl
theorem en_62 (args : Array Value) (w : World) : (callFunc 62 args).run Tryz.prog w = .ok (.enter 62 args) w := by kernel_rfl
theorem tz_9 : TZero Tryz.prog 9 (.string (bs [])) := Tryz.zeroValue9
theorem tl_47 : TLit Tryz.prog 47 9 1 #[.string (bs [])] := tlit ts_47 tz_9 rfl
theorem te_47 : TElem Tryz.prog 47 9 1 16 := ⟨Tryz.underlying47, ⟨Tryz.t9, .string (bs []), by kernel_rfl, by kernel_rfl, by kernel_rfl, by kernel_rfl, by kernel_rfl⟩, by decide⟩
theorem en_37 (args : Array Value) (w : World) : (callFunc 37 args).run Tryz.prog w = .ok (.enter 37 args) w := by kernel_rfl
theorem en_45 (args : Array Value) (w : World) : (callFunc 45 args).run Tryz.prog w = .ok (.enter 45 args) w := by kernel_rfl
theorem en_46 (args : Array Value) (w : World) : (callFunc 46 args).run Tryz.prog w = .ok (.enter 46 args) w := by kernel_rfl
theorem en_47 (args : Array Value) (w : World) : (callFunc 47 args).run Tryz.prog w = .ok (.enter 47 args) w := by kernel_rfl
theorem en_32 (args : Array Value) (w : World) : (callFunc 32 args).run Tryz.prog w = .ok (.enter 32 args) w := by kernel_rfl
theorem en_33 (args : Array Value) (w : World) : (callFunc 33 args).run Tryz.prog w = .ok (.enter 33 args) w := by kernel_rfl
theorem en_34 (args : Array Value) (w : World) : (callFunc 34 args).run Tryz.prog w = .ok (.enter 34 args) w := by kernel_rfl
theorem en_35 (args : Array Value) (w : World) : (callFunc 35 args).run Tryz.prog w = .ok (.enter 35 args) w := by kernel_rfl
theorem en_36 (args : Array Value) (w : World) : (callFunc 36 args).run Tryz.prog w = .ok (.enter 36 args) w := by kernel_rfl
theorem en_27 (args : Array Value) (w : World) : (callFunc 27 args).run Tryz.prog w = .ok (.enter 27 args) w := by kernel_rfl
theorem en_7 (args : Array Value) (w : World) : (callFunc 7 args).run Tryz.prog w = .ok (.enter 7 args) w := by kernel_rfl
theorem en_28 (args : Array Value) (w : World) : (callFunc 28 args).run Tryz.prog w = .ok (.enter 28 args) w := by kernel_rfl
theorem en_29 (args : Array Value) (w : World) : (callFunc 29 args).run Tryz.prog w = .ok (.enter 29 args) w := by kernel_rfl
theorem en_4 (args : Array Value) (w : World) : (callFunc 4 args).run Tryz.prog w = .ok (.enter 4 args) w := by kernel_rfl
theorem en_5 (args : Array Value) (w : World) : (callFunc 5 args).run Tryz.prog w = .ok (.enter 5 args) w := by kernel_rfl
theorem en_6 (args : Array Value) (w : World) : (callFunc 6 args).run Tryz.prog w = .ok (.enter 6 args) w := by kernel_rfl
theorem en_8 (args : Array Value) (w : World) : (callFunc 8 args).run Tryz.prog w = .ok (.enter 8 args) w := by kernel_rfl
theorem teq_28 (d : Nat) (a b : Ba 6) (w : World) : (Op.equalIn (d + 2) 28 (.agg (arrCells a).toArray) (.agg (arrCells b).toArray)).run Tryz.prog w = .ok (decide (a = b)) w := teqArr tr_28 d a b w
theorem en_9 (args : Array Value) (w : World) : (callFunc 9 args).run Tryz.prog w = .ok (.enter 9 args) w := by kernel_rfl
theorem en_10 (args : Array Value) (w : World) : (callFunc 10 args).run Tryz.prog w = .ok (.enter 10 args) w := by kernel_rfl
theorem en_11 (args : Array Value) (w : World) : (callFunc 11 args).run Tryz.prog w = .ok (.enter 11 args) w := by kernel_rfl
theorem en_12 (args : Array Value) (w : World) : (callFunc 12 args).run Tryz.prog w = .ok (.enter 12 args) w := by kernel_rfl
theorem en_13 (args : Array Value) (w : World) : (callFunc 13 args).run Tryz.prog w = .ok (.enter 13 args) w := by kernel_rfl
theorem en_14 (args : Array Value) (w : World) : (callFunc 14 args).run Tryz.prog w = .ok (.enter 14 args) w := by kernel_rfl
theorem en_16 (args : Array Value) (w : World) : (callFunc 16 args).run Tryz.prog w = .ok (.enter 16 args) w := by kernel_rfl
theorem en_17 (args : Array Value) (w : World) : (callFunc 17 args).run Tryz.prog w = .ok (.enter 17 args) w := by kernel_rfl
theorem en_18 (args : Array Value) (w : World) : (callFunc 18 args).run Tryz.prog w = .ok (.enter 18 args) w := by kernel_rfl
theorem en_19 (args : Array Value) (w : World) : (callFunc 19 args).run Tryz.prog w = .ok (.enter 19 args) w := by kernel_rfl
theorem en_20 (args : Array Value) (w : World) : (callFunc 20 args).run Tryz.prog w = .ok (.enter 20 args) w := by kernel_rfl
theorem en_22 (args : Array Value) (w : World) : (callFunc 22 args).run Tryz.prog w = .ok (.enter 22 args) w := by kernel_rfl
def addr_Ip4_W (a : Int) (b : Int) (c : Int) (d : Int) (Q : T_api_Addr → Prop) : Prop :=
  ((0 : Int) ≤ d ∧ d < 256) ∧ (((0 : Int) ≤ c ∧ c < 256) ∧ (((0 : Int) ≤ b ∧ b < 256) ∧ (((0 : Int) ≤ a ∧ a < 256) ∧ (Q (false, mkB 16 [a, b, c, d, 0, 0, 0, 0, 0, 0, 0, 0, 0, 0, 0, 0])))))
set_option maxHeartbeats 40000000 in
set_option maxRecDepth 100000 in
theorem addr_Ip4_walk {F : Fz} {fr : List Ow} {h0 : Heap} (a : Int) (b : Int) (c : Int) (d : Int) (hS : St F (fr) h0)  {Q : T_api_Addr → Prop} (hM : addr_Ip4_W a b c d Q) :
    HC Tryz.prog 23 #[.int .u8 a, .int .u8 b, .int .u8 c, .int .u8 d] h0 fun u h' => ∃ (F' : Fz) (r_1 : T_api_Addr), u = .agg (e_api_Addr r_1).toArray ∧ Kp F h0 F' h' ∧ St F' (fr) h' ∧ Q r_1 := by
  unfold addr_Ip4_W at hM
  have hK := Kp.refl F h0
  refine HC.of_HW (n := 15) Tryz.func23 rfl rfl (Nat.le_of_ble_eq_true rfl) ?_
  refine HW.seq ?_
  refine HW.region ?_
  refine HO.eff (want_none) rfl (st_alloc (c := (e_api_Addr (false, (default : Ba 16))).toArray) hS tz_24 rfl) ?_
  rintro _ h_1 ⟨b_1, rfl, hS, hk⟩
  replace hK := hK.trans hk
  refine HO.nil (thenQ_normal (?_))
  refine HW.seq ?_
  refine HW.region ?_
  refine HO.val (v := .int .u8 a) (want_none) rfl (q_move rfl) ?_
  refine HO.val (v := .int .u8 b) (want_none) rfl (q_move rfl) ?_
  refine HO.val (v := .int .u8 c) (want_none) rfl (q_move rfl) ?_
  refine HO.val (v := .int .u8 d) (want_none) rfl (q_move rfl) ?_
  obtain ⟨ho_1, hM⟩ := hM
  obtain ⟨ho_2, hM⟩ := hM
  obtain ⟨ho_3, hM⟩ := hM
  obtain ⟨ho_4, hM⟩ := hM
  refine HO.val (v := .agg (arrCells (mkB 16 [a, b, c, d, 0, 0, 0, 0, 0, 0, 0, 0, 0, 0, 0, 0])).toArray) (want_none) rfl ((q_buildA (cells := #[.int .u8 a, .int .u8 b, .int .u8 c, .int .u8 d, .int .u8 0, .int .u8 0, .int .u8 0, .int .u8 0, .int .u8 0, .int .u8 0, .int .u8 0, .int .u8 0, .int .u8 0, .int .u8 0, .int .u8 0, .int .u8 0]) tb_22 rfl).of_eq (mkB_agg (n := 16) (l := [a, b, c, d, 0, 0, 0, 0, 0, 0, 0, 0, 0, 0, 0, 0]) rfl ⟨ho_4, ⟨ho_3, ⟨ho_2, ⟨ho_1, ⟨⟨by decide, by decide⟩, ⟨⟨by decide, by decide⟩, ⟨⟨by decide, by decide⟩, ⟨⟨by decide, by decide⟩, ⟨⟨by decide, by decide⟩, ⟨⟨by decide, by decide⟩, ⟨⟨by decide, by decide⟩, ⟨⟨by decide, by decide⟩, ⟨⟨by decide, by decide⟩, ⟨⟨by decide, by decide⟩, ⟨⟨by decide, by decide⟩, ⟨⟨by decide, by decide⟩, trivial⟩⟩⟩⟩⟩⟩⟩⟩⟩⟩⟩⟩⟩⟩⟩⟩)) ?_
  refine HO.val (v := .agg (e_api_Addr (false, mkB 16 [a, b, c, d, 0, 0, 0, 0, 0, 0, 0, 0, 0, 0, 0, 0])).toArray) (want_none) rfl (q_build tp_24 (fill_cons (cs' := (e_api_Addr (false, mkB 16 [a, b, c, d, 0, 0, 0, 0, 0, 0, 0, 0, 0, 0, 0, 0])).toArray) (vc := (arrCells (mkB 16 [a, b, c, d, 0, 0, 0, 0, 0, 0, 0, 0, 0, 0, 0, 0])).toArray) rfl rfl rfl (Nat.le_of_ble_eq_true rfl) rfl rfl)) ?_
  refine HO.sto (want_none) rfl (st_storeAgg (c' := (e_api_Addr (false, mkB 16 [a, b, c, d, 0, 0, 0, 0, 0, 0, 0, 0, 0, 0, 0, 0])).toArray) hS (i := 0) rfl ta_24 rfl rfl rfl (one_e_api_Addr _) (Nat.le_of_ble_eq_true rfl) rfl) ?_
  rintro h_2 ⟨hS, hk⟩
  replace hS : St F (Ow.box b_1 24 (e_api_Addr (false, mkB 16 [a, b, c, d, 0, 0, 0, 0, 0, 0, 0, 0, 0, 0, 0, 0])).toArray :: fr) h_2 := hS
  replace hK := hK.trans hk
  refine HO.nil (thenQ_normal (?_))
  refine HW.ret (?_)
  refine ⟨.inr rfl, .agg (e_api_Addr (false, mkB 16 [a, b, c, d, 0, 0, 0, 0, 0, 0, 0, 0, 0, 0, 0, 0])).toArray, res1 rfl (rca (cs := (e_api_Addr (false, mkB 16 [a, b, c, d, 0, 0, 0, 0, 0, 0, 0, 0, 0, 0, 0, 0]))) ta_24 rfl rfl (Blk.cells (k := 17) (hS.box 0 rfl) rfl)), ?_⟩
  replace hS : St F (fr) h_2 := hS.perm2 [] 1 rfl rfl
  exact ⟨F, (false, mkB 16 [a, b, c, d, 0, 0, 0, 0, 0, 0, 0, 0, 0, 0, 0, 0]), rfl, hK, hS, hM⟩

def addr_Good_W (a : T_api_Addr) (Q : Bool → Prop) : Prop :=
  (a.1 = true → Q true) ∧ (a.1 = false → addr_Ip4_W (b8 a.2 0) (b8 a.2 1) (b8 a.2 2) (b8 a.2 3) (fun r_2 => Q (decide ((a : T_api_Addr) = r_2))))
set_option maxHeartbeats 40000000 in
set_option maxRecDepth 100000 in
theorem addr_Good_walk {F : Fz} {fr : List Ow} {h0 : Heap} (a : T_api_Addr) (hS : St F (fr) h0)  {Q : Bool → Prop} (hM : addr_Good_W a Q) :
    HC Tryz.prog 4 #[.agg (e_api_Addr a).toArray] h0 fun u h' => ∃ (F' : Fz) (r_1 : Bool), u = .bool r_1 ∧ Kp F h0 F' h' ∧ St F' (fr) h' ∧ Q r_1 := by
  unfold addr_Good_W at hM
  have hK := Kp.refl F h0
  refine HC.of_HW (n := 22) Tryz.func4 rfl rfl (Nat.le_of_ble_eq_true rfl) ?_
  refine HW.seq ?_
  refine HW.region ?_
  refine HO.eff (want_none) rfl (st_box (c := (e_api_Addr a).toArray) (k' := 17) hS rfl rfl) ?_
  rintro _ h_1 ⟨b_1, rfl, hS, hk⟩
  replace hK := hK.trans hk
  refine HO.val (v := .bool false) (want_none) rfl (q_assign rfl) ?_
  refine HO.nil (thenQ_normal (?_))
  refine HW.seq ?_
  refine HW.regionA 20 mixed (fun h => (Blk h b_1 (.cells (e_api_Addr a).toArray 24 (0, 0)))) [] (by kernel_rfl) ?_
  refine HA.val (k := 0) (v := .pointer (some ⟨b_1, 0, none⟩)) rfl rfl (by kernel_rfl) (by kernel_rfl) (want_none) rfl (fun _ c201 => q_fieldAddr fa_24_0 rfl rfl) ?_
  refine HA.val (k := 1) (v := .bool a.1) rfl rfl (by kernel_rfl) (by kernel_rfl) (want_none) rfl (fun _ c201 => q_load to_4 rfl (Blk.cell c201 rfl)) ?_
  refine HA.val (k := 2) (v := .bool a.1) rfl rfl (by kernel_rfl) (by kernel_rfl) (want_none) rfl (fun _ c201 => q_move rfl) ?_
  rcases Bool.eq_false_or_eq_true a.1 with c_1 | c_1
  · replace hM := hM.1 c_1
    refine HA.past (k := 3) rfl rfl (by kernel_rfl) (by kernel_rfl) (past_by rfl rfl c_1) rfl ?_
    refine HA.past (k := 4) rfl rfl (by kernel_rfl) (by kernel_rfl) (past_by rfl rfl c_1) rfl ?_
    refine HA.past (k := 5) rfl rfl (by kernel_rfl) (by kernel_rfl) (past_by rfl rfl c_1) rfl ?_
    refine HA.past (k := 6) rfl rfl (by kernel_rfl) (by kernel_rfl) (past_by rfl rfl c_1) rfl ?_
    refine HA.past (k := 7) rfl rfl (by kernel_rfl) (by kernel_rfl) (past_by rfl rfl c_1) rfl ?_
    refine HA.past (k := 8) rfl rfl (by kernel_rfl) (by kernel_rfl) (past_by rfl rfl c_1) rfl ?_
    refine HA.past (k := 9) rfl rfl (by kernel_rfl) (by kernel_rfl) (past_by rfl rfl c_1) rfl ?_
    refine HA.past (k := 10) rfl rfl (by kernel_rfl) (by kernel_rfl) (past_by rfl rfl c_1) rfl ?_
    refine HA.past (k := 11) rfl rfl (by kernel_rfl) (by kernel_rfl) (past_by rfl rfl c_1) rfl ?_
    refine HA.past (k := 12) rfl rfl (by kernel_rfl) (by kernel_rfl) (past_by rfl rfl c_1) rfl ?_
    refine HA.past (k := 13) rfl rfl (by kernel_rfl) (by kernel_rfl) (past_by rfl rfl c_1) rfl ?_
    refine HA.past (k := 14) rfl rfl (by kernel_rfl) (by kernel_rfl) (past_by rfl rfl c_1) rfl ?_
    refine HA.past (k := 15) rfl rfl (by kernel_rfl) (by kernel_rfl) (past_by rfl rfl c_1) rfl ?_
    refine HA.one (k := 16) ⟨(hS.box 0 rfl), (Go.Wk.at_nil _ _)⟩ (by kernel_rfl) ?_
    refine HS.past rfl (past_by rfl rfl c_1) rfl ?_
    refine HA.past (k := 17) rfl rfl (by kernel_rfl) (by kernel_rfl) (past_by rfl rfl c_1) rfl ?_
    refine HA.val (k := 18) (v := .bool true) rfl rfl (by kernel_rfl) (by kernel_rfl) (want_none) rfl (fun _ c201 => q_pickK true rfl c_1 rfl) ?_
    refine HA.val (k := 19) (v := .bool true) rfl rfl (by kernel_rfl) (by kernel_rfl) (want_none) rfl (fun _ c201 => q_assign rfl) ?_
    refine HA.nil ⟨(hS.box 0 rfl), (Go.Wk.at_nil _ _)⟩ (by kernel_rfl) (thenQ_normal (?_))
    refine HW.ret (?_)
    refine ⟨.inr rfl, .bool true, res1 rfl (rt rfl), ?_⟩
    replace hS : St F (fr) h_1 := hS.perm2 [] 1 rfl rfl
    exact ⟨F, true, rfl, hK, hS, hM⟩
  · replace hM := hM.2 c_1
    refine HA.val (k := 3) (v := .agg (e_api_Addr a).toArray) rfl rfl (by kernel_rfl) (by kernel_rfl) (want_by rfl rfl c_1) rfl (fun _ c201 => q_loadAgg (cs := (e_api_Addr a)) ta_24 rfl rfl (Blk.cells (k := 17) c201 rfl)) ?_
    refine HA.val (k := 4) (v := .pointer (some ⟨b_1, 1, none⟩)) rfl rfl (by kernel_rfl) (by kernel_rfl) (want_by rfl rfl c_1) rfl (fun _ c201 => q_fieldAddr fa_24_1 rfl rfl) ?_
    refine HA.val (k := 5) (v := .pointer (some ⟨b_1, 1, none⟩)) rfl rfl (by kernel_rfl) (by kernel_rfl) (want_by rfl rfl c_1) rfl (fun _ c201 => q_idxA (o := 1) (t := 0) tr_22 rfl rfl ⟨by decide, by decide⟩) ?_
    refine HA.val (k := 6) (v := .int .u8 (b8 a.2 0)) rfl rfl (by kernel_rfl) (by kernel_rfl) (want_by rfl rfl c_1) rfl (fun _ c201 => q_load to_5 rfl (Blk.cell c201 rfl)) ?_
    refine HA.val (k := 7) (v := .pointer (some ⟨b_1, 1, none⟩)) rfl rfl (by kernel_rfl) (by kernel_rfl) (want_by rfl rfl c_1) rfl (fun _ c201 => q_fieldAddr fa_24_1 rfl rfl) ?_
    refine HA.val (k := 8) (v := .pointer (some ⟨b_1, 2, none⟩)) rfl rfl (by kernel_rfl) (by kernel_rfl) (want_by rfl rfl c_1) rfl (fun _ c201 => q_idxA (o := 1) (t := 1) tr_22 rfl rfl ⟨by decide, by decide⟩) ?_
    refine HA.val (k := 9) (v := .int .u8 (b8 a.2 1)) rfl rfl (by kernel_rfl) (by kernel_rfl) (want_by rfl rfl c_1) rfl (fun _ c201 => q_load to_5 rfl (Blk.cell c201 rfl)) ?_
    refine HA.val (k := 10) (v := .pointer (some ⟨b_1, 1, none⟩)) rfl rfl (by kernel_rfl) (by kernel_rfl) (want_by rfl rfl c_1) rfl (fun _ c201 => q_fieldAddr fa_24_1 rfl rfl) ?_
    refine HA.val (k := 11) (v := .pointer (some ⟨b_1, 3, none⟩)) rfl rfl (by kernel_rfl) (by kernel_rfl) (want_by rfl rfl c_1) rfl (fun _ c201 => q_idxA (o := 1) (t := 2) tr_22 rfl rfl ⟨by decide, by decide⟩) ?_
    refine HA.val (k := 12) (v := .int .u8 (b8 a.2 2)) rfl rfl (by kernel_rfl) (by kernel_rfl) (want_by rfl rfl c_1) rfl (fun _ c201 => q_load to_5 rfl (Blk.cell c201 rfl)) ?_
    refine HA.val (k := 13) (v := .pointer (some ⟨b_1, 1, none⟩)) rfl rfl (by kernel_rfl) (by kernel_rfl) (want_by rfl rfl c_1) rfl (fun _ c201 => q_fieldAddr fa_24_1 rfl rfl) ?_
    refine HA.val (k := 14) (v := .pointer (some ⟨b_1, 4, none⟩)) rfl rfl (by kernel_rfl) (by kernel_rfl) (want_by rfl rfl c_1) rfl (fun _ c201 => q_idxA (o := 1) (t := 3) tr_22 rfl rfl ⟨by decide, by decide⟩) ?_
    refine HA.val (k := 15) (v := .int .u8 (b8 a.2 3)) rfl rfl (by kernel_rfl) (by kernel_rfl) (want_by rfl rfl c_1) rfl (fun _ c201 => q_load to_5 rfl (Blk.cell c201 rfl)) ?_
    refine HA.one (k := 16) ⟨(hS.box 0 rfl), (Go.Wk.at_nil _ _)⟩ (by kernel_rfl) ?_
    refine HS.call rfl (want_by rfl rfl c_1) rfl (ec en_23 rfl rfl) (addr_Ip4_walk (fr := (Ow.box b_1 24 (e_api_Addr a).toArray :: fr)) (b8 a.2 0) (b8 a.2 1) (b8 a.2 2) (b8 a.2 3) hS hM) ?_
    rintro _ h_2 ⟨F_1, r_2, rfl, hk, hS, hM⟩
    replace hK := hK.trans hk
    refine HA.val (k := 17) (v := .bool (decide ((a : T_api_Addr) = r_2))) rfl rfl (by kernel_rfl) (by kernel_rfl) (want_by rfl rfl c_1) rfl (fun _ c201 => q_eqlAgg (a := a) (b := r_2) (fun a b w => teq_24 9997 a b w) (by kernel_rfl) rfl rfl rfl rfl) ?_
    refine HA.val (k := 18) (v := .bool (decide ((a : T_api_Addr) = r_2))) rfl rfl (by kernel_rfl) (by kernel_rfl) (want_none) rfl (fun _ c201 => q_pickK false rfl c_1 rfl) ?_
    refine HA.val (k := 19) (v := .bool (decide ((a : T_api_Addr) = r_2))) rfl rfl (by kernel_rfl) (by kernel_rfl) (want_none) rfl (fun _ c201 => q_assign rfl) ?_
    refine HA.nil ⟨(hS.box 0 rfl), (Go.Wk.at_nil _ _)⟩ (by kernel_rfl) (thenQ_normal (?_))
    refine HW.ret (?_)
    refine ⟨.inr rfl, .bool (decide ((a : T_api_Addr) = r_2)), res1 rfl (rt rfl), ?_⟩
    replace hS : St F_1 (fr) h_2 := hS.perm2 [] 1 rfl rfl
    exact ⟨F_1, decide ((a : T_api_Addr) = r_2), rfl, hK, hS, hM⟩

def ref03_Good_l1 (a : T_api_Addr) (Q : Bool → Prop) (K_1 : Int → Prop) (i_1 : Int) : Prop :=
  (i_1 < 16 → ((!a.1) = true → ((0 : Int) ≤ i_1 ∧ i_1 < 16) ∧ ((¬ ((b8 a.2 i_1) = 0) → Q false) ∧ ((b8 a.2 i_1) = 0 → (I64 (i_1 + 1)) ∧ (K_1 (i_1 + 1))))) ∧ ((!a.1) = false → (I64 (i_1 + 1)) ∧ (K_1 (i_1 + 1)))) ∧ (¬ (i_1 < 16) → Q true)
def ref03_Good_W (a : T_api_Addr) (Q : Bool → Prop) : Prop :=
  loopW (fun (K_1 : Int → Prop) (s : Int) => ref03_Good_l1 a Q K_1 s) 4
set_option maxHeartbeats 40000000 in
set_option maxRecDepth 100000 in
theorem ref03_Good_walk {F : Fz} {fr : List Ow} {h0 : Heap} (a : T_api_Addr) (hS : St F (fr) h0)  {Q : Bool → Prop} (hM : ref03_Good_W a Q) :
    HC Tryz.prog 5 #[.agg (e_api_Addr a).toArray] h0 fun u h' => ∃ (F' : Fz) (r_1 : Bool), u = .bool r_1 ∧ Kp F h0 F' h' ∧ St F' (fr) h' ∧ Q r_1 := by
  unfold ref03_Good_W at hM
  have hK := Kp.refl F h0
  refine HC.of_HW (n := 18) Tryz.func5 rfl rfl (Nat.le_of_ble_eq_true rfl) ?_
  refine HW.seq ?_
  refine HW.region ?_
  refine HO.eff (want_none) rfl (st_box (c := (e_api_Addr a).toArray) (k' := 17) hS rfl rfl) ?_
  rintro _ h_1 ⟨b_1, rfl, hS, hk⟩
  replace hK := hK.trans hk
  refine HO.val (v := .bool false) (want_none) rfl (q_assign rfl) ?_
  refine HO.nil (thenQ_normal (?_))
  refine HW.seq ?_
  refine HW.seq ?_
  refine HW.region ?_
  refine HO.val (v := .int .i64 4) (want_none) rfl (q_assign rfl) ?_
  refine HO.nil (thenQ_normal (?_))
  refine HW.block ?_
  obtain ⟨I_1, m_1, hI_1, hR_1⟩ := hM
  refine HW.loop (S := Int) (fun i_1 f h => ∃ (F' : Fz), f 1 = .pointer (some ⟨b_1, 0, none⟩) ∧ f 2 = .bool false ∧ f 3 = .int .i64 i_1 ∧ Kp F h0 F' h ∧ St F' (Ow.box b_1 24 (e_api_Addr a).toArray :: fr) h ∧ I_1 i_1) m_1 4 ⟨F, rfl, rfl, rfl, hK, hS, hI_1⟩ ?_
  rintro i_1 f_1 h_2 ⟨F_1, e1, e2, e3, hK, hS, hI0⟩
  obtain ⟨K_1, hKe_1⟩ : ∃ K : Int → Prop, K = fun i_1' => I_1 i_1' ∧ m_1 i_1' < m_1 i_1 := ⟨_, rfl⟩
  have hM : ref03_Good_l1 a Q K_1 i_1 := by rw [hKe_1]; exact hR_1 i_1 hI0
  unfold ref03_Good_l1 at hM
  refine HW.fr [(1, .pointer (some ⟨b_1, 0, none⟩)), (2, .bool false), (3, .int .i64 i_1)] ⟨e1, e2, e3, trivial⟩ ?_
  refine HW.seq ?_
  refine HW.seq ?_
  refine HW.region ?_
  refine HO.val (v := .int .i64 i_1) (want_none) rfl (q_move rfl) ?_
  refine HO.val (v := .bool (decide (i_1 < 16))) (want_none) rfl (q_lss rfl rfl) ?_
  refine HO.nil (thenQ_normal (?_))
  refine HW.cond (decide (i_1 < 16)) rfl (fun c_1 => ?_) (fun c_1 => ?_)
  · replace hM := hM.1 (of_decide_eq_true c_1)
    refine HW.skip (thenQ_normal (?_))
    refine HW.seq ?_
    refine HW.block ?_
    refine HW.seq ?_
    refine HW.region ?_
    refine HO.val (v := .pointer (some ⟨b_1, 0, none⟩)) (want_none) rfl (q_fieldAddr fa_24_0 rfl rfl) ?_
    refine HO.val (v := .bool a.1) (want_none) rfl (q_load to_4 rfl (Blk.cell (hS.box 0 rfl) rfl)) ?_
    refine HO.val (v := .bool (!a.1)) (want_none) rfl (q_not rfl) ?_
    refine HO.val (v := .bool (!a.1)) (want_none) rfl (q_move rfl) ?_
    rcases Bool.eq_false_or_eq_true (!a.1) with c_2 | c_2
    · replace hM := hM.1 c_2
      refine HO.val (v := .int .i64 i_1) (want_by rfl rfl c_2) rfl (q_move rfl) ?_
      refine HO.val (v := .pointer (some ⟨b_1, 1, none⟩)) (want_by rfl rfl c_2) rfl (q_fieldAddr fa_24_1 rfl rfl) ?_
      obtain ⟨ho_1, hM⟩ := hM
      refine HO.val (v := .pointer (some ⟨b_1, 1 + (i_1).toNat, none⟩)) (want_by rfl rfl c_2) rfl (q_idxA (o := 1) (t := i_1) tr_22 rfl rfl ho_1) ?_
      refine HO.val (v := .int .u8 (b8 a.2 i_1)) (want_by rfl rfl c_2) rfl (q_ldArr (o := 1) (t := i_1) (X := a.2) to_5 rfl (hS.box 0 rfl) rfl ho_1) ?_
      refine HO.val (v := .bool (!decide ((b8 a.2 i_1) = 0))) (want_by rfl rfl c_2) rfl (q_neq rfl rfl) ?_
      refine HO.val (v := .bool (!decide ((b8 a.2 i_1) = 0))) (want_none) rfl (q_pickK true rfl c_2 rfl) ?_
      refine HO.nil (thenQ_normal (?_))
      refine HW.cond (!decide ((b8 a.2 i_1) = 0)) rfl (fun c_3 => ?_) (fun c_3 => ?_)
      · replace hM := hM.1 (nd_true c_3)
        refine HW.seq ?_
        refine HW.region ?_
        refine HO.val (v := .bool false) (want_none) rfl (q_assign rfl) ?_
        refine HO.nil (thenQ_normal (?_))
        refine HW.ret (blockQ_ret (thenQ_ret (thenQ_ret (blockQ_ret (thenQ_ret (?_))))))
        refine ⟨.inr rfl, .bool false, res1 rfl (rt rfl), ?_⟩
        replace hS : St F_1 (fr) h_2 := hS.perm2 [] 1 rfl rfl
        exact ⟨F_1, false, rfl, hK, hS, hM⟩
      · replace hM := hM.2 (nd_false c_3)
        refine HW.skip (blockQ_normal (thenQ_normal (?_)))
        refine HW.region ?_
        refine HO.val (v := .int .i64 i_1) (want_none) rfl (q_move rfl) ?_
        obtain ⟨ho_2, hM⟩ := hM
        refine HO.val (v := .int .i64 (i_1 + 1)) (want_none) rfl (q_addN _ rfl rfl rfl ho_2.1 ho_2.2) ?_
        refine HO.val (v := .int .i64 (i_1 + 1)) (want_none) rfl (q_assign rfl) ?_
        refine HO.nil (thenQ_normal (?_))
        rw [hKe_1] at hM
        exact ⟨i_1 + 1, ⟨F_1, rfl, rfl, rfl, hK, hS, hM.1⟩, hM.2⟩
    · replace hM := hM.2 c_2
      refine HO.past (past_by rfl rfl c_2) rfl ?_
      refine HO.past (past_by rfl rfl c_2) rfl ?_
      refine HO.past (past_by rfl rfl c_2) rfl ?_
      refine HO.past (past_by rfl rfl c_2) rfl ?_
      refine HO.past (past_by rfl rfl c_2) rfl ?_
      refine HO.val (v := .bool false) (want_none) rfl (q_pickK false rfl c_2 rfl) ?_
      refine HO.nil (thenQ_normal (?_))
      refine HW.condF rfl ?_
      refine HW.skip (blockQ_normal (thenQ_normal (?_)))
      refine HW.region ?_
      refine HO.val (v := .int .i64 i_1) (want_none) rfl (q_move rfl) ?_
      obtain ⟨ho_3, hM⟩ := hM
      refine HO.val (v := .int .i64 (i_1 + 1)) (want_none) rfl (q_addN _ rfl rfl rfl ho_3.1 ho_3.2) ?_
      refine HO.val (v := .int .i64 (i_1 + 1)) (want_none) rfl (q_assign rfl) ?_
      refine HO.nil (thenQ_normal (?_))
      rw [hKe_1] at hM
      exact ⟨i_1 + 1, ⟨F_1, rfl, rfl, rfl, hK, hS, hM.1⟩, hM.2⟩
  · replace hM := hM.2 (of_decide_eq_false c_1)
    refine HW.exit (thenQ_exit (thenQ_exit (blockQ_exit (thenQ_normal (?_)))))
    refine HW.seq ?_
    refine HW.region ?_
    refine HO.val (v := .bool true) (want_none) rfl (q_assign rfl) ?_
    refine HO.nil (thenQ_normal (?_))
    refine HW.ret (?_)
    refine ⟨.inr rfl, .bool true, res1 rfl (rt rfl), ?_⟩
    replace hS : St F_1 (fr) h_2 := hS.perm2 [] 1 rfl rfl
    exact ⟨F_1, true, rfl, hK, hS, hM⟩

def ref03_Own_l1 (a : T_api_Addr) (Q : T_api_Addr → Prop) (K_1 : (Ba 16) → Int → Prop) (a_1_1 : Ba 16) (i_1 : Int) : Prop :=
  (i_1 < 16 → ((!a.1) = true → ((0 : Int) ≤ i_1 ∧ i_1 < 16) ∧ ((I64 (i_1 + 1)) ∧ (K_1 (setB a_1_1 i_1 0) (i_1 + 1)))) ∧ ((!a.1) = false → (I64 (i_1 + 1)) ∧ (K_1 a_1_1 (i_1 + 1)))) ∧ (¬ (i_1 < 16) → Q (a.1, a_1_1))
def ref03_Own_W (a : T_api_Addr) (Q : T_api_Addr → Prop) : Prop :=
  loopW (fun (K_1 : (Ba 16 × Int) → Prop) (s : Ba 16 × Int) => ref03_Own_l1 a Q (fun a_1_1 i_1 => K_1 (a_1_1, i_1)) s.1 s.2) (a.2, 4)
set_option maxHeartbeats 40000000 in
set_option maxRecDepth 100000 in
theorem ref03_Own_walk {F : Fz} {fr : List Ow} {h0 : Heap} (a : T_api_Addr) (hS : St F (fr) h0)  {Q : T_api_Addr → Prop} (hM : ref03_Own_W a Q) :
    HC Tryz.prog 6 #[.agg (e_api_Addr a).toArray] h0 fun u h' => ∃ (F' : Fz) (r_1 : T_api_Addr), u = .agg (e_api_Addr r_1).toArray ∧ Kp F h0 F' h' ∧ St F' (fr) h' ∧ Q r_1 := by
  unfold ref03_Own_W at hM
  have hK := Kp.refl F h0
  refine HC.of_HW (n := 15) Tryz.func6 rfl rfl (Nat.le_of_ble_eq_true rfl) ?_
  refine HW.seq ?_
  refine HW.region ?_
  refine HO.eff (want_none) rfl (st_box (c := (e_api_Addr a).toArray) (k' := 17) hS rfl rfl) ?_
  rintro _ h_1 ⟨b_1, rfl, hS, hk⟩
  replace hK := hK.trans hk
  refine HO.eff (want_none) rfl (st_alloc (c := (e_api_Addr (false, (default : Ba 16))).toArray) hS tz_24 rfl) ?_
  rintro _ h_2 ⟨b_2, rfl, hS, hk⟩
  replace hK := hK.trans hk
  refine HO.nil (thenQ_normal (?_))
  refine HW.seq ?_
  refine HW.seq ?_
  refine HW.region ?_
  refine HO.val (v := .int .i64 4) (want_none) rfl (q_assign rfl) ?_
  refine HO.nil (thenQ_normal (?_))
  refine HW.block ?_
  obtain ⟨I_1, m_1, hI_1, hR_1⟩ := hM
  replace hS : St F (Ow.box b_1 24 (e_api_Addr a).toArray :: Ow.box b_2 24 (e_api_Addr (false, (default : Ba 16))).toArray :: fr) h_2 := hS.perm2 [1, 0] 2 rfl rfl
  refine HW.loop (S := Ba 16 × Int) (fun s f h => match s with | (a_1_1, i_1) => ∃ (F' : Fz), f 1 = .pointer (some ⟨b_1, 0, none⟩) ∧ f 2 = .pointer (some ⟨b_2, 0, none⟩) ∧ f 3 = .int .i64 i_1 ∧ Kp F h0 F' h ∧ St F' (Ow.box b_1 24 (e_api_Addr (a.1, a_1_1)).toArray :: Ow.box b_2 24 (e_api_Addr (false, (default : Ba 16))).toArray :: fr) h ∧ I_1 (a_1_1, i_1)) m_1 (a.2, 4) ⟨F, rfl, rfl, rfl, hK, hS, hI_1⟩ ?_
  rintro ⟨a_1_1, i_1⟩ f_1 h_3 ⟨F_1, e1, e2, e3, hK, hS, hI0⟩
  obtain ⟨K_1, hKe_1⟩ : ∃ K : (Ba 16) → Int → Prop, K = fun a_1_1' i_1' => I_1 (a_1_1', i_1') ∧ m_1 (a_1_1', i_1') < m_1 (a_1_1, i_1) := ⟨_, rfl⟩
  have hM : ref03_Own_l1 a Q K_1 a_1_1 i_1 := by rw [hKe_1]; exact hR_1 (a_1_1, i_1) hI0
  unfold ref03_Own_l1 at hM
  refine HW.fr [(1, .pointer (some ⟨b_1, 0, none⟩)), (2, .pointer (some ⟨b_2, 0, none⟩)), (3, .int .i64 i_1)] ⟨e1, e2, e3, trivial⟩ ?_
  refine HW.seq ?_
  refine HW.seq ?_
  refine HW.region ?_
  refine HO.val (v := .int .i64 i_1) (want_none) rfl (q_move rfl) ?_
  refine HO.val (v := .bool (decide (i_1 < 16))) (want_none) rfl (q_lss rfl rfl) ?_
  refine HO.nil (thenQ_normal (?_))
  refine HW.cond (decide (i_1 < 16)) rfl (fun c_1 => ?_) (fun c_1 => ?_)
  · replace hM := hM.1 (of_decide_eq_true c_1)
    refine HW.skip (thenQ_normal (?_))
    refine HW.seq ?_
    refine HW.block ?_
    refine HW.seq ?_
    refine HW.region ?_
    refine HO.val (v := .pointer (some ⟨b_1, 0, none⟩)) (want_none) rfl (q_fieldAddr fa_24_0 rfl rfl) ?_
    refine HO.val (v := .bool a.1) (want_none) rfl (q_load to_4 rfl (Blk.cell (hS.box 0 rfl) rfl)) ?_
    refine HO.val (v := .bool (!a.1)) (want_none) rfl (q_not rfl) ?_
    refine HO.nil (thenQ_normal (?_))
    refine HW.cond (!a.1) rfl (fun c_2 => ?_) (fun c_2 => ?_)
    · replace hM := hM.1 c_2
      refine HW.region ?_
      refine HO.val (v := .int .i64 i_1) (want_none) rfl (q_move rfl) ?_
      refine HO.val (v := .pointer (some ⟨b_1, 1, none⟩)) (want_none) rfl (q_fieldAddr fa_24_1 rfl rfl) ?_
      obtain ⟨ho_1, hM⟩ := hM
      refine HO.val (v := .pointer (some ⟨b_1, 1 + (i_1).toNat, none⟩)) (want_none) rfl (q_idxA (o := 1) (t := i_1) tr_22 rfl rfl ho_1) ?_
      refine HO.sto (want_none) rfl (st_storeSeg (n := 16) (o := 1) (X := a_1_1) (t := i_1) (u := 0) (c' := (e_api_Addr (a.1, setB a_1_1 i_1 0)).toArray) hS (i := 0) rfl to_5 rfl rfl ho_1 ⟨by decide, by decide⟩ rfl rfl) ?_
      rintro h_4 ⟨hS, hk⟩
      replace hS : St F_1 (Ow.box b_1 24 (e_api_Addr (a.1, setB a_1_1 i_1 0)).toArray :: Ow.box b_2 24 (e_api_Addr (false, (default : Ba 16))).toArray :: fr) h_4 := hS
      replace hK := hK.trans hk
      refine HO.nil (blockQ_normal (thenQ_normal (?_)))
      refine HW.region ?_
      refine HO.val (v := .int .i64 i_1) (want_none) rfl (q_move rfl) ?_
      obtain ⟨ho_2, hM⟩ := hM
      refine HO.val (v := .int .i64 (i_1 + 1)) (want_none) rfl (q_addN _ rfl rfl rfl ho_2.1 ho_2.2) ?_
      refine HO.val (v := .int .i64 (i_1 + 1)) (want_none) rfl (q_assign rfl) ?_
      refine HO.nil (thenQ_normal (?_))
      rw [hKe_1] at hM
      exact ⟨((setB a_1_1 i_1 0), i_1 + 1), ⟨F_1, rfl, rfl, rfl, hK, hS, hM.1⟩, hM.2⟩
    · replace hM := hM.2 c_2
      refine HW.skip (blockQ_normal (thenQ_normal (?_)))
      refine HW.region ?_
      refine HO.val (v := .int .i64 i_1) (want_none) rfl (q_move rfl) ?_
      obtain ⟨ho_3, hM⟩ := hM
      refine HO.val (v := .int .i64 (i_1 + 1)) (want_none) rfl (q_addN _ rfl rfl rfl ho_3.1 ho_3.2) ?_
      refine HO.val (v := .int .i64 (i_1 + 1)) (want_none) rfl (q_assign rfl) ?_
      refine HO.nil (thenQ_normal (?_))
      rw [hKe_1] at hM
      exact ⟨(a_1_1, i_1 + 1), ⟨F_1, rfl, rfl, rfl, hK, hS, hM.1⟩, hM.2⟩
  · replace hM := hM.2 (of_decide_eq_false c_1)
    refine HW.exit (thenQ_exit (thenQ_exit (blockQ_exit (thenQ_normal (?_)))))
    refine HW.seq ?_
    refine HW.region ?_
    refine HO.val (v := .agg (e_api_Addr (a.1, a_1_1)).toArray) (want_none) rfl (q_loadAgg (cs := (e_api_Addr (a.1, a_1_1))) ta_24 rfl rfl (Blk.cells (k := 17) (hS.box 0 rfl) rfl)) ?_
    refine HO.sto (want_none) rfl (st_storeAgg (c' := (e_api_Addr (a.1, a_1_1)).toArray) hS (i := 1) rfl ta_24 rfl rfl rfl (one_e_api_Addr _) (Nat.le_of_ble_eq_true rfl) rfl) ?_
    rintro h_5 ⟨hS, hk⟩
    replace hS : St F_1 (Ow.box b_1 24 (e_api_Addr (a.1, a_1_1)).toArray :: Ow.box b_2 24 (e_api_Addr (a.1, a_1_1)).toArray :: fr) h_5 := hS
    replace hK := hK.trans hk
    refine HO.nil (thenQ_normal (?_))
    refine HW.ret (?_)
    refine ⟨.inr rfl, .agg (e_api_Addr (a.1, a_1_1)).toArray, res1 rfl (rca (cs := (e_api_Addr (a.1, a_1_1))) ta_24 rfl rfl (Blk.cells (k := 17) (hS.box 1 rfl) rfl)), ?_⟩
    replace hS : St F_1 (fr) h_5 := hS.perm2 [] 2 rfl rfl
    exact ⟨F_1, (a.1, a_1_1), rfl, hK, hS, hM⟩

def addr_group_W (a : T_api_Addr) (Q : Bool → Prop) : Prop :=
  (a.1 = true → Q (decide ((b8 a.2 0) = 255))) ∧ (a.1 = false → ((0 : Int) ≤ ((b8 a.2 0).fdiv (2 ^ (min (4 : Int).toNat IntKind.u8.bits))) ∧ ((b8 a.2 0).fdiv (2 ^ (min (4 : Int).toNat IntKind.u8.bits))) < 256) ∧ (Q (decide (((u8w ((b8 a.2 0).fdiv (2 ^ (min (4 : Int).toNat IntKind.u8.bits)))).toNat : Int) = 14))))
set_option maxHeartbeats 40000000 in
set_option maxRecDepth 100000 in
theorem addr_group_walk {F : Fz} {fr : List Ow} {h0 : Heap} (a : T_api_Addr) (hS : St F (fr) h0)  {Q : Bool → Prop} (hM : addr_group_W a Q) :
    HC Tryz.prog 24 #[.agg (e_api_Addr a).toArray] h0 fun u h' => ∃ (F' : Fz) (r_1 : Bool), u = .bool r_1 ∧ Kp F h0 F' h' ∧ St F' (fr) h' ∧ Q r_1 := by
  unfold addr_group_W at hM
  have hK := Kp.refl F h0
  refine HC.of_HW (n := 14) Tryz.func24 rfl rfl (Nat.le_of_ble_eq_true rfl) ?_
  refine HW.seq ?_
  refine HW.region ?_
  refine HO.eff (want_none) rfl (st_box (c := (e_api_Addr a).toArray) (k' := 17) hS rfl rfl) ?_
  rintro _ h_1 ⟨b_1, rfl, hS, hk⟩
  replace hK := hK.trans hk
  refine HO.val (v := .bool false) (want_none) rfl (q_assign rfl) ?_
  refine HO.nil (thenQ_normal (?_))
  refine HW.seq ?_
  refine HW.seq ?_
  refine HW.region ?_
  refine HO.val (v := .pointer (some ⟨b_1, 0, none⟩)) (want_none) rfl (q_fieldAddr fa_24_0 rfl rfl) ?_
  refine HO.val (v := .bool a.1) (want_none) rfl (q_load to_4 rfl (Blk.cell (hS.box 0 rfl) rfl)) ?_
  refine HO.nil (thenQ_normal (?_))
  refine HW.cond a.1 rfl (fun c_1 => ?_) (fun c_1 => ?_)
  · replace hM := hM.1 c_1
    refine HW.seq ?_
    refine HW.region ?_
    refine HO.val (v := .pointer (some ⟨b_1, 1, none⟩)) (want_none) rfl (q_fieldAddr fa_24_1 rfl rfl) ?_
    refine HO.val (v := .pointer (some ⟨b_1, 1, none⟩)) (want_none) rfl (q_idxA (o := 1) (t := 0) tr_22 rfl rfl ⟨by decide, by decide⟩) ?_
    refine HO.val (v := .int .u8 (b8 a.2 0)) (want_none) rfl (q_load to_5 rfl (Blk.cell (hS.box 0 rfl) rfl)) ?_
    refine HO.val (v := .bool (decide ((b8 a.2 0) = 255))) (want_none) rfl (q_eql rfl rfl) ?_
    refine HO.val (v := .bool (decide ((b8 a.2 0) = 255))) (want_none) rfl (q_assign rfl) ?_
    refine HO.nil (thenQ_normal (?_))
    refine HW.ret (thenQ_ret (?_))
    refine ⟨.inr rfl, .bool (decide ((b8 a.2 0) = 255)), res1 rfl (rt rfl), ?_⟩
    replace hS : St F (fr) h_1 := hS.perm2 [] 1 rfl rfl
    exact ⟨F, decide ((b8 a.2 0) = 255), rfl, hK, hS, hM⟩
  · replace hM := hM.2 c_1
    refine HW.skip (thenQ_normal (?_))
    refine HW.seq ?_
    refine HW.region ?_
    refine HO.val (v := .pointer (some ⟨b_1, 1, none⟩)) (want_none) rfl (q_fieldAddr fa_24_1 rfl rfl) ?_
    refine HO.val (v := .pointer (some ⟨b_1, 1, none⟩)) (want_none) rfl (q_idxA (o := 1) (t := 0) tr_22 rfl rfl ⟨by decide, by decide⟩) ?_
    refine HO.val (v := .int .u8 (b8 a.2 0)) (want_none) rfl (q_load to_5 rfl (Blk.cell (hS.box 0 rfl) rfl)) ?_
    obtain ⟨ho_1, hM⟩ := hM
    refine HO.val (v := .int .u8 ((u8w ((b8 a.2 0).fdiv (2 ^ (min (4 : Int).toNat IntKind.u8.bits)))).toNat : Int)) (want_none) rfl ((q_shr rfl rfl (by decide) rfl).of_eq (u8r_v ho_1)) ?_
    refine HO.val (v := .bool (decide (((u8w ((b8 a.2 0).fdiv (2 ^ (min (4 : Int).toNat IntKind.u8.bits)))).toNat : Int) = 14))) (want_none) rfl (q_eql rfl rfl) ?_
    refine HO.val (v := .bool (decide (((u8w ((b8 a.2 0).fdiv (2 ^ (min (4 : Int).toNat IntKind.u8.bits)))).toNat : Int) = 14))) (want_none) rfl (q_assign rfl) ?_
    refine HO.nil (thenQ_normal (?_))
    refine HW.ret (?_)
    refine ⟨.inr rfl, .bool (decide (((u8w ((b8 a.2 0).fdiv (2 ^ (min (4 : Int).toNat IntKind.u8.bits)))).toNat : Int) = 14)), res1 rfl (rt rfl), ?_⟩
    replace hS : St F (fr) h_1 := hS.perm2 [] 1 rfl rfl
    exact ⟨F, decide (((u8w ((b8 a.2 0).fdiv (2 ^ (min (4 : Int).toNat IntKind.u8.bits)))).toNat : Int) = 14), rfl, hK, hS, hM⟩

def addr_Mac_W (a : T_api_Addr) (Q : (Ba 6) → Bool → Prop) : Prop :=
  addr_group_W a (fun r_1 => ((!r_1) = true → Q (mkB 6 [0, 0, 0, 0, 0, 0]) false) ∧ ((!r_1) = false → (a.1 = true → Q (mkB 6 [51, 51, b8 a.2 12, b8 a.2 13, b8 a.2 14, b8 a.2 15]) true) ∧ (a.1 = false → ((0 : Int) ≤ (bits .and .u8 (b8 a.2 1) 127) ∧ (bits .and .u8 (b8 a.2 1) 127) < 256) ∧ (Q (mkB 6 [1, 0, 94, ((u8w (bits .and .u8 (b8 a.2 1) 127)).toNat : Int), b8 a.2 2, b8 a.2 3]) true))))
set_option maxHeartbeats 40000000 in
set_option maxRecDepth 100000 in
theorem addr_Mac_walk {F : Fz} {fr : List Ow} {h0 : Heap} (a : T_api_Addr) (hS : St F (fr) h0)  {Q : (Ba 6) → Bool → Prop} (hM : addr_Mac_W a Q) :
    HC Tryz.prog 7 #[.agg (e_api_Addr a).toArray] h0 fun u h' => ∃ (F' : Fz) (r0_1 : Ba 6) (r1_1 : Bool), u = .tuple #[.agg (arrCells r0_1).toArray, .bool r1_1] ∧ Kp F h0 F' h' ∧ St F' (fr) h' ∧ Q r0_1 r1_1 := by
  unfold addr_Mac_W at hM
  have hK := Kp.refl F h0
  refine HC.of_HW (n := 36) Tryz.func7 rfl rfl (Nat.le_of_ble_eq_true rfl) ?_
  refine HW.seq ?_
  refine HW.region ?_
  refine HO.eff (want_none) rfl (st_box (c := (e_api_Addr a).toArray) (k' := 17) hS rfl rfl) ?_
  rintro _ h_1 ⟨b_1, rfl, hS, hk⟩
  replace hK := hK.trans hk
  refine HO.eff (want_none) rfl (st_alloc (c := (arrCells (default : Ba 6)).toArray) hS tz_28 rfl) ?_
  rintro _ h_2 ⟨b_2, rfl, hS, hk⟩
  replace hK := hK.trans hk
  refine HO.val (v := .bool false) (want_none) rfl (q_assign rfl) ?_
  refine HO.nil (thenQ_normal (?_))
  refine HW.seq ?_
  refine HW.block ?_
  refine HW.seq ?_
  refine HW.region ?_
  refine HO.val (v := .agg (e_api_Addr a).toArray) (want_none) rfl (q_loadAgg (cs := (e_api_Addr a)) ta_24 rfl rfl (Blk.cells (k := 17) (hS.box 1 rfl) rfl)) ?_
  refine HO.call (want_none) rfl (ec en_24 rfl rfl) (addr_group_walk (fr := (Ow.box b_2 28 (arrCells (default : Ba 6)).toArray :: Ow.box b_1 24 (e_api_Addr a).toArray :: fr)) a hS hM) ?_
  rintro _ h_3 ⟨F_1, r_1, rfl, hk, hS, hM⟩
  replace hK := hK.trans hk
  refine HO.val (v := .bool (!r_1)) (want_none) rfl (q_not rfl) ?_
  refine HO.val (v := .bool (!r_1)) (want_none) rfl (q_assign rfl) ?_
  refine HO.nil (thenQ_normal (?_))
  refine HW.cond (!r_1) rfl (fun c_1 => ?_) (fun c_1 => ?_)
  · replace hM := hM.1 c_1
    refine HW.seq ?_
    refine HW.region ?_
    refine HO.val (v := .agg (arrCells (mkB 6 [0, 0, 0, 0, 0, 0])).toArray) (want_none) rfl ((q_buildA (cells := #[.int .u8 0, .int .u8 0, .int .u8 0, .int .u8 0, .int .u8 0, .int .u8 0]) tb_28 rfl).of_eq (mkB_agg (n := 6) (l := [0, 0, 0, 0, 0, 0]) rfl ⟨⟨by decide, by decide⟩, ⟨⟨by decide, by decide⟩, ⟨⟨by decide, by decide⟩, ⟨⟨by decide, by decide⟩, ⟨⟨by decide, by decide⟩, ⟨⟨by decide, by decide⟩, trivial⟩⟩⟩⟩⟩⟩)) ?_
    refine HO.sto (want_none) rfl (st_storeAgg (c' := (arrCells (mkB 6 [0, 0, 0, 0, 0, 0])).toArray) hS (i := 0) rfl ta_28 rfl rfl rfl (one_arr _) (Nat.le_of_ble_eq_true rfl) rfl) ?_
    rintro h_4 ⟨hS, hk⟩
    replace hS : St F_1 (Ow.box b_2 28 (arrCells (mkB 6 [0, 0, 0, 0, 0, 0])).toArray :: Ow.box b_1 24 (e_api_Addr a).toArray :: fr) h_4 := hS
    replace hK := hK.trans hk
    refine HO.val (v := .bool false) (want_none) rfl (q_assign rfl) ?_
    refine HO.nil (thenQ_normal (?_))
    refine HW.ret (blockQ_ret (thenQ_ret (?_)))
    refine ⟨.inr rfl, .tuple #[.agg (arrCells (mkB 6 [0, 0, 0, 0, 0, 0])).toArray, .bool false], res2 rfl (rca (cs := (arrCells (mkB 6 [0, 0, 0, 0, 0, 0]))) ta_28 rfl rfl (Blk.cells (k := 6) (hS.box 0 rfl) rfl)) (rt rfl), ?_⟩
    replace hS : St F_1 (fr) h_4 := hS.perm2 [] 2 rfl rfl
    exact ⟨F_1, mkB 6 [0, 0, 0, 0, 0, 0], false, rfl, hK, hS, hM⟩
  · replace hM := hM.2 c_1
    refine HW.seq ?_
    refine HW.region ?_
    refine HO.val (v := .pointer (some ⟨b_1, 0, none⟩)) (want_none) rfl (q_fieldAddr fa_24_0 rfl rfl) ?_
    refine HO.val (v := .bool a.1) (want_none) rfl (q_load to_4 rfl (Blk.cell (hS.box 1 rfl) rfl)) ?_
    refine HO.val (v := .bool a.1) (want_none) rfl (q_assign rfl) ?_
    refine HO.nil (thenQ_normal (?_))
    refine HW.cond a.1 rfl (fun c_2 => ?_) (fun c_2 => ?_)
    · replace hM := hM.1 c_2
      refine HW.seq ?_
      refine HW.region ?_
      refine HO.val (v := .pointer (some ⟨b_1, 1, none⟩)) (want_none) rfl (q_fieldAddr fa_24_1 rfl rfl) ?_
      refine HO.val (v := .pointer (some ⟨b_1, 13, none⟩)) (want_none) rfl (q_idxA (o := 1) (t := 12) tr_22 rfl rfl ⟨by decide, by decide⟩) ?_
      refine HO.val (v := .int .u8 (b8 a.2 12)) (want_none) rfl (q_load to_5 rfl (Blk.cell (hS.box 1 rfl) rfl)) ?_
      refine HO.val (v := .pointer (some ⟨b_1, 1, none⟩)) (want_none) rfl (q_fieldAddr fa_24_1 rfl rfl) ?_
      refine HO.val (v := .pointer (some ⟨b_1, 14, none⟩)) (want_none) rfl (q_idxA (o := 1) (t := 13) tr_22 rfl rfl ⟨by decide, by decide⟩) ?_
      refine HO.val (v := .int .u8 (b8 a.2 13)) (want_none) rfl (q_load to_5 rfl (Blk.cell (hS.box 1 rfl) rfl)) ?_
      refine HO.val (v := .pointer (some ⟨b_1, 1, none⟩)) (want_none) rfl (q_fieldAddr fa_24_1 rfl rfl) ?_
      refine HO.val (v := .pointer (some ⟨b_1, 15, none⟩)) (want_none) rfl (q_idxA (o := 1) (t := 14) tr_22 rfl rfl ⟨by decide, by decide⟩) ?_
      refine HO.val (v := .int .u8 (b8 a.2 14)) (want_none) rfl (q_load to_5 rfl (Blk.cell (hS.box 1 rfl) rfl)) ?_
      refine HO.val (v := .pointer (some ⟨b_1, 1, none⟩)) (want_none) rfl (q_fieldAddr fa_24_1 rfl rfl) ?_
      refine HO.val (v := .pointer (some ⟨b_1, 16, none⟩)) (want_none) rfl (q_idxA (o := 1) (t := 15) tr_22 rfl rfl ⟨by decide, by decide⟩) ?_
      refine HO.val (v := .int .u8 (b8 a.2 15)) (want_none) rfl (q_load to_5 rfl (Blk.cell (hS.box 1 rfl) rfl)) ?_
      refine HO.val (v := .agg (arrCells (mkB 6 [51, 51, b8 a.2 12, b8 a.2 13, b8 a.2 14, b8 a.2 15])).toArray) (want_none) rfl ((q_buildA (cells := #[.int .u8 51, .int .u8 51, .int .u8 (b8 a.2 12), .int .u8 (b8 a.2 13), .int .u8 (b8 a.2 14), .int .u8 (b8 a.2 15)]) tb_28 rfl).of_eq (mkB_agg (n := 6) (l := [51, 51, b8 a.2 12, b8 a.2 13, b8 a.2 14, b8 a.2 15]) rfl ⟨⟨by decide, by decide⟩, ⟨⟨by decide, by decide⟩, ⟨(b8_rng _ _), ⟨(b8_rng _ _), ⟨(b8_rng _ _), ⟨(b8_rng _ _), trivial⟩⟩⟩⟩⟩⟩)) ?_
      refine HO.sto (want_none) rfl (st_storeAgg (c' := (arrCells (mkB 6 [51, 51, b8 a.2 12, b8 a.2 13, b8 a.2 14, b8 a.2 15])).toArray) hS (i := 0) rfl ta_28 rfl rfl rfl (one_arr _) (Nat.le_of_ble_eq_true rfl) rfl) ?_
      rintro h_5 ⟨hS, hk⟩
      replace hS : St F_1 (Ow.box b_2 28 (arrCells (mkB 6 [51, 51, b8 a.2 12, b8 a.2 13, b8 a.2 14, b8 a.2 15])).toArray :: Ow.box b_1 24 (e_api_Addr a).toArray :: fr) h_5 := hS
      replace hK := hK.trans hk
      refine HO.val (v := .bool true) (want_none) rfl (q_assign rfl) ?_
      refine HO.nil (thenQ_normal (?_))
      refine HW.ret (blockQ_ret (thenQ_ret (?_)))
      refine ⟨.inr rfl, .tuple #[.agg (arrCells (mkB 6 [51, 51, b8 a.2 12, b8 a.2 13, b8 a.2 14, b8 a.2 15])).toArray, .bool true], res2 rfl (rca (cs := (arrCells (mkB 6 [51, 51, b8 a.2 12, b8 a.2 13, b8 a.2 14, b8 a.2 15]))) ta_28 rfl rfl (Blk.cells (k := 6) (hS.box 0 rfl) rfl)) (rt rfl), ?_⟩
      replace hS : St F_1 (fr) h_5 := hS.perm2 [] 2 rfl rfl
      exact ⟨F_1, mkB 6 [51, 51, b8 a.2 12, b8 a.2 13, b8 a.2 14, b8 a.2 15], true, rfl, hK, hS, hM⟩
    · replace hM := hM.2 c_2
      refine HW.skip (blockQ_normal (thenQ_normal (?_)))
      refine HW.seq ?_
      refine HW.region ?_
      refine HO.val (v := .pointer (some ⟨b_1, 1, none⟩)) (want_none) rfl (q_fieldAddr fa_24_1 rfl rfl) ?_
      refine HO.val (v := .pointer (some ⟨b_1, 2, none⟩)) (want_none) rfl (q_idxA (o := 1) (t := 1) tr_22 rfl rfl ⟨by decide, by decide⟩) ?_
      refine HO.val (v := .int .u8 (b8 a.2 1)) (want_none) rfl (q_load to_5 rfl (Blk.cell (hS.box 1 rfl) rfl)) ?_
      obtain ⟨ho_1, hM⟩ := hM
      refine HO.val (v := .int .u8 ((u8w (bits .and .u8 (b8 a.2 1) 127)).toNat : Int)) (want_none) rfl ((q_bits (by simp) rfl rfl).of_eq (u8r_v ho_1)) ?_
      refine HO.val (v := .pointer (some ⟨b_1, 1, none⟩)) (want_none) rfl (q_fieldAddr fa_24_1 rfl rfl) ?_
      refine HO.val (v := .pointer (some ⟨b_1, 3, none⟩)) (want_none) rfl (q_idxA (o := 1) (t := 2) tr_22 rfl rfl ⟨by decide, by decide⟩) ?_
      refine HO.val (v := .int .u8 (b8 a.2 2)) (want_none) rfl (q_load to_5 rfl (Blk.cell (hS.box 1 rfl) rfl)) ?_
      refine HO.val (v := .pointer (some ⟨b_1, 1, none⟩)) (want_none) rfl (q_fieldAddr fa_24_1 rfl rfl) ?_
      refine HO.val (v := .pointer (some ⟨b_1, 4, none⟩)) (want_none) rfl (q_idxA (o := 1) (t := 3) tr_22 rfl rfl ⟨by decide, by decide⟩) ?_
      refine HO.val (v := .int .u8 (b8 a.2 3)) (want_none) rfl (q_load to_5 rfl (Blk.cell (hS.box 1 rfl) rfl)) ?_
      refine HO.val (v := .agg (arrCells (mkB 6 [1, 0, 94, ((u8w (bits .and .u8 (b8 a.2 1) 127)).toNat : Int), b8 a.2 2, b8 a.2 3])).toArray) (want_none) rfl ((q_buildA (cells := #[.int .u8 1, .int .u8 0, .int .u8 94, .int .u8 ((u8w (bits .and .u8 (b8 a.2 1) 127)).toNat : Int), .int .u8 (b8 a.2 2), .int .u8 (b8 a.2 3)]) tb_28 rfl).of_eq (mkB_agg (n := 6) (l := [1, 0, 94, ((u8w (bits .and .u8 (b8 a.2 1) 127)).toNat : Int), b8 a.2 2, b8 a.2 3]) rfl ⟨⟨by decide, by decide⟩, ⟨⟨by decide, by decide⟩, ⟨⟨by decide, by decide⟩, ⟨(u8_rng _), ⟨(b8_rng _ _), ⟨(b8_rng _ _), trivial⟩⟩⟩⟩⟩⟩)) ?_
      refine HO.sto (want_none) rfl (st_storeAgg (c' := (arrCells (mkB 6 [1, 0, 94, ((u8w (bits .and .u8 (b8 a.2 1) 127)).toNat : Int), b8 a.2 2, b8 a.2 3])).toArray) hS (i := 0) rfl ta_28 rfl rfl rfl (one_arr _) (Nat.le_of_ble_eq_true rfl) rfl) ?_
      rintro h_6 ⟨hS, hk⟩
      replace hS : St F_1 (Ow.box b_2 28 (arrCells (mkB 6 [1, 0, 94, ((u8w (bits .and .u8 (b8 a.2 1) 127)).toNat : Int), b8 a.2 2, b8 a.2 3])).toArray :: Ow.box b_1 24 (e_api_Addr a).toArray :: fr) h_6 := hS
      replace hK := hK.trans hk
      refine HO.val (v := .bool true) (want_none) rfl (q_assign rfl) ?_
      refine HO.nil (thenQ_normal (?_))
      refine HW.ret (?_)
      refine ⟨.inr rfl, .tuple #[.agg (arrCells (mkB 6 [1, 0, 94, ((u8w (bits .and .u8 (b8 a.2 1) 127)).toNat : Int), b8 a.2 2, b8 a.2 3])).toArray, .bool true], res2 rfl (rca (cs := (arrCells (mkB 6 [1, 0, 94, ((u8w (bits .and .u8 (b8 a.2 1) 127)).toNat : Int), b8 a.2 2, b8 a.2 3]))) ta_28 rfl rfl (Blk.cells (k := 6) (hS.box 0 rfl) rfl)) (rt rfl), ?_⟩
      replace hS : St F_1 (fr) h_6 := hS.perm2 [] 2 rfl rfl
      exact ⟨F_1, (mkB 6 [1, 0, 94, ((u8w (bits .and .u8 (b8 a.2 1) 127)).toNat : Int), b8 a.2 2, b8 a.2 3]), true, rfl, hK, hS, hM⟩

def ref03_Group_W (a : T_api_Addr) (Q : Bool → Prop) : Prop :=
  (a.1 = true → ((b8 a.2 0) = 255 → Q true) ∧ (¬ ((b8 a.2 0) = 255) → ((!a.1) = true → (224 ≤ (b8 a.2 0) → Q (decide ((b8 a.2 0) ≤ 239))) ∧ (¬ (224 ≤ (b8 a.2 0)) → Q false)) ∧ ((!a.1) = false → Q false))) ∧ (a.1 = false → ((!a.1) = true → (224 ≤ (b8 a.2 0) → Q (decide ((b8 a.2 0) ≤ 239))) ∧ (¬ (224 ≤ (b8 a.2 0)) → Q false)) ∧ ((!a.1) = false → Q false))
set_option maxHeartbeats 40000000 in
set_option maxRecDepth 100000 in
theorem ref03_Group_walk {F : Fz} {fr : List Ow} {h0 : Heap} (a : T_api_Addr) (hS : St F (fr) h0)  {Q : Bool → Prop} (hM : ref03_Group_W a Q) :
    HC Tryz.prog 15 #[.agg (e_api_Addr a).toArray] h0 fun u h' => ∃ (F' : Fz) (r_1 : Bool), u = .bool r_1 ∧ Kp F h0 F' h' ∧ St F' (fr) h' ∧ Q r_1 := by
  unfold ref03_Group_W at hM
  have hK := Kp.refl F h0
  refine HC.of_HW (n := 28) Tryz.func15 rfl rfl (Nat.le_of_ble_eq_true rfl) ?_
  refine HW.seq ?_
  refine HW.region ?_
  refine HO.eff (want_none) rfl (st_box (c := (e_api_Addr a).toArray) (k' := 17) hS rfl rfl) ?_
  rintro _ h_1 ⟨b_1, rfl, hS, hk⟩
  replace hK := hK.trans hk
  refine HO.val (v := .bool false) (want_none) rfl (q_assign rfl) ?_
  refine HO.nil (thenQ_normal (?_))
  refine HW.seq ?_
  refine HW.region ?_
  refine HO.val (v := .pointer (some ⟨b_1, 0, none⟩)) (want_none) rfl (q_fieldAddr fa_24_0 rfl rfl) ?_
  refine HO.val (v := .bool a.1) (want_none) rfl (q_load to_4 rfl (Blk.cell (hS.box 0 rfl) rfl)) ?_
  refine HO.val (v := .bool a.1) (want_none) rfl (q_move rfl) ?_
  rcases Bool.eq_false_or_eq_true a.1 with c_1 | c_1
  · replace hM := hM.1 c_1
    refine HO.val (v := .pointer (some ⟨b_1, 1, none⟩)) (want_by rfl rfl c_1) rfl (q_fieldAddr fa_24_1 rfl rfl) ?_
    refine HO.val (v := .pointer (some ⟨b_1, 1, none⟩)) (want_by rfl rfl c_1) rfl (q_idxA (o := 1) (t := 0) tr_22 rfl rfl ⟨by decide, by decide⟩) ?_
    refine HO.val (v := .int .u8 (b8 a.2 0)) (want_by rfl rfl c_1) rfl (q_load to_5 rfl (Blk.cell (hS.box 0 rfl) rfl)) ?_
    refine HO.val (v := .bool (decide ((b8 a.2 0) = 255))) (want_by rfl rfl c_1) rfl (q_eql rfl rfl) ?_
    refine HO.val (v := .bool (decide ((b8 a.2 0) = 255))) (want_none) rfl (q_pickK true rfl c_1 rfl) ?_
    refine HO.val (v := .bool (decide ((b8 a.2 0) = 255))) (want_none) rfl (q_move rfl) ?_
    rcases Bool.eq_false_or_eq_true (decide ((b8 a.2 0) = 255)) with c_2 | c_2
    · replace hM := hM.1 (of_decide_eq_true c_2)
      refine HO.past (past_by rfl rfl c_2) rfl ?_
      refine HO.past (past_by rfl rfl c_2) rfl ?_
      refine HO.past (past_by rfl rfl c_2) rfl ?_
      refine HO.past (past_by rfl rfl c_2) rfl ?_
      refine HO.past (past_undef rfl rfl) rfl ?_
      refine HO.past (past_undef rfl rfl) rfl ?_
      refine HO.past (past_undef rfl rfl) rfl ?_
      refine HO.past (past_undef rfl rfl) rfl ?_
      refine HO.past (past_by rfl rfl c_2) rfl ?_
      refine HO.past (past_by rfl rfl c_2) rfl ?_
      refine HO.past (past_undef rfl rfl) rfl ?_
      refine HO.past (past_undef rfl rfl) rfl ?_
      refine HO.past (past_undef rfl rfl) rfl ?_
      refine HO.past (past_undef rfl rfl) rfl ?_
      refine HO.past (past_by rfl rfl c_2) rfl ?_
      refine HO.val (v := .bool true) (want_none) rfl (q_pickK true rfl c_2 rfl) ?_
      refine HO.val (v := .bool true) (want_none) rfl (q_assign rfl) ?_
      refine HO.nil (thenQ_normal (?_))
      refine HW.ret (?_)
      refine ⟨.inr rfl, .bool true, res1 rfl (rt rfl), ?_⟩
      replace hS : St F (fr) h_1 := hS.perm2 [] 1 rfl rfl
      exact ⟨F, true, rfl, hK, hS, hM⟩
    · replace hM := hM.2 (of_decide_eq_false c_2)
      refine HO.val (v := .pointer (some ⟨b_1, 0, none⟩)) (want_by rfl rfl c_2) rfl (q_fieldAddr fa_24_0 rfl rfl) ?_
      refine HO.val (v := .bool a.1) (want_by rfl rfl c_2) rfl (q_load to_4 rfl (Blk.cell (hS.box 0 rfl) rfl)) ?_
      refine HO.val (v := .bool (!a.1)) (want_by rfl rfl c_2) rfl (q_not rfl) ?_
      refine HO.val (v := .bool (!a.1)) (want_by rfl rfl c_2) rfl (q_move rfl) ?_
      rcases Bool.eq_false_or_eq_true (!a.1) with c_3 | c_3
      · replace hM := hM.1 c_3
        refine HO.val (v := .pointer (some ⟨b_1, 1, none⟩)) (want_by rfl rfl c_3) rfl (q_fieldAddr fa_24_1 rfl rfl) ?_
        refine HO.val (v := .pointer (some ⟨b_1, 1, none⟩)) (want_by rfl rfl c_3) rfl (q_idxA (o := 1) (t := 0) tr_22 rfl rfl ⟨by decide, by decide⟩) ?_
        refine HO.val (v := .int .u8 (b8 a.2 0)) (want_by rfl rfl c_3) rfl (q_load to_5 rfl (Blk.cell (hS.box 0 rfl) rfl)) ?_
        refine HO.val (v := .bool (decide (224 ≤ (b8 a.2 0)))) (want_by rfl rfl c_3) rfl (q_geq rfl rfl) ?_
        refine HO.val (v := .bool (decide (224 ≤ (b8 a.2 0)))) (want_by rfl rfl c_2) rfl (q_pickK true rfl c_3 rfl) ?_
        refine HO.val (v := .bool (decide (224 ≤ (b8 a.2 0)))) (want_by rfl rfl c_2) rfl (q_move rfl) ?_
        rcases Bool.eq_false_or_eq_true (decide (224 ≤ (b8 a.2 0))) with c_4 | c_4
        · replace hM := hM.1 (of_decide_eq_true c_4)
          refine HO.val (v := .pointer (some ⟨b_1, 1, none⟩)) (want_by rfl rfl c_4) rfl (q_fieldAddr fa_24_1 rfl rfl) ?_
          refine HO.val (v := .pointer (some ⟨b_1, 1, none⟩)) (want_by rfl rfl c_4) rfl (q_idxA (o := 1) (t := 0) tr_22 rfl rfl ⟨by decide, by decide⟩) ?_
          refine HO.val (v := .int .u8 (b8 a.2 0)) (want_by rfl rfl c_4) rfl (q_load to_5 rfl (Blk.cell (hS.box 0 rfl) rfl)) ?_
          refine HO.val (v := .bool (decide ((b8 a.2 0) ≤ 239))) (want_by rfl rfl c_4) rfl (q_leq rfl rfl) ?_
          refine HO.val (v := .bool (decide ((b8 a.2 0) ≤ 239))) (want_by rfl rfl c_2) rfl (q_pickK true rfl c_4 rfl) ?_
          refine HO.val (v := .bool (decide ((b8 a.2 0) ≤ 239))) (want_none) rfl (q_pickK false rfl c_2 rfl) ?_
          refine HO.val (v := .bool (decide ((b8 a.2 0) ≤ 239))) (want_none) rfl (q_assign rfl) ?_
          refine HO.nil (thenQ_normal (?_))
          refine HW.ret (?_)
          refine ⟨.inr rfl, .bool (decide ((b8 a.2 0) ≤ 239)), res1 rfl (rt rfl), ?_⟩
          replace hS : St F (fr) h_1 := hS.perm2 [] 1 rfl rfl
          exact ⟨F, decide ((b8 a.2 0) ≤ 239), rfl, hK, hS, hM⟩
        · replace hM := hM.2 (of_decide_eq_false c_4)
          refine HO.past (past_by rfl rfl c_4) rfl ?_
          refine HO.past (past_by rfl rfl c_4) rfl ?_
          refine HO.past (past_by rfl rfl c_4) rfl ?_
          refine HO.past (past_by rfl rfl c_4) rfl ?_
          refine HO.val (v := .bool false) (want_by rfl rfl c_2) rfl (q_pickK false rfl c_4 rfl) ?_
          refine HO.val (v := .bool false) (want_none) rfl (q_pickK false rfl c_2 rfl) ?_
          refine HO.val (v := .bool false) (want_none) rfl (q_assign rfl) ?_
          refine HO.nil (thenQ_normal (?_))
          refine HW.ret (?_)
          refine ⟨.inr rfl, .bool false, res1 rfl (rt rfl), ?_⟩
          replace hS : St F (fr) h_1 := hS.perm2 [] 1 rfl rfl
          exact ⟨F, false, rfl, hK, hS, hM⟩
      · replace hM := hM.2 c_3
        refine HO.past (past_by rfl rfl c_3) rfl ?_
        refine HO.past (past_by rfl rfl c_3) rfl ?_
        refine HO.past (past_by rfl rfl c_3) rfl ?_
        refine HO.past (past_by rfl rfl c_3) rfl ?_
        refine HO.val (v := .bool false) (want_by rfl rfl c_2) rfl (q_pickK false rfl c_3 rfl) ?_
        refine HO.val (v := .bool false) (want_by rfl rfl c_2) rfl (q_move rfl) ?_
        refine HO.past (past_some rfl rfl) rfl ?_
        refine HO.past (past_some rfl rfl) rfl ?_
        refine HO.past (past_some rfl rfl) rfl ?_
        refine HO.past (past_some rfl rfl) rfl ?_
        refine HO.val (v := .bool false) (want_by rfl rfl c_2) rfl (q_pick rfl rfl) ?_
        refine HO.val (v := .bool false) (want_none) rfl (q_pickK false rfl c_2 rfl) ?_
        refine HO.val (v := .bool false) (want_none) rfl (q_assign rfl) ?_
        refine HO.nil (thenQ_normal (?_))
        refine HW.ret (?_)
        refine ⟨.inr rfl, .bool false, res1 rfl (rt rfl), ?_⟩
        replace hS : St F (fr) h_1 := hS.perm2 [] 1 rfl rfl
        exact ⟨F, false, rfl, hK, hS, hM⟩
  · replace hM := hM.2 c_1
    refine HO.past (past_by rfl rfl c_1) rfl ?_
    refine HO.past (past_by rfl rfl c_1) rfl ?_
    refine HO.past (past_by rfl rfl c_1) rfl ?_
    refine HO.past (past_by rfl rfl c_1) rfl ?_
    refine HO.val (v := .bool false) (want_none) rfl (q_pickK false rfl c_1 rfl) ?_
    refine HO.val (v := .bool false) (want_none) rfl (q_move rfl) ?_
    refine HO.val (v := .pointer (some ⟨b_1, 0, none⟩)) (want_some rfl rfl) rfl (q_fieldAddr fa_24_0 rfl rfl) ?_
    refine HO.val (v := .bool a.1) (want_some rfl rfl) rfl (q_load to_4 rfl (Blk.cell (hS.box 0 rfl) rfl)) ?_
    refine HO.val (v := .bool (!a.1)) (want_some rfl rfl) rfl (q_not rfl) ?_
    refine HO.val (v := .bool (!a.1)) (want_some rfl rfl) rfl (q_move rfl) ?_
    rcases Bool.eq_false_or_eq_true (!a.1) with c_5 | c_5
    · replace hM := hM.1 c_5
      refine HO.val (v := .pointer (some ⟨b_1, 1, none⟩)) (want_by rfl rfl c_5) rfl (q_fieldAddr fa_24_1 rfl rfl) ?_
      refine HO.val (v := .pointer (some ⟨b_1, 1, none⟩)) (want_by rfl rfl c_5) rfl (q_idxA (o := 1) (t := 0) tr_22 rfl rfl ⟨by decide, by decide⟩) ?_
      refine HO.val (v := .int .u8 (b8 a.2 0)) (want_by rfl rfl c_5) rfl (q_load to_5 rfl (Blk.cell (hS.box 0 rfl) rfl)) ?_
      refine HO.val (v := .bool (decide (224 ≤ (b8 a.2 0)))) (want_by rfl rfl c_5) rfl (q_geq rfl rfl) ?_
      refine HO.val (v := .bool (decide (224 ≤ (b8 a.2 0)))) (want_some rfl rfl) rfl (q_pickK true rfl c_5 rfl) ?_
      refine HO.val (v := .bool (decide (224 ≤ (b8 a.2 0)))) (want_some rfl rfl) rfl (q_move rfl) ?_
      rcases Bool.eq_false_or_eq_true (decide (224 ≤ (b8 a.2 0))) with c_6 | c_6
      · replace hM := hM.1 (of_decide_eq_true c_6)
        refine HO.val (v := .pointer (some ⟨b_1, 1, none⟩)) (want_by rfl rfl c_6) rfl (q_fieldAddr fa_24_1 rfl rfl) ?_
        refine HO.val (v := .pointer (some ⟨b_1, 1, none⟩)) (want_by rfl rfl c_6) rfl (q_idxA (o := 1) (t := 0) tr_22 rfl rfl ⟨by decide, by decide⟩) ?_
        refine HO.val (v := .int .u8 (b8 a.2 0)) (want_by rfl rfl c_6) rfl (q_load to_5 rfl (Blk.cell (hS.box 0 rfl) rfl)) ?_
        refine HO.val (v := .bool (decide ((b8 a.2 0) ≤ 239))) (want_by rfl rfl c_6) rfl (q_leq rfl rfl) ?_
        refine HO.val (v := .bool (decide ((b8 a.2 0) ≤ 239))) (want_some rfl rfl) rfl (q_pickK true rfl c_6 rfl) ?_
        refine HO.val (v := .bool (decide ((b8 a.2 0) ≤ 239))) (want_none) rfl (q_pick rfl rfl) ?_
        refine HO.val (v := .bool (decide ((b8 a.2 0) ≤ 239))) (want_none) rfl (q_assign rfl) ?_
        refine HO.nil (thenQ_normal (?_))
        refine HW.ret (?_)
        refine ⟨.inr rfl, .bool (decide ((b8 a.2 0) ≤ 239)), res1 rfl (rt rfl), ?_⟩
        replace hS : St F (fr) h_1 := hS.perm2 [] 1 rfl rfl
        exact ⟨F, decide ((b8 a.2 0) ≤ 239), rfl, hK, hS, hM⟩
      · replace hM := hM.2 (of_decide_eq_false c_6)
        refine HO.past (past_by rfl rfl c_6) rfl ?_
        refine HO.past (past_by rfl rfl c_6) rfl ?_
        refine HO.past (past_by rfl rfl c_6) rfl ?_
        refine HO.past (past_by rfl rfl c_6) rfl ?_
        refine HO.val (v := .bool false) (want_some rfl rfl) rfl (q_pickK false rfl c_6 rfl) ?_
        refine HO.val (v := .bool false) (want_none) rfl (q_pick rfl rfl) ?_
        refine HO.val (v := .bool false) (want_none) rfl (q_assign rfl) ?_
        refine HO.nil (thenQ_normal (?_))
        refine HW.ret (?_)
        refine ⟨.inr rfl, .bool false, res1 rfl (rt rfl), ?_⟩
        replace hS : St F (fr) h_1 := hS.perm2 [] 1 rfl rfl
        exact ⟨F, false, rfl, hK, hS, hM⟩
    · replace hM := hM.2 c_5
      refine HO.past (past_by rfl rfl c_5) rfl ?_
      refine HO.past (past_by rfl rfl c_5) rfl ?_
      refine HO.past (past_by rfl rfl c_5) rfl ?_
      refine HO.past (past_by rfl rfl c_5) rfl ?_
      refine HO.val (v := .bool false) (want_some rfl rfl) rfl (q_pickK false rfl c_5 rfl) ?_
      refine HO.val (v := .bool false) (want_some rfl rfl) rfl (q_move rfl) ?_
      refine HO.past (past_some rfl rfl) rfl ?_
      refine HO.past (past_some rfl rfl) rfl ?_
      refine HO.past (past_some rfl rfl) rfl ?_
      refine HO.past (past_some rfl rfl) rfl ?_
      refine HO.val (v := .bool false) (want_some rfl rfl) rfl (q_pick rfl rfl) ?_
      refine HO.val (v := .bool false) (want_none) rfl (q_pick rfl rfl) ?_
      refine HO.val (v := .bool false) (want_none) rfl (q_assign rfl) ?_
      refine HO.nil (thenQ_normal (?_))
      refine HW.ret (?_)
      refine ⟨.inr rfl, .bool false, res1 rfl (rt rfl), ?_⟩
      replace hS : St F (fr) h_1 := hS.perm2 [] 1 rfl rfl
      exact ⟨F, false, rfl, hK, hS, hM⟩

def ref03_Mac_j1 (a : T_api_Addr) (x_1 : Ba 6) (i_1 : Int) (K_1 : (Ba 6) → Int → Prop) (b_4 : Bool) : Prop :=
  (b_4 = true → ((0 : Int) ≤ i_1 ∧ i_1 < 6) ∧ ((I64 (i_1 + 1)) ∧ (K_1 (setB x_1 i_1 51) (i_1 + 1)))) ∧ (b_4 = false → (a.1 = true → (I64 (10 + i_1)) ∧ (((0 : Int) ≤ 10 + i_1 ∧ 10 + i_1 < 16) ∧ (((0 : Int) ≤ i_1 ∧ i_1 < 6) ∧ ((I64 (i_1 + 1)) ∧ (K_1 (setB x_1 i_1 (b8 a.2 (10 + i_1))) (i_1 + 1)))))) ∧ (a.1 = false → (2 < i_1 → (I64 (i_1 - 2)) ∧ (((0 : Int) ≤ i_1 - 2 ∧ i_1 - 2 < 16) ∧ (((0 : Int) ≤ i_1 ∧ i_1 < 6) ∧ ((I64 (i_1 + 1)) ∧ (K_1 (setB x_1 i_1 (b8 a.2 (i_1 - 2))) (i_1 + 1)))))) ∧ (¬ (2 < i_1) → (I64 (i_1 + 1)) ∧ (K_1 x_1 (i_1 + 1)))))
def ref03_Mac_l1 (a : T_api_Addr) (Q : (Ba 6) → Bool → Prop) (K_1 : (Ba 6) → Int → Prop) (x_1 : Ba 6) (i_1 : Int) : Prop :=
  (i_1 < 6 → (a.1 = true → ref03_Mac_j1 a x_1 i_1 K_1 (decide (i_1 < 2))) ∧ (a.1 = false → ref03_Mac_j1 a x_1 i_1 K_1 false)) ∧ (¬ (i_1 < 6) → ((!a.1) = true → ((0 : Int) ≤ ((b8 x_1 3).tmod 128) ∧ ((b8 x_1 3).tmod 128) < 256) ∧ (Q (setB (setB (setB x_1 0 1) 2 94) 3 ((u8w ((b8 x_1 3).tmod 128)).toNat : Int)) true)) ∧ ((!a.1) = false → Q x_1 true))
def ref03_Mac_W (a : T_api_Addr) (Q : (Ba 6) → Bool → Prop) : Prop :=
  ref03_Group_W a (fun r_1 => ((!r_1) = true → Q (mkB 6 [0, 0, 0, 0, 0, 0]) false) ∧ ((!r_1) = false → loopW (fun (K_1 : (Ba 6 × Int) → Prop) (s : Ba 6 × Int) => ref03_Mac_l1 a Q (fun x_1 i_1 => K_1 (x_1, i_1)) s.1 s.2) ((mkB 6 [0, 0, 0, 0, 0, 0]), 0)))
set_option maxHeartbeats 40000000 in
set_option maxRecDepth 100000 in
theorem ref03_Mac_walk {F : Fz} {fr : List Ow} {h0 : Heap} (a : T_api_Addr) (hS : St F (fr) h0)  {Q : (Ba 6) → Bool → Prop} (hM : ref03_Mac_W a Q) :
    HC Tryz.prog 8 #[.agg (e_api_Addr a).toArray] h0 fun u h' => ∃ (F' : Fz) (r0_1 : Ba 6) (r1_1 : Bool), u = .tuple #[.agg (arrCells r0_1).toArray, .bool r1_1] ∧ Kp F h0 F' h' ∧ St F' (fr) h' ∧ Q r0_1 r1_1 := by
  unfold ref03_Mac_W at hM
  have hK := Kp.refl F h0
  refine HC.of_HW (n := 51) Tryz.func8 rfl rfl (Nat.le_of_ble_eq_true rfl) ?_
  refine HW.seq ?_
  refine HW.region ?_
  refine HO.eff (want_none) rfl (st_box (c := (e_api_Addr a).toArray) (k' := 17) hS rfl rfl) ?_
  rintro _ h_1 ⟨b_1, rfl, hS, hk⟩
  replace hK := hK.trans hk
  refine HO.eff (want_none) rfl (st_alloc (c := (arrCells (default : Ba 6)).toArray) hS tz_28 rfl) ?_
  rintro _ h_2 ⟨b_2, rfl, hS, hk⟩
  replace hK := hK.trans hk
  refine HO.val (v := .bool false) (want_none) rfl (q_assign rfl) ?_
  refine HO.nil (thenQ_normal (?_))
  refine HW.seq ?_
  refine HW.region ?_
  refine HO.val (v := .agg (arrCells (mkB 6 [0, 0, 0, 0, 0, 0])).toArray) (want_none) rfl ((q_buildA (cells := #[.int .u8 0, .int .u8 0, .int .u8 0, .int .u8 0, .int .u8 0, .int .u8 0]) tb_28 rfl).of_eq (mkB_agg (n := 6) (l := [0, 0, 0, 0, 0, 0]) rfl ⟨⟨by decide, by decide⟩, ⟨⟨by decide, by decide⟩, ⟨⟨by decide, by decide⟩, ⟨⟨by decide, by decide⟩, ⟨⟨by decide, by decide⟩, ⟨⟨by decide, by decide⟩, trivial⟩⟩⟩⟩⟩⟩)) ?_
  refine HO.eff (want_none) rfl (st_alloc (c := (arrCells (default : Ba 6)).toArray) hS tz_28 rfl) ?_
  rintro _ h_3 ⟨b_3, rfl, hS, hk⟩
  replace hK := hK.trans hk
  refine HO.sto (want_none) rfl (st_storeAgg (c' := (arrCells (mkB 6 [0, 0, 0, 0, 0, 0])).toArray) hS (i := 0) rfl ta_28 rfl rfl rfl (one_arr _) (Nat.le_of_ble_eq_true rfl) rfl) ?_
  rintro h_4 ⟨hS, hk⟩
  replace hS : St F (Ow.box b_3 28 (arrCells (mkB 6 [0, 0, 0, 0, 0, 0])).toArray :: Ow.box b_2 28 (arrCells (default : Ba 6)).toArray :: Ow.box b_1 24 (e_api_Addr a).toArray :: fr) h_4 := hS
  replace hK := hK.trans hk
  refine HO.nil (thenQ_normal (?_))
  refine HW.seq ?_
  refine HW.seq ?_
  refine HW.region ?_
  refine HO.val (v := .agg (e_api_Addr a).toArray) (want_none) rfl (q_loadAgg (cs := (e_api_Addr a)) ta_24 rfl rfl (Blk.cells (k := 17) (hS.box 2 rfl) rfl)) ?_
  refine HO.call (want_none) rfl (ec en_15 rfl rfl) (ref03_Group_walk (fr := (Ow.box b_3 28 (arrCells (mkB 6 [0, 0, 0, 0, 0, 0])).toArray :: Ow.box b_2 28 (arrCells (default : Ba 6)).toArray :: Ow.box b_1 24 (e_api_Addr a).toArray :: fr)) a hS hM) ?_
  rintro _ h_5 ⟨F_1, r_1, rfl, hk, hS, hM⟩
  replace hK := hK.trans hk
  refine HO.val (v := .bool (!r_1)) (want_none) rfl (q_not rfl) ?_
  refine HO.nil (thenQ_normal (?_))
  refine HW.cond (!r_1) rfl (fun c_1 => ?_) (fun c_1 => ?_)
  · replace hM := hM.1 c_1
    refine HW.seq ?_
    refine HW.region ?_
    refine HO.val (v := .agg (arrCells (mkB 6 [0, 0, 0, 0, 0, 0])).toArray) (want_none) rfl (q_loadAgg (cs := (arrCells (mkB 6 [0, 0, 0, 0, 0, 0]))) ta_28 rfl rfl (Blk.cells (k := 6) (hS.box 0 rfl) rfl)) ?_
    refine HO.sto (want_none) rfl (st_storeAgg (c' := (arrCells (mkB 6 [0, 0, 0, 0, 0, 0])).toArray) hS (i := 1) rfl ta_28 rfl rfl rfl (one_arr _) (Nat.le_of_ble_eq_true rfl) rfl) ?_
    rintro h_6 ⟨hS, hk⟩
    replace hS : St F_1 (Ow.box b_3 28 (arrCells (mkB 6 [0, 0, 0, 0, 0, 0])).toArray :: Ow.box b_2 28 (arrCells (mkB 6 [0, 0, 0, 0, 0, 0])).toArray :: Ow.box b_1 24 (e_api_Addr a).toArray :: fr) h_6 := hS
    replace hK := hK.trans hk
    refine HO.val (v := .bool false) (want_none) rfl (q_assign rfl) ?_
    refine HO.nil (thenQ_normal (?_))
    refine HW.ret (thenQ_ret (?_))
    refine ⟨.inr rfl, .tuple #[.agg (arrCells (mkB 6 [0, 0, 0, 0, 0, 0])).toArray, .bool false], res2 rfl (rca (cs := (arrCells (mkB 6 [0, 0, 0, 0, 0, 0]))) ta_28 rfl rfl (Blk.cells (k := 6) (hS.box 1 rfl) rfl)) (rt rfl), ?_⟩
    replace hS : St F_1 (fr) h_6 := hS.perm2 [] 3 rfl rfl
    exact ⟨F_1, mkB 6 [0, 0, 0, 0, 0, 0], false, rfl, hK, hS, hM⟩
  · replace hM := hM.2 c_1
    refine HW.skip (thenQ_normal (?_))
    refine HW.seq ?_
    refine HW.seq ?_
    refine HW.region ?_
    refine HO.val (v := .int .i64 0) (want_none) rfl (q_assign rfl) ?_
    refine HO.nil (thenQ_normal (?_))
    refine HW.block ?_
    obtain ⟨I_1, m_1, hI_1, hR_1⟩ := hM
    replace hS : St F_1 (Ow.box b_1 24 (e_api_Addr a).toArray :: Ow.box b_2 28 (arrCells (default : Ba 6)).toArray :: Ow.box b_3 28 (arrCells (mkB 6 [0, 0, 0, 0, 0, 0])).toArray :: fr) h_5 := hS.perm2 [2, 1, 0] 3 rfl rfl
    refine HW.loop (S := Ba 6 × Int) (fun s f h => match s with | (x_1, i_1) => ∃ (F' : Fz), f 1 = .pointer (some ⟨b_1, 0, none⟩) ∧ f 2 = .pointer (some ⟨b_2, 0, none⟩) ∧ f 3 = .bool false ∧ f 4 = .pointer (some ⟨b_3, 0, none⟩) ∧ f 5 = .int .i64 i_1 ∧ Kp F h0 F' h ∧ St F' (Ow.box b_1 24 (e_api_Addr a).toArray :: Ow.box b_2 28 (arrCells (default : Ba 6)).toArray :: Ow.box b_3 28 (arrCells x_1).toArray :: fr) h ∧ I_1 (x_1, i_1)) m_1 ((mkB 6 [0, 0, 0, 0, 0, 0]), 0) ⟨F_1, rfl, rfl, rfl, rfl, rfl, hK, hS, hI_1⟩ ?_
    rintro ⟨x_1, i_1⟩ f_1 h_7 ⟨F_2, e1, e2, e3, e4, e5, hK, hS, hI0⟩
    obtain ⟨K_1, hKe_1⟩ : ∃ K : (Ba 6) → Int → Prop, K = fun x_1' i_1' => I_1 (x_1', i_1') ∧ m_1 (x_1', i_1') < m_1 (x_1, i_1) := ⟨_, rfl⟩
    have hM : ref03_Mac_l1 a Q K_1 x_1 i_1 := by rw [hKe_1]; exact hR_1 (x_1, i_1) hI0
    unfold ref03_Mac_l1 at hM
    refine HW.fr [(1, .pointer (some ⟨b_1, 0, none⟩)), (2, .pointer (some ⟨b_2, 0, none⟩)), (3, .bool false), (4, .pointer (some ⟨b_3, 0, none⟩)), (5, .int .i64 i_1)] ⟨e1, e2, e3, e4, e5, trivial⟩ ?_
    refine HW.seq ?_
    refine HW.seq ?_
    refine HW.region ?_
    refine HO.val (v := .int .i64 i_1) (want_none) rfl (q_move rfl) ?_
    refine HO.val (v := .bool (decide (i_1 < 6))) (want_none) rfl (q_lss rfl rfl) ?_
    refine HO.nil (thenQ_normal (?_))
    refine HW.cond (decide (i_1 < 6)) rfl (fun c_2 => ?_) (fun c_2 => ?_)
    · replace hM := hM.1 (of_decide_eq_true c_2)
      refine HW.skip (thenQ_normal (?_))
      refine HW.seq ?_
      refine HW.block ?_
      refine HW.seq_mid (fun f h => ∃ (F' : Fz) (b_4 : Bool), f 1 = .pointer (some ⟨b_1, 0, none⟩) ∧ f 2 = .pointer (some ⟨b_2, 0, none⟩) ∧ f 3 = .bool false ∧ f 4 = .pointer (some ⟨b_3, 0, none⟩) ∧ f 5 = .int .i64 i_1 ∧ f 20 = .bool b_4 ∧ Kp F h0 F' h ∧ St F' (Ow.box b_1 24 (e_api_Addr a).toArray :: Ow.box b_2 28 (arrCells (default : Ba 6)).toArray :: Ow.box b_3 28 (arrCells x_1).toArray :: fr) h ∧ ref03_Mac_j1 a x_1 i_1 K_1 b_4) ?_ ?_
      · refine HW.region ?_
        refine HO.val (v := .pointer (some ⟨b_1, 0, none⟩)) (want_none) rfl (q_fieldAddr fa_24_0 rfl rfl) ?_
        refine HO.val (v := .bool a.1) (want_none) rfl (q_load to_4 rfl (Blk.cell (hS.box 0 rfl) rfl)) ?_
        refine HO.val (v := .bool a.1) (want_none) rfl (q_move rfl) ?_
        rcases Bool.eq_false_or_eq_true a.1 with c_3 | c_3
        · replace hM := hM.1 c_3
          refine HO.val (v := .int .i64 i_1) (want_by rfl rfl c_3) rfl (q_move rfl) ?_
          refine HO.val (v := .bool (decide (i_1 < 2))) (want_by rfl rfl c_3) rfl (q_lss rfl rfl) ?_
          refine HO.val (v := .bool (decide (i_1 < 2))) (want_none) rfl (q_pickK true rfl c_3 rfl) ?_
          refine HO.nil (thenQ_normal (?_))
          exact ⟨F_2, decide (i_1 < 2), rfl, rfl, rfl, rfl, rfl, rfl, hK, hS, hM⟩
        · replace hM := hM.2 c_3
          refine HO.past (past_by rfl rfl c_3) rfl ?_
          refine HO.past (past_by rfl rfl c_3) rfl ?_
          refine HO.val (v := .bool false) (want_none) rfl (q_pickK false rfl c_3 rfl) ?_
          refine HO.nil (thenQ_normal (?_))
          exact ⟨F_2, false, rfl, rfl, rfl, rfl, rfl, rfl, hK, hS, hM⟩
      · rintro f_2 h_8 ⟨F_3, b_4, e1, e2, e3, e4, e5, e20, hK, hS, hM⟩
        unfold ref03_Mac_j1 at hM
        refine HW.fr [(1, .pointer (some ⟨b_1, 0, none⟩)), (2, .pointer (some ⟨b_2, 0, none⟩)), (3, .bool false), (4, .pointer (some ⟨b_3, 0, none⟩)), (5, .int .i64 i_1), (20, .bool b_4)] ⟨e1, e2, e3, e4, e5, e20, trivial⟩ ?_
        refine HW.cond b_4 rfl (fun c_4 => ?_) (fun c_4 => ?_)
        · replace hM := hM.1 c_4
          refine HW.region ?_
          refine HO.val (v := .int .i64 i_1) (want_none) rfl (q_move rfl) ?_
          obtain ⟨ho_1, hM⟩ := hM
          refine HO.val (v := .pointer (some ⟨b_3, 0 + (i_1).toNat, none⟩)) (want_none) rfl (q_idxA (o := 0) (t := i_1) tr_28 rfl rfl ho_1) ?_
          refine HO.sto (want_none) rfl (st_storeSeg (n := 6) (o := 0) (X := x_1) (t := i_1) (u := 51) (c' := (arrCells (setB x_1 i_1 51)).toArray) hS (i := 2) rfl to_5 rfl rfl ho_1 ⟨by decide, by decide⟩ rfl rfl) ?_
          rintro h_9 ⟨hS, hk⟩
          replace hS : St F_3 (Ow.box b_1 24 (e_api_Addr a).toArray :: Ow.box b_2 28 (arrCells (default : Ba 6)).toArray :: Ow.box b_3 28 (arrCells (setB x_1 i_1 51)).toArray :: fr) h_9 := hS
          replace hK := hK.trans hk
          refine HO.nil (blockQ_normal (thenQ_normal (?_)))
          refine HW.region ?_
          refine HO.val (v := .int .i64 i_1) (want_none) rfl (q_move rfl) ?_
          obtain ⟨ho_2, hM⟩ := hM
          refine HO.val (v := .int .i64 (i_1 + 1)) (want_none) rfl (q_addN _ rfl rfl rfl ho_2.1 ho_2.2) ?_
          refine HO.val (v := .int .i64 (i_1 + 1)) (want_none) rfl (q_assign rfl) ?_
          refine HO.nil (thenQ_normal (?_))
          rw [hKe_1] at hM
          exact ⟨((setB x_1 i_1 51), i_1 + 1), ⟨F_3, rfl, rfl, rfl, rfl, rfl, hK, hS, hM.1⟩, hM.2⟩
        · replace hM := hM.2 c_4
          refine HW.seq ?_
          refine HW.region ?_
          refine HO.val (v := .pointer (some ⟨b_1, 0, none⟩)) (want_none) rfl (q_fieldAddr fa_24_0 rfl rfl) ?_
          refine HO.val (v := .bool a.1) (want_none) rfl (q_load to_4 rfl (Blk.cell (hS.box 0 rfl) rfl)) ?_
          refine HO.nil (thenQ_normal (?_))
          refine HW.cond a.1 rfl (fun c_5 => ?_) (fun c_5 => ?_)
          · replace hM := hM.1 c_5
            refine HW.region ?_
            refine HO.val (v := .int .i64 i_1) (want_none) rfl (q_move rfl) ?_
            refine HO.val (v := .int .i64 i_1) (want_none) rfl (q_move rfl) ?_
            obtain ⟨ho_3, hM⟩ := hM
            refine HO.val (v := .int .i64 (10 + i_1)) (want_none) rfl (q_addN _ rfl rfl rfl ho_3.1 ho_3.2) ?_
            refine HO.val (v := .pointer (some ⟨b_1, 1, none⟩)) (want_none) rfl (q_fieldAddr fa_24_1 rfl rfl) ?_
            obtain ⟨ho_4, hM⟩ := hM
            refine HO.val (v := .pointer (some ⟨b_1, 1 + (10 + i_1).toNat, none⟩)) (want_none) rfl (q_idxA (o := 1) (t := 10 + i_1) tr_22 rfl rfl ho_4) ?_
            refine HO.val (v := .int .u8 (b8 a.2 (10 + i_1))) (want_none) rfl (q_ldArr (o := 1) (t := 10 + i_1) (X := a.2) to_5 rfl (hS.box 0 rfl) rfl ho_4) ?_
            obtain ⟨ho_5, hM⟩ := hM
            refine HO.val (v := .pointer (some ⟨b_3, 0 + (i_1).toNat, none⟩)) (want_none) rfl (q_idxA (o := 0) (t := i_1) tr_28 rfl rfl ho_5) ?_
            refine HO.sto (want_none) rfl (st_storeSeg (n := 6) (o := 0) (X := x_1) (t := i_1) (u := b8 a.2 (10 + i_1)) (c' := (arrCells (setB x_1 i_1 (b8 a.2 (10 + i_1)))).toArray) hS (i := 2) rfl to_5 rfl rfl ho_5 (b8_rng _ _) rfl rfl) ?_
            rintro h_10 ⟨hS, hk⟩
            replace hS : St F_3 (Ow.box b_1 24 (e_api_Addr a).toArray :: Ow.box b_2 28 (arrCells (default : Ba 6)).toArray :: Ow.box b_3 28 (arrCells (setB x_1 i_1 (b8 a.2 (10 + i_1)))).toArray :: fr) h_10 := hS
            replace hK := hK.trans hk
            refine HO.nil (blockQ_normal (thenQ_normal (?_)))
            refine HW.region ?_
            refine HO.val (v := .int .i64 i_1) (want_none) rfl (q_move rfl) ?_
            obtain ⟨ho_6, hM⟩ := hM
            refine HO.val (v := .int .i64 (i_1 + 1)) (want_none) rfl (q_addN _ rfl rfl rfl ho_6.1 ho_6.2) ?_
            refine HO.val (v := .int .i64 (i_1 + 1)) (want_none) rfl (q_assign rfl) ?_
            refine HO.nil (thenQ_normal (?_))
            rw [hKe_1] at hM
            exact ⟨((setB x_1 i_1 (b8 a.2 (10 + i_1))), i_1 + 1), ⟨F_3, rfl, rfl, rfl, rfl, rfl, hK, hS, hM.1⟩, hM.2⟩
          · replace hM := hM.2 c_5
            refine HW.seq ?_
            refine HW.region ?_
            refine HO.val (v := .int .i64 i_1) (want_none) rfl (q_move rfl) ?_
            refine HO.val (v := .bool (decide (2 < i_1))) (want_none) rfl (q_gtr rfl rfl) ?_
            refine HO.nil (thenQ_normal (?_))
            refine HW.cond (decide (2 < i_1)) rfl (fun c_6 => ?_) (fun c_6 => ?_)
            · replace hM := hM.1 (of_decide_eq_true c_6)
              refine HW.region ?_
              refine HO.val (v := .int .i64 i_1) (want_none) rfl (q_move rfl) ?_
              refine HO.val (v := .int .i64 i_1) (want_none) rfl (q_move rfl) ?_
              obtain ⟨ho_7, hM⟩ := hM
              refine HO.val (v := .int .i64 (i_1 - 2)) (want_none) rfl (q_subN _ rfl rfl rfl ho_7.1 ho_7.2) ?_
              refine HO.val (v := .pointer (some ⟨b_1, 1, none⟩)) (want_none) rfl (q_fieldAddr fa_24_1 rfl rfl) ?_
              obtain ⟨ho_8, hM⟩ := hM
              refine HO.val (v := .pointer (some ⟨b_1, 1 + (i_1 - 2).toNat, none⟩)) (want_none) rfl (q_idxA (o := 1) (t := i_1 - 2) tr_22 rfl rfl ho_8) ?_
              refine HO.val (v := .int .u8 (b8 a.2 (i_1 - 2))) (want_none) rfl (q_ldArr (o := 1) (t := i_1 - 2) (X := a.2) to_5 rfl (hS.box 0 rfl) rfl ho_8) ?_
              obtain ⟨ho_9, hM⟩ := hM
              refine HO.val (v := .pointer (some ⟨b_3, 0 + (i_1).toNat, none⟩)) (want_none) rfl (q_idxA (o := 0) (t := i_1) tr_28 rfl rfl ho_9) ?_
              refine HO.sto (want_none) rfl (st_storeSeg (n := 6) (o := 0) (X := x_1) (t := i_1) (u := b8 a.2 (i_1 - 2)) (c' := (arrCells (setB x_1 i_1 (b8 a.2 (i_1 - 2)))).toArray) hS (i := 2) rfl to_5 rfl rfl ho_9 (b8_rng _ _) rfl rfl) ?_
              rintro h_11 ⟨hS, hk⟩
              replace hS : St F_3 (Ow.box b_1 24 (e_api_Addr a).toArray :: Ow.box b_2 28 (arrCells (default : Ba 6)).toArray :: Ow.box b_3 28 (arrCells (setB x_1 i_1 (b8 a.2 (i_1 - 2)))).toArray :: fr) h_11 := hS
              replace hK := hK.trans hk
              refine HO.nil (blockQ_normal (thenQ_normal (?_)))
              refine HW.region ?_
              refine HO.val (v := .int .i64 i_1) (want_none) rfl (q_move rfl) ?_
              obtain ⟨ho_10, hM⟩ := hM
              refine HO.val (v := .int .i64 (i_1 + 1)) (want_none) rfl (q_addN _ rfl rfl rfl ho_10.1 ho_10.2) ?_
              refine HO.val (v := .int .i64 (i_1 + 1)) (want_none) rfl (q_assign rfl) ?_
              refine HO.nil (thenQ_normal (?_))
              rw [hKe_1] at hM
              exact ⟨((setB x_1 i_1 (b8 a.2 (i_1 - 2))), i_1 + 1), ⟨F_3, rfl, rfl, rfl, rfl, rfl, hK, hS, hM.1⟩, hM.2⟩
            · replace hM := hM.2 (of_decide_eq_false c_6)
              refine HW.skip (blockQ_normal (thenQ_normal (?_)))
              refine HW.region ?_
              refine HO.val (v := .int .i64 i_1) (want_none) rfl (q_move rfl) ?_
              obtain ⟨ho_11, hM⟩ := hM
              refine HO.val (v := .int .i64 (i_1 + 1)) (want_none) rfl (q_addN _ rfl rfl rfl ho_11.1 ho_11.2) ?_
              refine HO.val (v := .int .i64 (i_1 + 1)) (want_none) rfl (q_assign rfl) ?_
              refine HO.nil (thenQ_normal (?_))
              rw [hKe_1] at hM
              exact ⟨(x_1, i_1 + 1), ⟨F_3, rfl, rfl, rfl, rfl, rfl, hK, hS, hM.1⟩, hM.2⟩
    · replace hM := hM.2 (of_decide_eq_false c_2)
      refine HW.exit (thenQ_exit (thenQ_exit (blockQ_exit (thenQ_normal (?_)))))
      refine HW.seq ?_
      refine HW.seq ?_
      refine HW.region ?_
      refine HO.val (v := .pointer (some ⟨b_1, 0, none⟩)) (want_none) rfl (q_fieldAddr fa_24_0 rfl rfl) ?_
      refine HO.val (v := .bool a.1) (want_none) rfl (q_load to_4 rfl (Blk.cell (hS.box 0 rfl) rfl)) ?_
      refine HO.val (v := .bool (!a.1)) (want_none) rfl (q_not rfl) ?_
      refine HO.nil (thenQ_normal (?_))
      refine HW.cond (!a.1) rfl (fun c_7 => ?_) (fun c_7 => ?_)
      · replace hM := hM.1 c_7
        refine HW.region ?_
        refine HO.val (v := .pointer (some ⟨b_3, 3, none⟩)) (want_none) rfl (q_idxA (o := 0) (t := 3) tr_28 rfl rfl ⟨by decide, by decide⟩) ?_
        refine HO.val (v := .int .u8 (b8 x_1 3)) (want_none) rfl (q_load to_5 rfl (Blk.cell (hS.box 2 rfl) rfl)) ?_
        obtain ⟨ho_12, hM⟩ := hM
        refine HO.val (v := .int .u8 ((u8w ((b8 x_1 3).tmod 128)).toNat : Int)) (want_none) rfl ((q_rem rfl rfl (by decide)).of_eq (u8r_v ho_12)) ?_
        refine HO.val (v := .pointer (some ⟨b_3, 0, none⟩)) (want_none) rfl (q_idxA (o := 0) (t := 0) tr_28 rfl rfl ⟨by decide, by decide⟩) ?_
        refine HO.sto (want_none) rfl (st_storeSeg (n := 6) (o := 0) (X := x_1) (t := 0) (u := 1) (c' := (arrCells (setB x_1 0 1)).toArray) hS (i := 2) rfl to_5 rfl rfl ⟨by decide, by decide⟩ ⟨by decide, by decide⟩ rfl rfl) ?_
        rintro h_12 ⟨hS, hk⟩
        replace hS : St F_2 (Ow.box b_1 24 (e_api_Addr a).toArray :: Ow.box b_2 28 (arrCells (default : Ba 6)).toArray :: Ow.box b_3 28 (arrCells (setB x_1 0 1)).toArray :: fr) h_12 := hS
        replace hK := hK.trans hk
        refine HO.val (v := .pointer (some ⟨b_3, 2, none⟩)) (want_none) rfl (q_idxA (o := 0) (t := 2) tr_28 rfl rfl ⟨by decide, by decide⟩) ?_
        refine HO.sto (want_none) rfl (st_storeSeg (n := 6) (o := 0) (X := (setB x_1 0 1)) (t := 2) (u := 94) (c' := (arrCells (setB (setB x_1 0 1) 2 94)).toArray) hS (i := 2) rfl to_5 rfl rfl ⟨by decide, by decide⟩ ⟨by decide, by decide⟩ rfl rfl) ?_
        rintro h_13 ⟨hS, hk⟩
        replace hS : St F_2 (Ow.box b_1 24 (e_api_Addr a).toArray :: Ow.box b_2 28 (arrCells (default : Ba 6)).toArray :: Ow.box b_3 28 (arrCells (setB (setB x_1 0 1) 2 94)).toArray :: fr) h_13 := hS
        replace hK := hK.trans hk
        refine HO.val (v := .pointer (some ⟨b_3, 3, none⟩)) (want_none) rfl (q_idxA (o := 0) (t := 3) tr_28 rfl rfl ⟨by decide, by decide⟩) ?_
        refine HO.sto (want_none) rfl (st_storeSeg (n := 6) (o := 0) (X := (setB (setB x_1 0 1) 2 94)) (t := 3) (u := ((u8w ((b8 x_1 3).tmod 128)).toNat : Int)) (c' := (arrCells (setB (setB (setB x_1 0 1) 2 94) 3 ((u8w ((b8 x_1 3).tmod 128)).toNat : Int))).toArray) hS (i := 2) rfl to_5 rfl rfl ⟨by decide, by decide⟩ (u8_rng _) rfl rfl) ?_
        rintro h_14 ⟨hS, hk⟩
        replace hS : St F_2 (Ow.box b_1 24 (e_api_Addr a).toArray :: Ow.box b_2 28 (arrCells (default : Ba 6)).toArray :: Ow.box b_3 28 (arrCells (setB (setB (setB x_1 0 1) 2 94) 3 ((u8w ((b8 x_1 3).tmod 128)).toNat : Int))).toArray :: fr) h_14 := hS
        replace hK := hK.trans hk
        refine HO.nil (thenQ_normal (?_))
        refine HW.seq ?_
        refine HW.region ?_
        refine HO.val (v := .agg (arrCells (setB (setB (setB x_1 0 1) 2 94) 3 ((u8w ((b8 x_1 3).tmod 128)).toNat : Int))).toArray) (want_none) rfl (q_loadAgg (cs := (arrCells (setB (setB (setB x_1 0 1) 2 94) 3 ((u8w ((b8 x_1 3).tmod 128)).toNat : Int)))) ta_28 rfl rfl (Blk.cells (k := 6) (hS.box 2 rfl) rfl)) ?_
        refine HO.sto (want_none) rfl (st_storeAgg (c' := (arrCells (setB (setB (setB x_1 0 1) 2 94) 3 ((u8w ((b8 x_1 3).tmod 128)).toNat : Int))).toArray) hS (i := 1) rfl ta_28 rfl rfl rfl (one_arr _) (Nat.le_of_ble_eq_true rfl) rfl) ?_
        rintro h_15 ⟨hS, hk⟩
        replace hS : St F_2 (Ow.box b_1 24 (e_api_Addr a).toArray :: Ow.box b_2 28 (arrCells (setB (setB (setB x_1 0 1) 2 94) 3 ((u8w ((b8 x_1 3).tmod 128)).toNat : Int))).toArray :: Ow.box b_3 28 (arrCells (setB (setB (setB x_1 0 1) 2 94) 3 ((u8w ((b8 x_1 3).tmod 128)).toNat : Int))).toArray :: fr) h_15 := hS
        replace hK := hK.trans hk
        refine HO.val (v := .bool true) (want_none) rfl (q_assign rfl) ?_
        refine HO.nil (thenQ_normal (?_))
        refine HW.ret (?_)
        refine ⟨.inr rfl, .tuple #[.agg (arrCells (setB (setB (setB x_1 0 1) 2 94) 3 ((u8w ((b8 x_1 3).tmod 128)).toNat : Int))).toArray, .bool true], res2 rfl (rca (cs := (arrCells (setB (setB (setB x_1 0 1) 2 94) 3 ((u8w ((b8 x_1 3).tmod 128)).toNat : Int)))) ta_28 rfl rfl (Blk.cells (k := 6) (hS.box 1 rfl) rfl)) (rt rfl), ?_⟩
        replace hS : St F_2 (fr) h_15 := hS.perm2 [] 3 rfl rfl
        exact ⟨F_2, (setB (setB (setB x_1 0 1) 2 94) 3 ((u8w ((b8 x_1 3).tmod 128)).toNat : Int)), true, rfl, hK, hS, hM⟩
      · replace hM := hM.2 c_7
        refine HW.skip (thenQ_normal (?_))
        refine HW.seq ?_
        refine HW.region ?_
        refine HO.val (v := .agg (arrCells x_1).toArray) (want_none) rfl (q_loadAgg (cs := (arrCells x_1)) ta_28 rfl rfl (Blk.cells (k := 6) (hS.box 2 rfl) rfl)) ?_
        refine HO.sto (want_none) rfl (st_storeAgg (c' := (arrCells x_1).toArray) hS (i := 1) rfl ta_28 rfl rfl rfl (one_arr _) (Nat.le_of_ble_eq_true rfl) rfl) ?_
        rintro h_16 ⟨hS, hk⟩
        replace hS : St F_2 (Ow.box b_1 24 (e_api_Addr a).toArray :: Ow.box b_2 28 (arrCells x_1).toArray :: Ow.box b_3 28 (arrCells x_1).toArray :: fr) h_16 := hS
        replace hK := hK.trans hk
        refine HO.val (v := .bool true) (want_none) rfl (q_assign rfl) ?_
        refine HO.nil (thenQ_normal (?_))
        refine HW.ret (?_)
        refine ⟨.inr rfl, .tuple #[.agg (arrCells x_1).toArray, .bool true], res2 rfl (rca (cs := (arrCells x_1)) ta_28 rfl rfl (Blk.cells (k := 6) (hS.box 1 rfl) rfl)) (rt rfl), ?_⟩
        replace hS : St F_2 (fr) h_16 := hS.perm2 [] 3 rfl rfl
        exact ⟨F_2, x_1, true, rfl, hK, hS, hM⟩

def addr_bytes_W (a : T_api_Addr) (Q : Str → Prop) : Prop :=
  (a.1 = true → Q (cut a.2.1 0 16)) ∧ (a.1 = false → Q (cut a.2.1 0 4))
set_option maxHeartbeats 40000000 in
set_option maxRecDepth 100000 in
theorem addr_bytes_walk {F : Fz} {fr : List Ow} {h0 : Heap} (a : T_api_Addr) (hS : St F (fr) h0)  {Q : Str → Prop} (hM : addr_bytes_W a Q) :
    HC Tryz.prog 25 #[.agg (e_api_Addr a).toArray] h0 fun u h' => ∃ (F' : Fz) (r_1 : Str), u = .string (bs r_1) ∧ Kp F h0 F' h' ∧ St F' (fr) h' ∧ Q r_1 := by
  unfold addr_bytes_W at hM
  have hK := Kp.refl F h0
  refine HC.of_HW (n := 11) Tryz.func25 rfl rfl (Nat.le_of_ble_eq_true rfl) ?_
  refine HW.seq ?_
  refine HW.region ?_
  refine HO.eff (want_none) rfl (st_box (c := (e_api_Addr a).toArray) (k' := 17) hS rfl rfl) ?_
  rintro _ h_1 ⟨b_1, rfl, hS, hk⟩
  replace hK := hK.trans hk
  refine HO.val (v := .string (bs [])) (want_none) rfl (q_assign rfl) ?_
  refine HO.nil (thenQ_normal (?_))
  refine HW.seq ?_
  refine HW.seq ?_
  refine HW.region ?_
  refine HO.val (v := .pointer (some ⟨b_1, 0, none⟩)) (want_none) rfl (q_fieldAddr fa_24_0 rfl rfl) ?_
  refine HO.val (v := .bool a.1) (want_none) rfl (q_load to_4 rfl (Blk.cell (hS.box 0 rfl) rfl)) ?_
  refine HO.nil (thenQ_normal (?_))
  refine HW.cond a.1 rfl (fun c_1 => ?_) (fun c_1 => ?_)
  · replace hM := hM.1 c_1
    refine HW.seq ?_
    refine HW.region ?_
    refine HO.val (v := .pointer (some ⟨b_1, 1, none⟩)) (want_none) rfl (q_fieldAddr fa_24_1 rfl rfl) ?_
    refine HO.val (v := arrV b_1 1 16 0 16) (want_none) rfl (q_sliceA (o := 1) (lo := 0) (hi := 16) (kl := .i64) (kh := .i64) tr_22 rfl (.inl ⟨rfl, rfl⟩) (.inl ⟨rfl, rfl⟩) ⟨by decide, by decide, by decide⟩) ?_
    refine HO.val (v := .string (bs (cut a.2.1 0 16))) (want_none) rfl (q_bytesStr ts_36 Tryz.underlying5 Tryz.underlying9 (arrSl (o := 1) (n := 16) (X := a.2) (lo := 0) (hi := 16) (hS.box 0 rfl) rfl ⟨by decide, by decide, by decide⟩ (by decide)) rfl) ?_
    refine HO.val (v := .string (bs (cut a.2.1 0 16))) (want_none) rfl (q_assign rfl) ?_
    refine HO.nil (thenQ_normal (?_))
    refine HW.ret (thenQ_ret (?_))
    refine ⟨.inr rfl, .string (bs (cut a.2.1 0 16)), res1 rfl (rt rfl), ?_⟩
    replace hS : St F (fr) h_1 := hS.perm2 [] 1 rfl rfl
    exact ⟨F, cut a.2.1 0 16, rfl, hK, hS, hM⟩
  · replace hM := hM.2 c_1
    refine HW.skip (thenQ_normal (?_))
    refine HW.seq ?_
    refine HW.region ?_
    refine HO.val (v := .pointer (some ⟨b_1, 1, none⟩)) (want_none) rfl (q_fieldAddr fa_24_1 rfl rfl) ?_
    refine HO.val (v := arrV b_1 1 16 0 4) (want_none) rfl (q_sliceA (o := 1) (lo := 0) (hi := 4) (kl := .i64) tr_22 rfl (.inl ⟨rfl, rfl⟩) (.inr ⟨_, rfl, rfl⟩) ⟨by decide, by decide, by decide⟩) ?_
    refine HO.val (v := .string (bs (cut a.2.1 0 4))) (want_none) rfl (q_bytesStr ts_36 Tryz.underlying5 Tryz.underlying9 (arrSl (o := 1) (n := 16) (X := a.2) (lo := 0) (hi := 4) (hS.box 0 rfl) rfl ⟨by decide, by decide, by decide⟩ (by decide)) rfl) ?_
    refine HO.val (v := .string (bs (cut a.2.1 0 4))) (want_none) rfl (q_assign rfl) ?_
    refine HO.nil (thenQ_normal (?_))
    refine HW.ret (?_)
    refine ⟨.inr rfl, .string (bs (cut a.2.1 0 4)), res1 rfl (rt rfl), ?_⟩
    replace hS : St F (fr) h_1 := hS.perm2 [] 1 rfl rfl
    exact ⟨F, cut a.2.1 0 4, rfl, hK, hS, hM⟩

def addr_Bytes_W (a : T_api_Addr) (Q : Str → Prop) : Prop :=
  addr_bytes_W a (fun r_2 => Q r_2)
set_option maxHeartbeats 40000000 in
set_option maxRecDepth 100000 in
theorem addr_Bytes_walk {F : Fz} {fr : List Ow} {h0 : Heap} (a : T_api_Addr) (hS : St F (fr) h0)  {Q : Str → Prop} (hM : addr_Bytes_W a Q) :
    HC Tryz.prog 9 #[.agg (e_api_Addr a).toArray] h0 fun u h' => ∃ (F' : Fz) (r_1 : Str), u = .string (bs r_1) ∧ Kp F h0 F' h' ∧ St F' (fr) h' ∧ Q r_1 := by
  unfold addr_Bytes_W at hM
  have hK := Kp.refl F h0
  refine HC.of_HW (n := 5) Tryz.func9 rfl rfl (Nat.le_of_ble_eq_true rfl) ?_
  refine HW.seq ?_
  refine HW.region ?_
  refine HO.eff (want_none) rfl (st_box (c := (e_api_Addr a).toArray) (k' := 17) hS rfl rfl) ?_
  rintro _ h_1 ⟨b_1, rfl, hS, hk⟩
  replace hK := hK.trans hk
  refine HO.val (v := .string (bs [])) (want_none) rfl (q_assign rfl) ?_
  refine HO.nil (thenQ_normal (?_))
  refine HW.seq ?_
  refine HW.region ?_
  refine HO.val (v := .agg (e_api_Addr a).toArray) (want_none) rfl (q_loadAgg (cs := (e_api_Addr a)) ta_24 rfl rfl (Blk.cells (k := 17) (hS.box 0 rfl) rfl)) ?_
  refine HO.call (want_none) rfl (ec en_25 rfl rfl) (addr_bytes_walk (fr := (Ow.box b_1 24 (e_api_Addr a).toArray :: fr)) a hS hM) ?_
  rintro _ h_2 ⟨F_1, r_2, rfl, hk, hS, hM⟩
  replace hK := hK.trans hk
  refine HO.val (v := .string (bs r_2)) (want_none) rfl (q_assign rfl) ?_
  refine HO.nil (thenQ_normal (?_))
  refine HW.ret (?_)
  refine ⟨.inr rfl, .string (bs r_2), res1 rfl (rt rfl), ?_⟩
  replace hS : St F_1 (fr) h_2 := hS.perm2 [] 1 rfl rfl
  exact ⟨F_1, r_2, rfl, hK, hS, hM⟩

def ref03_Bytes_l1 (a : T_api_Addr) (Q : Str → Prop) (n_1 : Int) (K_1 : (List UInt8) → Int → Prop) (b_3 : List UInt8) (i_1 : Int) : Prop :=
  (i_1 < n_1 → ((0 : Int) ≤ i_1 ∧ i_1 < 16) ∧ (((b_3.length + ([(gi a.2.1 i_1)] : List UInt8).length) * 1 ≤ 140737488355328) ∧ ((I64 (i_1 + 1)) ∧ (K_1 (b_3 ++ ([(gi a.2.1 i_1)] : List UInt8)) (i_1 + 1))))) ∧ (¬ (i_1 < n_1) → Q b_3)
def ref03_Bytes_j1 (a : T_api_Addr) (Q : Str → Prop) (n_1 : Int) : Prop :=
  loopW (fun (K_1 : (List UInt8 × Int) → Prop) (s : List UInt8 × Int) => ref03_Bytes_l1 a Q n_1 (fun b_3 i_1 => K_1 (b_3, i_1)) s.1 s.2) ([], 0)
def ref03_Bytes_W (a : T_api_Addr) (Q : Str → Prop) : Prop :=
  (a.1 = true → ref03_Bytes_j1 a Q 16) ∧ (a.1 = false → ref03_Bytes_j1 a Q 4)
set_option maxHeartbeats 40000000 in
set_option maxRecDepth 100000 in
theorem ref03_Bytes_walk {F : Fz} {fr : List Ow} {h0 : Heap} (a : T_api_Addr) (hS : St F (fr) h0)  {Q : Str → Prop} (hM : ref03_Bytes_W a Q) :
    HC Tryz.prog 10 #[.agg (e_api_Addr a).toArray] h0 fun u h' => ∃ (F' : Fz) (r_1 : Str), u = .string (bs r_1) ∧ Kp F h0 F' h' ∧ St F' (fr) h' ∧ Q r_1 := by
  unfold ref03_Bytes_W at hM
  have hK := Kp.refl F h0
  refine HC.of_HW (n := 23) Tryz.func10 rfl rfl (Nat.le_of_ble_eq_true rfl) ?_
  refine HW.seq ?_
  refine HW.region ?_
  refine HO.eff (want_none) rfl (st_box (c := (e_api_Addr a).toArray) (k' := 17) hS rfl rfl) ?_
  rintro _ h_1 ⟨b_1, rfl, hS, hk⟩
  replace hK := hK.trans hk
  refine HO.val (v := .string (bs [])) (want_none) rfl (q_assign rfl) ?_
  refine HO.nil (thenQ_normal (?_))
  refine HW.seq ?_
  refine HW.region ?_
  refine HO.eff (want_none) rfl (st_litEmpty (α := UInt8) enc8 hS tl_36) ?_
  rintro _ h_2 ⟨b_2, rfl, hS, hk⟩
  replace hK := hK.trans hk
  refine HO.val (v := .slice (some ⟨b_2, 0, none⟩) 0 0) (want_none) rfl (q_assign rfl) ?_
  refine HO.val (v := .int .i64 4) (want_none) rfl (q_assign rfl) ?_
  refine HO.nil (thenQ_normal (?_))
  refine HW.seq_mid (fun f h => ∃ (F' : Fz) (n_1 : Int), f 1 = .pointer (some ⟨b_1, 0, none⟩) ∧ f 2 = .string (bs []) ∧ f 3 = .slice (some ⟨b_2, 0, none⟩) 0 0 ∧ f 4 = .int .i64 n_1 ∧ Kp F h0 F' h ∧ St F' (Ow.box b_1 24 (e_api_Addr a).toArray :: Ow.own 5 1 enc8 (.slice (some ⟨b_2, 0, none⟩) 0 0) ([] : List UInt8) :: fr) h ∧ ref03_Bytes_j1 a Q n_1) ?_ ?_
  · refine HW.seq ?_
    refine HW.region ?_
    refine HO.val (v := .pointer (some ⟨b_1, 0, none⟩)) (want_none) rfl (q_fieldAddr fa_24_0 rfl rfl) ?_
    refine HO.val (v := .bool a.1) (want_none) rfl (q_load to_4 rfl (Blk.cell (hS.box 1 rfl) rfl)) ?_
    refine HO.nil (thenQ_normal (?_))
    refine HW.cond a.1 rfl (fun c_1 => ?_) (fun c_1 => ?_)
    · replace hM := hM.1 c_1
      refine HW.region ?_
      refine HO.val (v := .int .i64 16) (want_none) rfl (q_assign rfl) ?_
      refine HO.nil (thenQ_normal (?_))
      replace hS : St F (Ow.box b_1 24 (e_api_Addr a).toArray :: Ow.own 5 1 enc8 (.slice (some ⟨b_2, 0, none⟩) 0 0) ([] : List UInt8) :: fr) h_2 := hS.perm2 [1, 0] 2 rfl rfl
      exact ⟨F, 16, rfl, rfl, rfl, rfl, hK, hS, hM⟩
    · replace hM := hM.2 c_1
      refine HW.skip (thenQ_normal (?_))
      replace hS : St F (Ow.box b_1 24 (e_api_Addr a).toArray :: Ow.own 5 1 enc8 (.slice (some ⟨b_2, 0, none⟩) 0 0) ([] : List UInt8) :: fr) h_2 := hS.perm2 [1, 0] 2 rfl rfl
      exact ⟨F, 4, rfl, rfl, rfl, rfl, hK, hS, hM⟩
  · rintro f_1 h_3 ⟨F_1, n_1, e1, e2, e3, e4, hK, hS, hM⟩
    unfold ref03_Bytes_j1 at hM
    refine HW.fr [(1, .pointer (some ⟨b_1, 0, none⟩)), (2, .string (bs [])), (3, .slice (some ⟨b_2, 0, none⟩) 0 0), (4, .int .i64 n_1)] ⟨e1, e2, e3, e4, trivial⟩ ?_
    refine HW.seq ?_
    refine HW.seq ?_
    refine HW.region ?_
    refine HO.val (v := .int .i64 0) (want_none) rfl (q_assign rfl) ?_
    refine HO.nil (thenQ_normal (?_))
    refine HW.block ?_
    obtain ⟨I_1, m_1, hI_1, hR_1⟩ := hM
    refine HW.loop (S := List UInt8 × Int) (fun s f h => match s with | (b_3, i_1) => ∃ (F' : Fz) (vb_1 : Value), f 1 = .pointer (some ⟨b_1, 0, none⟩) ∧ f 2 = .string (bs []) ∧ f 3 = vb_1 ∧ f 4 = .int .i64 n_1 ∧ f 5 = .int .i64 i_1 ∧ Kp F h0 F' h ∧ St F' (Ow.box b_1 24 (e_api_Addr a).toArray :: Ow.own 5 1 enc8 vb_1 b_3 :: fr) h ∧ I_1 (b_3, i_1)) m_1 ([], 0) ⟨F_1, .slice (some ⟨b_2, 0, none⟩) 0 0, rfl, rfl, rfl, rfl, rfl, hK, hS, hI_1⟩ ?_
    rintro ⟨b_3, i_1⟩ f_2 h_4 ⟨F_2, vb_1, e1, e2, e3, e4, e5, hK, hS, hI0⟩
    obtain ⟨K_1, hKe_1⟩ : ∃ K : (List UInt8) → Int → Prop, K = fun b_3' i_1' => I_1 (b_3', i_1') ∧ m_1 (b_3', i_1') < m_1 (b_3, i_1) := ⟨_, rfl⟩
    have hM : ref03_Bytes_l1 a Q n_1 K_1 b_3 i_1 := by rw [hKe_1]; exact hR_1 (b_3, i_1) hI0
    unfold ref03_Bytes_l1 at hM
    refine HW.fr [(1, .pointer (some ⟨b_1, 0, none⟩)), (2, .string (bs [])), (3, vb_1), (4, .int .i64 n_1), (5, .int .i64 i_1)] ⟨e1, e2, e3, e4, e5, trivial⟩ ?_
    refine HW.seq ?_
    refine HW.seq ?_
    refine HW.region ?_
    refine HO.val (v := .int .i64 i_1) (want_none) rfl (q_move rfl) ?_
    refine HO.val (v := .int .i64 n_1) (want_none) rfl (q_move rfl) ?_
    refine HO.val (v := .bool (decide (i_1 < n_1))) (want_none) rfl (q_lss rfl rfl) ?_
    refine HO.nil (thenQ_normal (?_))
    refine HW.cond (decide (i_1 < n_1)) rfl (fun c_2 => ?_) (fun c_2 => ?_)
    · replace hM := hM.1 (of_decide_eq_true c_2)
      refine HW.skip (thenQ_normal (?_))
      refine HW.seq ?_
      refine HW.block ?_
      refine HW.region ?_
      refine HO.val (v := vb_1) (want_none) rfl (q_move rfl) ?_
      refine HO.val (v := .int .i64 i_1) (want_none) rfl (q_move rfl) ?_
      refine HO.val (v := .pointer (some ⟨b_1, 1, none⟩)) (want_none) rfl (q_fieldAddr fa_24_1 rfl rfl) ?_
      obtain ⟨ho_1, hM⟩ := hM
      refine HO.val (v := .pointer (some ⟨b_1, 1 + (i_1).toNat, none⟩)) (want_none) rfl (q_idxA (o := 1) (t := i_1) tr_22 rfl rfl ho_1) ?_
      refine HO.val (v := .int .u8 (b8 a.2 i_1)) (want_none) rfl (q_ldArr (o := 1) (t := i_1) (X := a.2) to_5 rfl (hS.box 0 rfl) rfl ho_1) ?_
      refine HO.eff (want_none) rfl (st_lit (enc := enc8) (cells := #[.int .u8 (b8 a.2 i_1)]) #[.int .u8 0] ([(gi a.2.1 i_1)] : List UInt8) hS tl_36 (by decide) (by decide) (by kernel_rfl) (by kernel_rfl) rfl (by intro x hx; rfl) rfl) ?_
      rintro _ h_5 ⟨b_4, rfl, hS, hk⟩
      replace hK := hK.trans hk
      obtain ⟨ho_2, hM⟩ := hM
      refine HO.eff (want_none) rfl (st_append te_36 hS (i := 2) rfl (hS.own 0 rfl).slice rfl rfl rfl (by intro a _ u hu; simp [enc8, encI, encN, encB, encT] at hu; subst hu; rfl) ho_2 (by omega)) ?_
      rintro v_1 h_6 ⟨hS, hk⟩
      replace hS : St F_2 (Ow.own 5 1 enc8 (.slice (some ⟨b_4, 0, none⟩) 1 1) ([(gi a.2.1 i_1)] : List UInt8) :: Ow.box b_1 24 (e_api_Addr a).toArray :: Ow.own 5 1 enc8 v_1 (b_3 ++ ([(gi a.2.1 i_1)] : List UInt8)) :: fr) h_6 := hS
      replace hK := hK.trans hk
      refine HO.val (v := v_1) (want_none) rfl (q_assign rfl) ?_
      refine HO.nil (blockQ_normal (thenQ_normal (?_)))
      refine HW.region ?_
      refine HO.val (v := .int .i64 i_1) (want_none) rfl (q_move rfl) ?_
      obtain ⟨ho_3, hM⟩ := hM
      refine HO.val (v := .int .i64 (i_1 + 1)) (want_none) rfl (q_addN _ rfl rfl rfl ho_3.1 ho_3.2) ?_
      refine HO.val (v := .int .i64 (i_1 + 1)) (want_none) rfl (q_assign rfl) ?_
      refine HO.nil (thenQ_normal (?_))
      replace hS : St F_2 (Ow.box b_1 24 (e_api_Addr a).toArray :: Ow.own 5 1 enc8 v_1 (b_3 ++ ([(gi a.2.1 i_1)] : List UInt8)) :: fr) h_6 := hS.perm2 [1, 2] 3 rfl rfl
      rw [hKe_1] at hM
      exact ⟨(b_3 ++ ([(gi a.2.1 i_1)] : List UInt8), i_1 + 1), ⟨F_2, v_1, rfl, rfl, rfl, rfl, rfl, hK, hS, hM.1⟩, hM.2⟩
    · replace hM := hM.2 (of_decide_eq_false c_2)
      refine HW.exit (thenQ_exit (thenQ_exit (blockQ_exit (thenQ_normal (?_)))))
      refine HW.seq ?_
      refine HW.region ?_
      refine HO.val (v := vb_1) (want_none) rfl (q_move rfl) ?_
      refine HO.val (v := .string (bs b_3)) (want_none) rfl (q_bytesStr ts_36 Tryz.underlying5 Tryz.underlying9 (hS.own 1 rfl).slice rfl) ?_
      refine HO.val (v := .string (bs b_3)) (want_none) rfl (q_assign rfl) ?_
      refine HO.nil (thenQ_normal (?_))
      refine HW.ret (?_)
      refine ⟨.inr rfl, .string (bs b_3), res1 rfl (rt rfl), ?_⟩
      replace hS : St F_2 (fr) h_4 := hS.perm2 [] 2 rfl rfl
      exact ⟨F_2, b_3, rfl, hK, hS, hM⟩

def addr_Zero_W (a : T_api_Addr) (Q : Bool → Prop) : Prop :=
  Q (decide ((a.2 : Ba 16) = mkB 16 [0, 0, 0, 0, 0, 0, 0, 0, 0, 0, 0, 0, 0, 0, 0, 0]))
set_option maxHeartbeats 40000000 in
set_option maxRecDepth 100000 in
theorem addr_Zero_walk {F : Fz} {fr : List Ow} {h0 : Heap} (a : T_api_Addr) (hS : St F (fr) h0)  {Q : Bool → Prop} (hM : addr_Zero_W a Q) :
    HC Tryz.prog 11 #[.agg (e_api_Addr a).toArray] h0 fun u h' => ∃ (F' : Fz) (r_1 : Bool), u = .bool r_1 ∧ Kp F h0 F' h' ∧ St F' (fr) h' ∧ Q r_1 := by
  unfold addr_Zero_W at hM
  have hK := Kp.refl F h0
  refine HC.of_HW (n := 7) Tryz.func11 rfl rfl (Nat.le_of_ble_eq_true rfl) ?_
  refine HW.seq ?_
  refine HW.region ?_
  refine HO.eff (want_none) rfl (st_box (c := (e_api_Addr a).toArray) (k' := 17) hS rfl rfl) ?_
  rintro _ h_1 ⟨b_1, rfl, hS, hk⟩
  replace hK := hK.trans hk
  refine HO.val (v := .bool false) (want_none) rfl (q_assign rfl) ?_
  refine HO.nil (thenQ_normal (?_))
  refine HW.seq ?_
  refine HW.region ?_
  refine HO.val (v := .pointer (some ⟨b_1, 1, none⟩)) (want_none) rfl (q_fieldAddr fa_24_1 rfl rfl) ?_
  refine HO.val (v := .agg (arrCells a.2).toArray) (want_none) rfl (q_loadAgg (cs := (arrCells a.2)) ta_22 rfl rfl (Blk.cells (k := 16) (hS.box 0 rfl) rfl)) ?_
  refine HO.val (v := .agg (arrCells (mkB 16 [0, 0, 0, 0, 0, 0, 0, 0, 0, 0, 0, 0, 0, 0, 0, 0])).toArray) (want_none) rfl ((q_buildA (cells := #[.int .u8 0, .int .u8 0, .int .u8 0, .int .u8 0, .int .u8 0, .int .u8 0, .int .u8 0, .int .u8 0, .int .u8 0, .int .u8 0, .int .u8 0, .int .u8 0, .int .u8 0, .int .u8 0, .int .u8 0, .int .u8 0]) tb_22 rfl).of_eq (mkB_agg (n := 16) (l := [0, 0, 0, 0, 0, 0, 0, 0, 0, 0, 0, 0, 0, 0, 0, 0]) rfl ⟨⟨by decide, by decide⟩, ⟨⟨by decide, by decide⟩, ⟨⟨by decide, by decide⟩, ⟨⟨by decide, by decide⟩, ⟨⟨by decide, by decide⟩, ⟨⟨by decide, by decide⟩, ⟨⟨by decide, by decide⟩, ⟨⟨by decide, by decide⟩, ⟨⟨by decide, by decide⟩, ⟨⟨by decide, by decide⟩, ⟨⟨by decide, by decide⟩, ⟨⟨by decide, by decide⟩, ⟨⟨by decide, by decide⟩, ⟨⟨by decide, by decide⟩, ⟨⟨by decide, by decide⟩, ⟨⟨by decide, by decide⟩, trivial⟩⟩⟩⟩⟩⟩⟩⟩⟩⟩⟩⟩⟩⟩⟩⟩)) ?_
  refine HO.val (v := .bool (decide ((a.2 : Ba 16) = mkB 16 [0, 0, 0, 0, 0, 0, 0, 0, 0, 0, 0, 0, 0, 0, 0, 0]))) (want_none) rfl (q_eqlAgg (a := a.2) (b := mkB 16 [0, 0, 0, 0, 0, 0, 0, 0, 0, 0, 0, 0, 0, 0, 0, 0]) (fun a b w => teq_22 9998 a b w) (by kernel_rfl) rfl rfl rfl rfl) ?_
  refine HO.val (v := .bool (decide ((a.2 : Ba 16) = mkB 16 [0, 0, 0, 0, 0, 0, 0, 0, 0, 0, 0, 0, 0, 0, 0, 0]))) (want_none) rfl (q_assign rfl) ?_
  refine HO.nil (thenQ_normal (?_))
  refine HW.ret (?_)
  refine ⟨.inr rfl, .bool (decide ((a.2 : Ba 16) = mkB 16 [0, 0, 0, 0, 0, 0, 0, 0, 0, 0, 0, 0, 0, 0, 0, 0])), res1 rfl (rt rfl), ?_⟩
  replace hS : St F (fr) h_1 := hS.perm2 [] 1 rfl rfl
  exact ⟨F, decide ((a.2 : Ba 16) = mkB 16 [0, 0, 0, 0, 0, 0, 0, 0, 0, 0, 0, 0, 0, 0, 0, 0]), rfl, hK, hS, hM⟩

def ref03_Zero_l1 (a : T_api_Addr) (Q : Bool → Prop) (K_1 : Int → Prop) (i_1 : Int) : Prop :=
  (i_1 < 16 → ((0 : Int) ≤ i_1 ∧ i_1 < 16) ∧ ((¬ ((b8 a.2 i_1) = 0) → Q false) ∧ ((b8 a.2 i_1) = 0 → (I64 (i_1 + 1)) ∧ (K_1 (i_1 + 1))))) ∧ (¬ (i_1 < 16) → Q true)
def ref03_Zero_W (a : T_api_Addr) (Q : Bool → Prop) : Prop :=
  loopW (fun (K_1 : Int → Prop) (s : Int) => ref03_Zero_l1 a Q K_1 s) 0
set_option maxHeartbeats 40000000 in
set_option maxRecDepth 100000 in
theorem ref03_Zero_walk {F : Fz} {fr : List Ow} {h0 : Heap} (a : T_api_Addr) (hS : St F (fr) h0)  {Q : Bool → Prop} (hM : ref03_Zero_W a Q) :
    HC Tryz.prog 12 #[.agg (e_api_Addr a).toArray] h0 fun u h' => ∃ (F' : Fz) (r_1 : Bool), u = .bool r_1 ∧ Kp F h0 F' h' ∧ St F' (fr) h' ∧ Q r_1 := by
  unfold ref03_Zero_W at hM
  have hK := Kp.refl F h0
  refine HC.of_HW (n := 13) Tryz.func12 rfl rfl (Nat.le_of_ble_eq_true rfl) ?_
  refine HW.seq ?_
  refine HW.region ?_
  refine HO.eff (want_none) rfl (st_box (c := (e_api_Addr a).toArray) (k' := 17) hS rfl rfl) ?_
  rintro _ h_1 ⟨b_1, rfl, hS, hk⟩
  replace hK := hK.trans hk
  refine HO.val (v := .bool false) (want_none) rfl (q_assign rfl) ?_
  refine HO.nil (thenQ_normal (?_))
  refine HW.seq ?_
  refine HW.seq ?_
  refine HW.region ?_
  refine HO.val (v := .int .i64 0) (want_none) rfl (q_assign rfl) ?_
  refine HO.nil (thenQ_normal (?_))
  refine HW.block ?_
  obtain ⟨I_1, m_1, hI_1, hR_1⟩ := hM
  refine HW.loop (S := Int) (fun i_1 f h => ∃ (F' : Fz), f 1 = .pointer (some ⟨b_1, 0, none⟩) ∧ f 2 = .bool false ∧ f 3 = .int .i64 i_1 ∧ Kp F h0 F' h ∧ St F' (Ow.box b_1 24 (e_api_Addr a).toArray :: fr) h ∧ I_1 i_1) m_1 0 ⟨F, rfl, rfl, rfl, hK, hS, hI_1⟩ ?_
  rintro i_1 f_1 h_2 ⟨F_1, e1, e2, e3, hK, hS, hI0⟩
  obtain ⟨K_1, hKe_1⟩ : ∃ K : Int → Prop, K = fun i_1' => I_1 i_1' ∧ m_1 i_1' < m_1 i_1 := ⟨_, rfl⟩
  have hM : ref03_Zero_l1 a Q K_1 i_1 := by rw [hKe_1]; exact hR_1 i_1 hI0
  unfold ref03_Zero_l1 at hM
  refine HW.fr [(1, .pointer (some ⟨b_1, 0, none⟩)), (2, .bool false), (3, .int .i64 i_1)] ⟨e1, e2, e3, trivial⟩ ?_
  refine HW.seq ?_
  refine HW.seq ?_
  refine HW.region ?_
  refine HO.val (v := .int .i64 i_1) (want_none) rfl (q_move rfl) ?_
  refine HO.val (v := .bool (decide (i_1 < 16))) (want_none) rfl (q_lss rfl rfl) ?_
  refine HO.nil (thenQ_normal (?_))
  refine HW.cond (decide (i_1 < 16)) rfl (fun c_1 => ?_) (fun c_1 => ?_)
  · replace hM := hM.1 (of_decide_eq_true c_1)
    refine HW.skip (thenQ_normal (?_))
    refine HW.seq ?_
    refine HW.block ?_
    refine HW.seq ?_
    refine HW.region ?_
    refine HO.val (v := .int .i64 i_1) (want_none) rfl (q_move rfl) ?_
    refine HO.val (v := .pointer (some ⟨b_1, 1, none⟩)) (want_none) rfl (q_fieldAddr fa_24_1 rfl rfl) ?_
    obtain ⟨ho_1, hM⟩ := hM
    refine HO.val (v := .pointer (some ⟨b_1, 1 + (i_1).toNat, none⟩)) (want_none) rfl (q_idxA (o := 1) (t := i_1) tr_22 rfl rfl ho_1) ?_
    refine HO.val (v := .int .u8 (b8 a.2 i_1)) (want_none) rfl (q_ldArr (o := 1) (t := i_1) (X := a.2) to_5 rfl (hS.box 0 rfl) rfl ho_1) ?_
    refine HO.val (v := .bool (!decide ((b8 a.2 i_1) = 0))) (want_none) rfl (q_neq rfl rfl) ?_
    refine HO.nil (thenQ_normal (?_))
    refine HW.cond (!decide ((b8 a.2 i_1) = 0)) rfl (fun c_2 => ?_) (fun c_2 => ?_)
    · replace hM := hM.1 (nd_true c_2)
      refine HW.seq ?_
      refine HW.region ?_
      refine HO.val (v := .bool false) (want_none) rfl (q_assign rfl) ?_
      refine HO.nil (thenQ_normal (?_))
      refine HW.ret (blockQ_ret (thenQ_ret (thenQ_ret (blockQ_ret (thenQ_ret (?_))))))
      refine ⟨.inr rfl, .bool false, res1 rfl (rt rfl), ?_⟩
      replace hS : St F_1 (fr) h_2 := hS.perm2 [] 1 rfl rfl
      exact ⟨F_1, false, rfl, hK, hS, hM⟩
    · replace hM := hM.2 (nd_false c_2)
      refine HW.skip (blockQ_normal (thenQ_normal (?_)))
      refine HW.region ?_
      refine HO.val (v := .int .i64 i_1) (want_none) rfl (q_move rfl) ?_
      obtain ⟨ho_2, hM⟩ := hM
      refine HO.val (v := .int .i64 (i_1 + 1)) (want_none) rfl (q_addN _ rfl rfl rfl ho_2.1 ho_2.2) ?_
      refine HO.val (v := .int .i64 (i_1 + 1)) (want_none) rfl (q_assign rfl) ?_
      refine HO.nil (thenQ_normal (?_))
      rw [hKe_1] at hM
      exact ⟨i_1 + 1, ⟨F_1, rfl, rfl, rfl, hK, hS, hM.1⟩, hM.2⟩
  · replace hM := hM.2 (of_decide_eq_false c_1)
    refine HW.exit (thenQ_exit (thenQ_exit (blockQ_exit (thenQ_normal (?_)))))
    refine HW.seq ?_
    refine HW.region ?_
    refine HO.val (v := .bool true) (want_none) rfl (q_assign rfl) ?_
    refine HO.nil (thenQ_normal (?_))
    refine HW.ret (?_)
    refine ⟨.inr rfl, .bool true, res1 rfl (rt rfl), ?_⟩
    replace hS : St F_1 (fr) h_2 := hS.perm2 [] 1 rfl rfl
    exact ⟨F_1, true, rfl, hK, hS, hM⟩

def addr_Many_W (m1 : Ba 6) (Q : Bool → Prop) : Prop :=
  ((0 : Int) ≤ (bits .and .u8 (b8 m1 0) 1) ∧ (bits .and .u8 (b8 m1 0) 1) < 256) ∧ (Q (decide (((u8w (bits .and .u8 (b8 m1 0) 1)).toNat : Int) = 1)))
set_option maxHeartbeats 40000000 in
set_option maxRecDepth 100000 in
theorem addr_Many_walk {F : Fz} {fr : List Ow} {h0 : Heap} (m1 : Ba 6) (hS : St F (fr) h0)  {Q : Bool → Prop} (hM : addr_Many_W m1 Q) :
    HC Tryz.prog 13 #[.agg (arrCells m1).toArray] h0 fun u h' => ∃ (F' : Fz) (r_1 : Bool), u = .bool r_1 ∧ Kp F h0 F' h' ∧ St F' (fr) h' ∧ Q r_1 := by
  unfold addr_Many_W at hM
  have hK := Kp.refl F h0
  refine HC.of_HW (n := 7) Tryz.func13 rfl rfl (Nat.le_of_ble_eq_true rfl) ?_
  refine HW.seq ?_
  refine HW.region ?_
  refine HO.eff (want_none) rfl (st_box (c := (arrCells m1).toArray) (k' := 6) hS rfl rfl) ?_
  rintro _ h_1 ⟨b_1, rfl, hS, hk⟩
  replace hK := hK.trans hk
  refine HO.val (v := .bool false) (want_none) rfl (q_assign rfl) ?_
  refine HO.nil (thenQ_normal (?_))
  refine HW.seq ?_
  refine HW.region ?_
  refine HO.val (v := .pointer (some ⟨b_1, 0, none⟩)) (want_none) rfl (q_idxA (o := 0) (t := 0) tr_28 rfl rfl ⟨by decide, by decide⟩) ?_
  refine HO.val (v := .int .u8 (b8 m1 0)) (want_none) rfl (q_load to_5 rfl (Blk.cell (hS.box 0 rfl) rfl)) ?_
  obtain ⟨ho_1, hM⟩ := hM
  refine HO.val (v := .int .u8 ((u8w (bits .and .u8 (b8 m1 0) 1)).toNat : Int)) (want_none) rfl ((q_bits (by simp) rfl rfl).of_eq (u8r_v ho_1)) ?_
  refine HO.val (v := .bool (decide (((u8w (bits .and .u8 (b8 m1 0) 1)).toNat : Int) = 1))) (want_none) rfl (q_eql rfl rfl) ?_
  refine HO.val (v := .bool (decide (((u8w (bits .and .u8 (b8 m1 0) 1)).toNat : Int) = 1))) (want_none) rfl (q_assign rfl) ?_
  refine HO.nil (thenQ_normal (?_))
  refine HW.ret (?_)
  refine ⟨.inr rfl, .bool (decide (((u8w (bits .and .u8 (b8 m1 0) 1)).toNat : Int) = 1)), res1 rfl (rt rfl), ?_⟩
  replace hS : St F (fr) h_1 := hS.perm2 [] 1 rfl rfl
  exact ⟨F, decide (((u8w (bits .and .u8 (b8 m1 0) 1)).toNat : Int) = 1), rfl, hK, hS, hM⟩

def addr_Group_W (a : T_api_Addr) (Q : Bool → Prop) : Prop :=
  addr_group_W a (fun r_2 => Q r_2)
set_option maxHeartbeats 40000000 in
set_option maxRecDepth 100000 in
theorem addr_Group_walk {F : Fz} {fr : List Ow} {h0 : Heap} (a : T_api_Addr) (hS : St F (fr) h0)  {Q : Bool → Prop} (hM : addr_Group_W a Q) :
    HC Tryz.prog 14 #[.agg (e_api_Addr a).toArray] h0 fun u h' => ∃ (F' : Fz) (r_1 : Bool), u = .bool r_1 ∧ Kp F h0 F' h' ∧ St F' (fr) h' ∧ Q r_1 := by
  unfold addr_Group_W at hM
  have hK := Kp.refl F h0
  refine HC.of_HW (n := 5) Tryz.func14 rfl rfl (Nat.le_of_ble_eq_true rfl) ?_
  refine HW.seq ?_
  refine HW.region ?_
  refine HO.eff (want_none) rfl (st_box (c := (e_api_Addr a).toArray) (k' := 17) hS rfl rfl) ?_
  rintro _ h_1 ⟨b_1, rfl, hS, hk⟩
  replace hK := hK.trans hk
  refine HO.val (v := .bool false) (want_none) rfl (q_assign rfl) ?_
  refine HO.nil (thenQ_normal (?_))
  refine HW.seq ?_
  refine HW.region ?_
  refine HO.val (v := .agg (e_api_Addr a).toArray) (want_none) rfl (q_loadAgg (cs := (e_api_Addr a)) ta_24 rfl rfl (Blk.cells (k := 17) (hS.box 0 rfl) rfl)) ?_
  refine HO.call (want_none) rfl (ec en_24 rfl rfl) (addr_group_walk (fr := (Ow.box b_1 24 (e_api_Addr a).toArray :: fr)) a hS hM) ?_
  rintro _ h_2 ⟨F_1, r_2, rfl, hk, hS, hM⟩
  replace hK := hK.trans hk
  refine HO.val (v := .bool r_2) (want_none) rfl (q_assign rfl) ?_
  refine HO.nil (thenQ_normal (?_))
  refine HW.ret (?_)
  refine ⟨.inr rfl, .bool r_2, res1 rfl (rt rfl), ?_⟩
  replace hS : St F_1 (fr) h_2 := hS.perm2 [] 1 rfl rfl
  exact ⟨F_1, r_2, rfl, hK, hS, hM⟩

def internal_stringslite_HasPrefix_W (s1 : Str) (prefix1 : Str) (Q : Bool → Prop) : Prop :=
  ((prefix1.length : Int) ≤ (s1.length : Int) → ((0 : Int) ≤ (prefix1.length : Int) ∧ (prefix1.length : Int) ≤ (s1.length : Int)) ∧ (Q (decide ((cut s1 0 (prefix1.length : Int) : Str) = prefix1)))) ∧ (¬ ((prefix1.length : Int) ≤ (s1.length : Int)) → Q false)
set_option maxHeartbeats 40000000 in
set_option maxRecDepth 100000 in
theorem internal_stringslite_HasPrefix_walk {F : Fz} {fr : List Ow} {h0 : Heap} (s1 : Str) (prefix1 : Str) (hS : St F (fr) h0)  {Q : Bool → Prop} (hM : internal_stringslite_HasPrefix_W s1 prefix1 Q) :
    HC Tryz.prog 51 #[.string (bs s1), .string (bs prefix1)] h0 fun u h' => ∃ (F' : Fz) (r_1 : Bool), u = .bool r_1 ∧ Kp F h0 F' h' ∧ St F' (fr) h' ∧ Q r_1 := by
  unfold internal_stringslite_HasPrefix_W at hM
  have hK := Kp.refl F h0
  refine HC.of_HW (n := 18) Tryz.func51 rfl rfl (Nat.le_of_ble_eq_true rfl) ?_
  refine HW.seq ?_
  refine HW.region ?_
  refine HO.val (v := .bool false) (want_none) rfl (q_assign rfl) ?_
  refine HO.nil (thenQ_normal (?_))
  refine HW.seq ?_
  refine HW.region ?_
  refine HO.val (v := .string (bs s1)) (want_none) rfl (q_move rfl) ?_
  refine HO.val (v := .int .i64 (s1.length : Int)) (want_none) rfl (q_lenT Tryz.underlying9 rfl rfl) ?_
  refine HO.val (v := .string (bs prefix1)) (want_none) rfl (q_move rfl) ?_
  refine HO.val (v := .int .i64 (prefix1.length : Int)) (want_none) rfl (q_lenT Tryz.underlying9 rfl rfl) ?_
  refine HO.val (v := .bool (decide ((prefix1.length : Int) ≤ (s1.length : Int)))) (want_none) rfl (q_geq rfl rfl) ?_
  refine HO.val (v := .bool (decide ((prefix1.length : Int) ≤ (s1.length : Int)))) (want_none) rfl (q_move rfl) ?_
  rcases Bool.eq_false_or_eq_true (decide ((prefix1.length : Int) ≤ (s1.length : Int))) with c_1 | c_1
  · replace hM := hM.1 (of_decide_eq_true c_1)
    refine HO.val (v := .string (bs s1)) (want_by rfl rfl c_1) rfl (q_move rfl) ?_
    refine HO.val (v := .string (bs prefix1)) (want_by rfl rfl c_1) rfl (q_move rfl) ?_
    refine HO.val (v := .int .i64 (prefix1.length : Int)) (want_by rfl rfl c_1) rfl (q_lenT Tryz.underlying9 rfl rfl) ?_
    obtain ⟨ho_1, hM⟩ := hM
    refine HO.val (v := .string (bs (cut s1 0 (prefix1.length : Int)))) (want_by rfl rfl c_1) rfl (q_strH Tryz.underlying9 rfl rfl ho_1) ?_
    refine HO.val (v := .string (bs prefix1)) (want_by rfl rfl c_1) rfl (q_move rfl) ?_
    refine HO.val (v := .bool (decide ((cut s1 0 (prefix1.length : Int) : Str) = prefix1))) (want_by rfl rfl c_1) rfl (q_eqlT rfl rfl) ?_
    refine HO.val (v := .bool (decide ((cut s1 0 (prefix1.length : Int) : Str) = prefix1))) (want_none) rfl (q_pickK true rfl c_1 rfl) ?_
    refine HO.val (v := .bool (decide ((cut s1 0 (prefix1.length : Int) : Str) = prefix1))) (want_none) rfl (q_assign rfl) ?_
    refine HO.nil (thenQ_normal (?_))
    refine HW.ret (?_)
    refine ⟨.inr rfl, .bool (decide ((cut s1 0 (prefix1.length : Int) : Str) = prefix1)), res1 rfl (rt rfl), ?_⟩
    exact ⟨F, decide ((cut s1 0 (prefix1.length : Int) : Str) = prefix1), rfl, hK, hS, hM⟩
  · replace hM := hM.2 (of_decide_eq_false c_1)
    refine HO.past (past_by rfl rfl c_1) rfl ?_
    refine HO.past (past_by rfl rfl c_1) rfl ?_
    refine HO.past (past_by rfl rfl c_1) rfl ?_
    refine HO.past (past_by rfl rfl c_1) rfl ?_
    refine HO.past (past_by rfl rfl c_1) rfl ?_
    refine HO.past (past_by rfl rfl c_1) rfl ?_
    refine HO.val (v := .bool false) (want_none) rfl (q_pickK false rfl c_1 rfl) ?_
    refine HO.val (v := .bool false) (want_none) rfl (q_assign rfl) ?_
    refine HO.nil (thenQ_normal (?_))
    refine HW.ret (?_)
    refine ⟨.inr rfl, .bool false, res1 rfl (rt rfl), ?_⟩
    exact ⟨F, false, rfl, hK, hS, hM⟩

def strings_HasPrefix_W (s1 : Str) (prefix1 : Str) (Q : Bool → Prop) : Prop :=
  internal_stringslite_HasPrefix_W s1 prefix1 (fun r_2 => Q r_2)
set_option maxHeartbeats 40000000 in
set_option maxRecDepth 100000 in
theorem strings_HasPrefix_walk {F : Fz} {fr : List Ow} {h0 : Heap} (s1 : Str) (prefix1 : Str) (hS : St F (fr) h0)  {Q : Bool → Prop} (hM : strings_HasPrefix_W s1 prefix1 Q) :
    HC Tryz.prog 38 #[.string (bs s1), .string (bs prefix1)] h0 fun u h' => ∃ (F' : Fz) (r_1 : Bool), u = .bool r_1 ∧ Kp F h0 F' h' ∧ St F' (fr) h' ∧ Q r_1 := by
  unfold strings_HasPrefix_W at hM
  have hK := Kp.refl F h0
  refine HC.of_HW (n := 8) Tryz.func38 rfl rfl (Nat.le_of_ble_eq_true rfl) ?_
  refine HW.seq ?_
  refine HW.region ?_
  refine HO.val (v := .bool false) (want_none) rfl (q_assign rfl) ?_
  refine HO.nil (thenQ_normal (?_))
  refine HW.seq ?_
  refine HW.region ?_
  refine HO.val (v := .string (bs s1)) (want_none) rfl (q_move rfl) ?_
  refine HO.val (v := .string (bs prefix1)) (want_none) rfl (q_move rfl) ?_
  refine HO.call (want_none) rfl (ec en_51 rfl rfl) (internal_stringslite_HasPrefix_walk (fr := (fr)) s1 prefix1 hS hM) ?_
  rintro _ h_1 ⟨F_1, r_2, rfl, hk, hS, hM⟩
  replace hK := hK.trans hk
  refine HO.val (v := .bool r_2) (want_none) rfl (q_assign rfl) ?_
  refine HO.nil (thenQ_normal (?_))
  refine HW.ret (?_)
  refine ⟨.inr rfl, .bool r_2, res1 rfl (rt rfl), ?_⟩
  exact ⟨F_1, r_2, rfl, hK, hS, hM⟩

def addr_begins_W (a : T_api_Addr) (b : List UInt8) (Q : Bool → Prop) : Prop :=
  strings_HasPrefix_W (cut a.2.1 0 16) b (fun r_2 => Q r_2)
set_option maxHeartbeats 40000000 in
set_option maxRecDepth 100000 in
theorem addr_begins_walk {F : Fz} {fr : List Ow} {h0 : Heap} (a : T_api_Addr) (b : List UInt8) (vb : Value) (hS : St F (fr) h0) (hL_b : SliceF F h0 1 enc8 vb b) {Q : Bool → Prop} (hM : addr_begins_W a b Q) :
    HC Tryz.prog 30 #[.agg (e_api_Addr a).toArray, vb] h0 fun u h' => ∃ (F' : Fz) (r_1 : Bool), u = .bool r_1 ∧ Kp F h0 F' h' ∧ St F' (fr) h' ∧ (SliceF F' h' 1 enc8 vb b) ∧ Q r_1 := by
  unfold addr_begins_W at hM
  have hK := Kp.refl F h0
  refine HC.of_HW (n := 11) Tryz.func30 rfl rfl (Nat.le_of_ble_eq_true rfl) ?_
  refine HW.seq ?_
  refine HW.region ?_
  refine HO.eff (want_none) rfl (st_box (c := (e_api_Addr a).toArray) (k' := 17) hS rfl rfl) ?_
  rintro _ h_1 ⟨b_1, rfl, hS, hk⟩
  replace hK := hK.trans hk
  replace hL_b := hL_b.kp hk
  refine HO.val (v := .bool false) (want_none) rfl (q_assign rfl) ?_
  refine HO.nil (thenQ_normal (?_))
  refine HW.seq ?_
  refine HW.regionA 7 mixed (fun h => (SliceIs h 1 enc8 vb b) ∧ (Blk h b_1 (.cells (e_api_Addr a).toArray 24 (0, 0)))) [] (by kernel_rfl) ?_
  refine HA.val (k := 0) (v := .pointer (some ⟨b_1, 1, none⟩)) rfl rfl (by kernel_rfl) (by kernel_rfl) (want_none) rfl (fun _ ⟨hL_b, c201⟩ => q_fieldAddr fa_24_1 rfl rfl) ?_
  refine HA.val (k := 1) (v := arrV b_1 1 16 0 16) rfl rfl (by kernel_rfl) (by kernel_rfl) (want_none) rfl (fun _ ⟨hL_b, c201⟩ => q_sliceA (o := 1) (lo := 0) (hi := 16) (kl := .i64) (kh := .i64) tr_22 rfl (.inl ⟨rfl, rfl⟩) (.inl ⟨rfl, rfl⟩) ⟨by decide, by decide, by decide⟩) ?_
  refine HA.val (k := 2) (v := .string (bs (cut a.2.1 0 16))) rfl rfl (by kernel_rfl) (by kernel_rfl) (want_none) rfl (fun _ ⟨hL_b, c201⟩ => q_bytesStr ts_36 Tryz.underlying5 Tryz.underlying9 (arrSl (o := 1) (n := 16) (X := a.2) (lo := 0) (hi := 16) c201 rfl ⟨by decide, by decide, by decide⟩ (by decide)) rfl) ?_
  refine HA.val (k := 3) (v := vb) rfl rfl (by kernel_rfl) (by kernel_rfl) (want_none) rfl (fun _ ⟨hL_b, c201⟩ => q_move rfl) ?_
  refine HA.val (k := 4) (v := .string (bs b)) rfl rfl (by kernel_rfl) (by kernel_rfl) (want_none) rfl (fun _ ⟨hL_b, c201⟩ => q_bytesStr ts_36 Tryz.underlying5 Tryz.underlying9 hL_b rfl) ?_
  refine HA.one (k := 5) ⟨⟨hL_b.is, (hS.box 0 rfl)⟩, (Go.Wk.at_nil _ _)⟩ (by kernel_rfl) ?_
  refine HS.call rfl (want_none) rfl (ec en_38 rfl rfl) (strings_HasPrefix_walk (fr := (Ow.box b_1 24 (e_api_Addr a).toArray :: fr)) (cut a.2.1 0 16) b hS hM) ?_
  rintro _ h_2 ⟨F_1, r_2, rfl, hk, hS, hM⟩
  replace hK := hK.trans hk
  replace hL_b := hL_b.kp hk
  refine HA.val (k := 6) (v := .bool r_2) rfl rfl (by kernel_rfl) (by kernel_rfl) (want_none) rfl (fun _ ⟨hL_b, c201⟩ => q_assign rfl) ?_
  refine HA.nil ⟨⟨hL_b.is, (hS.box 0 rfl)⟩, (Go.Wk.at_nil _ _)⟩ (by kernel_rfl) (thenQ_normal (?_))
  refine HW.ret (?_)
  refine ⟨.inr rfl, .bool r_2, res1 rfl (rt rfl), ?_⟩
  replace hS : St F_1 (fr) h_2 := hS.perm2 [] 1 rfl rfl
  exact ⟨F_1, r_2, rfl, hK, hS, hL_b, hM⟩

def addr_scope_W (a : T_api_Addr) (Q : Int → Prop) : Prop :=
  addr_group_W a (fun r_2 => ((!r_2) = true → Q 0) ∧ ((!r_2) = false → (a.1 = true → ((0 : Int) ≤ (bits .and .u8 (b8 a.2 1) 15) ∧ (bits .and .u8 (b8 a.2 1) 15) < 256) ∧ ((I64 ((u8w (bits .and .u8 (b8 a.2 1) 15)).toNat : Int)) ∧ (Q ((u8w (bits .and .u8 (b8 a.2 1) 15)).toNat : Int)))) ∧ (a.1 = false → addr_begins_W a ([(224 : UInt8), (0 : UInt8), (0 : UInt8)] : List UInt8) (fun r_3 => (r_3 = true → Q 2) ∧ (r_3 = false → addr_begins_W a ([(239 : UInt8), (255 : UInt8)] : List UInt8) (fun r_4 => (r_4 = true → Q 3) ∧ (r_4 = false → ((b8 a.2 0) = 239 → ((0 : Int) ≤ ((b8 a.2 1).fdiv (2 ^ (min (2 : Int).toNat IntKind.u8.bits))) ∧ ((b8 a.2 1).fdiv (2 ^ (min (2 : Int).toNat IntKind.u8.bits))) < 256) ∧ ((((u8w ((b8 a.2 1).fdiv (2 ^ (min (2 : Int).toNat IntKind.u8.bits)))).toNat : Int) = 48 → Q 8) ∧ (¬ (((u8w ((b8 a.2 1).fdiv (2 ^ (min (2 : Int).toNat IntKind.u8.bits)))).toNat : Int) = 48) → Q 14))) ∧ (¬ ((b8 a.2 0) = 239) → Q 14))))))))
set_option maxHeartbeats 40000000 in
set_option maxRecDepth 100000 in
theorem addr_scope_walk {F : Fz} {fr : List Ow} {h0 : Heap} (a : T_api_Addr) (hS : St F (fr) h0)  {Q : Int → Prop} (hM : addr_scope_W a Q) :
    HC Tryz.prog 26 #[.agg (e_api_Addr a).toArray] h0 fun u h' => ∃ (F' : Fz) (r_1 : Int), u = .int .i64 r_1 ∧ Kp F h0 F' h' ∧ St F' (fr) h' ∧ Q r_1 := by
  unfold addr_scope_W at hM
  have hK := Kp.refl F h0
  refine HC.of_HW (n := 35) Tryz.func26 rfl rfl (Nat.le_of_ble_eq_true rfl) ?_
  refine HW.seq ?_
  refine HW.region ?_
  refine HO.eff (want_none) rfl (st_box (c := (e_api_Addr a).toArray) (k' := 17) hS rfl rfl) ?_
  rintro _ h_1 ⟨b_1, rfl, hS, hk⟩
  replace hK := hK.trans hk
  refine HO.val (v := .int .i64 0) (want_none) rfl (q_assign rfl) ?_
  refine HO.nil (thenQ_normal (?_))
  refine HW.seq ?_
  refine HW.block ?_
  refine HW.seq ?_
  refine HW.region ?_
  refine HO.val (v := .agg (e_api_Addr a).toArray) (want_none) rfl (q_loadAgg (cs := (e_api_Addr a)) ta_24 rfl rfl (Blk.cells (k := 17) (hS.box 0 rfl) rfl)) ?_
  refine HO.call (want_none) rfl (ec en_24 rfl rfl) (addr_group_walk (fr := (Ow.box b_1 24 (e_api_Addr a).toArray :: fr)) a hS hM) ?_
  rintro _ h_2 ⟨F_1, r_2, rfl, hk, hS, hM⟩
  replace hK := hK.trans hk
  refine HO.val (v := .bool (!r_2)) (want_none) rfl (q_not rfl) ?_
  refine HO.val (v := .bool (!r_2)) (want_none) rfl (q_assign rfl) ?_
  refine HO.nil (thenQ_normal (?_))
  refine HW.cond (!r_2) rfl (fun c_1 => ?_) (fun c_1 => ?_)
  · replace hM := hM.1 c_1
    refine HW.seq ?_
    refine HW.region ?_
    refine HO.val (v := .int .i64 0) (want_none) rfl (q_assign rfl) ?_
    refine HO.nil (thenQ_normal (?_))
    refine HW.ret (blockQ_ret (thenQ_ret (?_)))
    refine ⟨.inr rfl, .int .i64 0, res1 rfl (rt rfl), ?_⟩
    replace hS : St F_1 (fr) h_2 := hS.perm2 [] 1 rfl rfl
    exact ⟨F_1, 0, rfl, hK, hS, hM⟩
  · replace hM := hM.2 c_1
    refine HW.seq ?_
    refine HW.region ?_
    refine HO.val (v := .pointer (some ⟨b_1, 0, none⟩)) (want_none) rfl (q_fieldAddr fa_24_0 rfl rfl) ?_
    refine HO.val (v := .bool a.1) (want_none) rfl (q_load to_4 rfl (Blk.cell (hS.box 0 rfl) rfl)) ?_
    refine HO.val (v := .bool a.1) (want_none) rfl (q_assign rfl) ?_
    refine HO.nil (thenQ_normal (?_))
    refine HW.cond a.1 rfl (fun c_2 => ?_) (fun c_2 => ?_)
    · replace hM := hM.1 c_2
      refine HW.seq ?_
      refine HW.region ?_
      refine HO.val (v := .pointer (some ⟨b_1, 1, none⟩)) (want_none) rfl (q_fieldAddr fa_24_1 rfl rfl) ?_
      refine HO.val (v := .pointer (some ⟨b_1, 2, none⟩)) (want_none) rfl (q_idxA (o := 1) (t := 1) tr_22 rfl rfl ⟨by decide, by decide⟩) ?_
      refine HO.val (v := .int .u8 (b8 a.2 1)) (want_none) rfl (q_load to_5 rfl (Blk.cell (hS.box 0 rfl) rfl)) ?_
      obtain ⟨ho_1, hM⟩ := hM
      refine HO.val (v := .int .u8 ((u8w (bits .and .u8 (b8 a.2 1) 15)).toNat : Int)) (want_none) rfl ((q_bits (by simp) rfl rfl).of_eq (u8r_v ho_1)) ?_
      obtain ⟨ho_2, hM⟩ := hM
      refine HO.val (v := .int .i64 ((u8w (bits .and .u8 (b8 a.2 1) 15)).toNat : Int)) (want_none) rfl (q_convInt Tryz.underlying5 Tryz.underlying3 rfl (wrap_i64 ho_2.1 ho_2.2)) ?_
      refine HO.val (v := .int .i64 ((u8w (bits .and .u8 (b8 a.2 1) 15)).toNat : Int)) (want_none) rfl (q_assign rfl) ?_
      refine HO.nil (thenQ_normal (?_))
      refine HW.ret (blockQ_ret (thenQ_ret (?_)))
      refine ⟨.inr rfl, .int .i64 ((u8w (bits .and .u8 (b8 a.2 1) 15)).toNat : Int), res1 rfl (rt rfl), ?_⟩
      replace hS : St F_1 (fr) h_2 := hS.perm2 [] 1 rfl rfl
      exact ⟨F_1, ((u8w (bits .and .u8 (b8 a.2 1) 15)).toNat : Int), rfl, hK, hS, hM⟩
    · replace hM := hM.2 c_2
      refine HW.seq ?_
      refine HW.region ?_
      refine HO.val (v := .agg (e_api_Addr a).toArray) (want_none) rfl (q_loadAgg (cs := (e_api_Addr a)) ta_24 rfl rfl (Blk.cells (k := 17) (hS.box 0 rfl) rfl)) ?_
      refine HO.eff (want_none) rfl (st_lit (enc := enc8) (cells := #[.int .u8 224, .int .u8 0, .int .u8 0]) #[.int .u8 0, .int .u8 0, .int .u8 0] ([(224 : UInt8), (0 : UInt8), (0 : UInt8)] : List UInt8) hS tl_36 (by decide) (by decide) (by kernel_rfl) (by kernel_rfl) rfl (by intro x hx; rfl) rfl) ?_
      rintro _ h_3 ⟨b_2, rfl, hS, hk⟩
      replace hK := hK.trans hk
      have hZ_1 := hS
      have hkz_1 := (hS.freeze).2
      replace hS := hS.freeze.1
      have hL_1 : SliceF (fun b => F_1 b ∨ (Ow.own 5 1 enc8 (.slice (some ⟨b_2, 0, none⟩) 3 3) ([(224 : UInt8), (0 : UInt8), (0 : UInt8)] : List UInt8)).foot b) h_3 1 enc8 (.slice (some ⟨b_2, 0, none⟩) 3 3) ([(224 : UInt8), (0 : UInt8), (0 : UInt8)] : List UInt8) := ⟨(hZ_1.own 0 rfl).slice, fun _ b hb => .inr hb⟩
      refine HO.call (want_none) rfl (ec en_30 rfl rfl) (addr_begins_walk (fr := (Ow.box b_1 24 (e_api_Addr a).toArray :: fr)) a ([(224 : UInt8), (0 : UInt8), (0 : UInt8)] : List UInt8) (.slice (some ⟨b_2, 0, none⟩) 3 3) hS hL_1 hM) ?_
      rintro _ h_4 ⟨F_2, r_3, rfl, hk, hS, _, hM⟩
      obtain ⟨hS, hk⟩ := hZ_1.back hk hS
      generalize (fun b => F_2 b ∧ ¬ (Ow.own 5 1 enc8 (.slice (some ⟨b_2, 0, none⟩) 3 3) ([(224 : UInt8), (0 : UInt8), (0 : UInt8)] : List UInt8)).foot b) = F_3 at hS hk
      replace hK := hK.trans hk
      refine HO.val (v := .bool r_3) (want_none) rfl (q_assign rfl) ?_
      refine HO.nil (thenQ_normal (?_))
      refine HW.cond r_3 rfl (fun c_3 => ?_) (fun c_3 => ?_)
      · replace hM := hM.1 c_3
        refine HW.seq ?_
        refine HW.region ?_
        refine HO.val (v := .int .i64 2) (want_none) rfl (q_assign rfl) ?_
        refine HO.nil (thenQ_normal (?_))
        refine HW.ret (blockQ_ret (thenQ_ret (?_)))
        refine ⟨.inr rfl, .int .i64 2, res1 rfl (rt rfl), ?_⟩
        replace hS : St F_3 (fr) h_4 := hS.perm2 [] 2 rfl rfl
        exact ⟨F_3, 2, rfl, hK, hS, hM⟩
      · replace hM := hM.2 c_3
        refine HW.seq ?_
        refine HW.region ?_
        refine HO.val (v := .agg (e_api_Addr a).toArray) (want_none) rfl (q_loadAgg (cs := (e_api_Addr a)) ta_24 rfl rfl (Blk.cells (k := 17) (hS.box 1 rfl) rfl)) ?_
        refine HO.eff (want_none) rfl (st_lit (enc := enc8) (cells := #[.int .u8 239, .int .u8 255]) #[.int .u8 0, .int .u8 0] ([(239 : UInt8), (255 : UInt8)] : List UInt8) hS tl_36 (by decide) (by decide) (by kernel_rfl) (by kernel_rfl) rfl (by intro x hx; rfl) rfl) ?_
        rintro _ h_5 ⟨b_3, rfl, hS, hk⟩
        replace hK := hK.trans hk
        have hZ_2 := hS
        have hkz_2 := (hS.freeze).2
        replace hS := hS.freeze.1
        have hL_2 : SliceF (fun b => F_3 b ∨ (Ow.own 5 1 enc8 (.slice (some ⟨b_3, 0, none⟩) 2 2) ([(239 : UInt8), (255 : UInt8)] : List UInt8)).foot b) h_5 1 enc8 (.slice (some ⟨b_3, 0, none⟩) 2 2) ([(239 : UInt8), (255 : UInt8)] : List UInt8) := ⟨(hZ_2.own 0 rfl).slice, fun _ b hb => .inr hb⟩
        refine HO.call (want_none) rfl (ec en_30 rfl rfl) (addr_begins_walk (fr := (Ow.own 5 1 enc8 (.slice (some ⟨b_2, 0, none⟩) 3 3) ([(224 : UInt8), (0 : UInt8), (0 : UInt8)] : List UInt8) :: Ow.box b_1 24 (e_api_Addr a).toArray :: fr)) a ([(239 : UInt8), (255 : UInt8)] : List UInt8) (.slice (some ⟨b_3, 0, none⟩) 2 2) hS hL_2 hM) ?_
        rintro _ h_6 ⟨F_4, r_4, rfl, hk, hS, _, hM⟩
        obtain ⟨hS, hk⟩ := hZ_2.back hk hS
        generalize (fun b => F_4 b ∧ ¬ (Ow.own 5 1 enc8 (.slice (some ⟨b_3, 0, none⟩) 2 2) ([(239 : UInt8), (255 : UInt8)] : List UInt8)).foot b) = F_5 at hS hk
        replace hK := hK.trans hk
        refine HO.val (v := .bool r_4) (want_none) rfl (q_assign rfl) ?_
        refine HO.nil (thenQ_normal (?_))
        refine HW.cond r_4 rfl (fun c_4 => ?_) (fun c_4 => ?_)
        · replace hM := hM.1 c_4
          refine HW.seq ?_
          refine HW.region ?_
          refine HO.val (v := .int .i64 3) (want_none) rfl (q_assign rfl) ?_
          refine HO.nil (thenQ_normal (?_))
          refine HW.ret (blockQ_ret (thenQ_ret (?_)))
          refine ⟨.inr rfl, .int .i64 3, res1 rfl (rt rfl), ?_⟩
          replace hS : St F_5 (fr) h_6 := hS.perm2 [] 3 rfl rfl
          exact ⟨F_5, 3, rfl, hK, hS, hM⟩
        · replace hM := hM.2 c_4
          refine HW.seq ?_
          refine HW.region ?_
          refine HO.val (v := .pointer (some ⟨b_1, 1, none⟩)) (want_none) rfl (q_fieldAddr fa_24_1 rfl rfl) ?_
          refine HO.val (v := .pointer (some ⟨b_1, 1, none⟩)) (want_none) rfl (q_idxA (o := 1) (t := 0) tr_22 rfl rfl ⟨by decide, by decide⟩) ?_
          refine HO.val (v := .int .u8 (b8 a.2 0)) (want_none) rfl (q_load to_5 rfl (Blk.cell (hS.box 2 rfl) rfl)) ?_
          refine HO.val (v := .bool (decide ((b8 a.2 0) = 239))) (want_none) rfl (q_eql rfl rfl) ?_
          refine HO.val (v := .bool (decide ((b8 a.2 0) = 239))) (want_none) rfl (q_move rfl) ?_
          rcases Bool.eq_false_or_eq_true (decide ((b8 a.2 0) = 239)) with c_5 | c_5
          · replace hM := hM.1 (of_decide_eq_true c_5)
            refine HO.val (v := .pointer (some ⟨b_1, 1, none⟩)) (want_by rfl rfl c_5) rfl (q_fieldAddr fa_24_1 rfl rfl) ?_
            refine HO.val (v := .pointer (some ⟨b_1, 2, none⟩)) (want_by rfl rfl c_5) rfl (q_idxA (o := 1) (t := 1) tr_22 rfl rfl ⟨by decide, by decide⟩) ?_
            refine HO.val (v := .int .u8 (b8 a.2 1)) (want_by rfl rfl c_5) rfl (q_load to_5 rfl (Blk.cell (hS.box 2 rfl) rfl)) ?_
            obtain ⟨ho_3, hM⟩ := hM
            refine HO.val (v := .int .u8 ((u8w ((b8 a.2 1).fdiv (2 ^ (min (2 : Int).toNat IntKind.u8.bits)))).toNat : Int)) (want_by rfl rfl c_5) rfl ((q_shr rfl rfl (by decide) rfl).of_eq (u8r_v ho_3)) ?_
            refine HO.val (v := .bool (decide (((u8w ((b8 a.2 1).fdiv (2 ^ (min (2 : Int).toNat IntKind.u8.bits)))).toNat : Int) = 48))) (want_by rfl rfl c_5) rfl (q_eql rfl rfl) ?_
            refine HO.val (v := .bool (decide (((u8w ((b8 a.2 1).fdiv (2 ^ (min (2 : Int).toNat IntKind.u8.bits)))).toNat : Int) = 48))) (want_none) rfl (q_pickK true rfl c_5 rfl) ?_
            refine HO.val (v := .bool (decide (((u8w ((b8 a.2 1).fdiv (2 ^ (min (2 : Int).toNat IntKind.u8.bits)))).toNat : Int) = 48))) (want_none) rfl (q_assign rfl) ?_
            refine HO.nil (thenQ_normal (?_))
            refine HW.cond (decide (((u8w ((b8 a.2 1).fdiv (2 ^ (min (2 : Int).toNat IntKind.u8.bits)))).toNat : Int) = 48)) rfl (fun c_6 => ?_) (fun c_6 => ?_)
            · replace hM := hM.1 (of_decide_eq_true c_6)
              refine HW.seq ?_
              refine HW.region ?_
              refine HO.val (v := .int .i64 8) (want_none) rfl (q_assign rfl) ?_
              refine HO.nil (thenQ_normal (?_))
              refine HW.ret (blockQ_ret (thenQ_ret (?_)))
              refine ⟨.inr rfl, .int .i64 8, res1 rfl (rt rfl), ?_⟩
              replace hS : St F_5 (fr) h_6 := hS.perm2 [] 3 rfl rfl
              exact ⟨F_5, 8, rfl, hK, hS, hM⟩
            · replace hM := hM.2 (of_decide_eq_false c_6)
              refine HW.skip (blockQ_normal (thenQ_normal (?_)))
              refine HW.seq ?_
              refine HW.region ?_
              refine HO.val (v := .int .i64 14) (want_none) rfl (q_assign rfl) ?_
              refine HO.nil (thenQ_normal (?_))
              refine HW.ret (?_)
              refine ⟨.inr rfl, .int .i64 14, res1 rfl (rt rfl), ?_⟩
              replace hS : St F_5 (fr) h_6 := hS.perm2 [] 3 rfl rfl
              exact ⟨F_5, 14, rfl, hK, hS, hM⟩
          · replace hM := hM.2 (of_decide_eq_false c_5)
            refine HO.past (past_by rfl rfl c_5) rfl ?_
            refine HO.past (past_by rfl rfl c_5) rfl ?_
            refine HO.past (past_by rfl rfl c_5) rfl ?_
            refine HO.past (past_by rfl rfl c_5) rfl ?_
            refine HO.past (past_by rfl rfl c_5) rfl ?_
            refine HO.val (v := .bool false) (want_none) rfl (q_pickK false rfl c_5 rfl) ?_
            refine HO.val (v := .bool false) (want_none) rfl (q_assign rfl) ?_
            refine HO.nil (thenQ_normal (?_))
            refine HW.condF rfl ?_
            refine HW.skip (blockQ_normal (thenQ_normal (?_)))
            refine HW.seq ?_
            refine HW.region ?_
            refine HO.val (v := .int .i64 14) (want_none) rfl (q_assign rfl) ?_
            refine HO.nil (thenQ_normal (?_))
            refine HW.ret (?_)
            refine ⟨.inr rfl, .int .i64 14, res1 rfl (rt rfl), ?_⟩
            replace hS : St F_5 (fr) h_6 := hS.perm2 [] 3 rfl rfl
            exact ⟨F_5, 14, rfl, hK, hS, hM⟩

def addr_Local_W (a : T_api_Addr) (Q : Bool → Prop) : Prop :=
  addr_group_W a (fun r_2 => (r_2 = true → addr_scope_W a (fun r_3 => Q (decide (r_3 ≤ 2)))) ∧ (r_2 = false → Q false))
set_option maxHeartbeats 40000000 in
set_option maxRecDepth 100000 in
theorem addr_Local_walk {F : Fz} {fr : List Ow} {h0 : Heap} (a : T_api_Addr) (hS : St F (fr) h0)  {Q : Bool → Prop} (hM : addr_Local_W a Q) :
    HC Tryz.prog 16 #[.agg (e_api_Addr a).toArray] h0 fun u h' => ∃ (F' : Fz) (r_1 : Bool), u = .bool r_1 ∧ Kp F h0 F' h' ∧ St F' (fr) h' ∧ Q r_1 := by
  unfold addr_Local_W at hM
  have hK := Kp.refl F h0
  refine HC.of_HW (n := 10) Tryz.func16 rfl rfl (Nat.le_of_ble_eq_true rfl) ?_
  refine HW.seq ?_
  refine HW.region ?_
  refine HO.eff (want_none) rfl (st_box (c := (e_api_Addr a).toArray) (k' := 17) hS rfl rfl) ?_
  rintro _ h_1 ⟨b_1, rfl, hS, hk⟩
  replace hK := hK.trans hk
  refine HO.val (v := .bool false) (want_none) rfl (q_assign rfl) ?_
  refine HO.nil (thenQ_normal (?_))
  refine HW.seq ?_
  refine HW.region ?_
  refine HO.val (v := .agg (e_api_Addr a).toArray) (want_none) rfl (q_loadAgg (cs := (e_api_Addr a)) ta_24 rfl rfl (Blk.cells (k := 17) (hS.box 0 rfl) rfl)) ?_
  refine HO.call (want_none) rfl (ec en_24 rfl rfl) (addr_group_walk (fr := (Ow.box b_1 24 (e_api_Addr a).toArray :: fr)) a hS hM) ?_
  rintro _ h_2 ⟨F_1, r_2, rfl, hk, hS, hM⟩
  replace hK := hK.trans hk
  refine HO.val (v := .bool r_2) (want_none) rfl (q_move rfl) ?_
  rcases Bool.eq_false_or_eq_true r_2 with c_1 | c_1
  · replace hM := hM.1 c_1
    refine HO.val (v := .agg (e_api_Addr a).toArray) (want_by rfl rfl c_1) rfl (q_loadAgg (cs := (e_api_Addr a)) ta_24 rfl rfl (Blk.cells (k := 17) (hS.box 0 rfl) rfl)) ?_
    refine HO.call (want_by rfl rfl c_1) rfl (ec en_26 rfl rfl) (addr_scope_walk (fr := (Ow.box b_1 24 (e_api_Addr a).toArray :: fr)) a hS hM) ?_
    rintro _ h_3 ⟨F_2, r_3, rfl, hk, hS, hM⟩
    replace hK := hK.trans hk
    refine HO.val (v := .bool (decide (r_3 ≤ 2))) (want_by rfl rfl c_1) rfl (q_leq rfl rfl) ?_
    refine HO.val (v := .bool (decide (r_3 ≤ 2))) (want_none) rfl (q_pickK true rfl c_1 rfl) ?_
    refine HO.val (v := .bool (decide (r_3 ≤ 2))) (want_none) rfl (q_assign rfl) ?_
    refine HO.nil (thenQ_normal (?_))
    refine HW.ret (?_)
    refine ⟨.inr rfl, .bool (decide (r_3 ≤ 2)), res1 rfl (rt rfl), ?_⟩
    replace hS : St F_2 (fr) h_3 := hS.perm2 [] 1 rfl rfl
    exact ⟨F_2, decide (r_3 ≤ 2), rfl, hK, hS, hM⟩
  · replace hM := hM.2 c_1
    refine HO.past (past_by rfl rfl c_1) rfl ?_
    refine HO.past (past_by rfl rfl c_1) rfl ?_
    refine HO.past (past_by rfl rfl c_1) rfl ?_
    refine HO.val (v := .bool false) (want_none) rfl (q_pickK false rfl c_1 rfl) ?_
    refine HO.val (v := .bool false) (want_none) rfl (q_assign rfl) ?_
    refine HO.nil (thenQ_normal (?_))
    refine HW.ret (?_)
    refine ⟨.inr rfl, .bool false, res1 rfl (rt rfl), ?_⟩
    replace hS : St F_1 (fr) h_2 := hS.perm2 [] 1 rfl rfl
    exact ⟨F_1, false, rfl, hK, hS, hM⟩

def ref03_Scope_j2 (a : T_api_Addr) (Q : Int → Prop) : Prop :=
  ((b8 a.2 0) = 239 → (192 ≤ (b8 a.2 1) → ((b8 a.2 1) ≤ 195 → Q 8) ∧ (¬ ((b8 a.2 1) ≤ 195) → Q 14)) ∧ (¬ (192 ≤ (b8 a.2 1)) → Q 14)) ∧ (¬ ((b8 a.2 0) = 239) → Q 14)
def ref03_Scope_j1 (a : T_api_Addr) (Q : Int → Prop) : Prop :=
  ((b8 a.2 0) = 239 → ((b8 a.2 1) = 255 → Q 3) ∧ (¬ ((b8 a.2 1) = 255) → ref03_Scope_j2 a Q)) ∧ (¬ ((b8 a.2 0) = 239) → ref03_Scope_j2 a Q)
def ref03_Scope_W (a : T_api_Addr) (Q : Int → Prop) : Prop :=
  ref03_Group_W a (fun r_2 => ((!r_2) = true → Q 0) ∧ ((!r_2) = false → (a.1 = true → ((0 : Int) ≤ ((b8 a.2 1).tmod 16) ∧ ((b8 a.2 1).tmod 16) < 256) ∧ ((I64 ((u8w ((b8 a.2 1).tmod 16)).toNat : Int)) ∧ (Q ((u8w ((b8 a.2 1).tmod 16)).toNat : Int)))) ∧ (a.1 = false → ((b8 a.2 0) = 224 → ((b8 a.2 1) = 0 → ((b8 a.2 2) = 0 → Q 2) ∧ (¬ ((b8 a.2 2) = 0) → ref03_Scope_j1 a Q)) ∧ (¬ ((b8 a.2 1) = 0) → ref03_Scope_j1 a Q)) ∧ (¬ ((b8 a.2 0) = 224) → ref03_Scope_j1 a Q))))
set_option maxHeartbeats 40000000 in
set_option maxRecDepth 100000 in
theorem ref03_Scope_walk {F : Fz} {fr : List Ow} {h0 : Heap} (a : T_api_Addr) (hS : St F (fr) h0)  {Q : Int → Prop} (hM : ref03_Scope_W a Q) :
    HC Tryz.prog 21 #[.agg (e_api_Addr a).toArray] h0 fun u h' => ∃ (F' : Fz) (r_1 : Int), u = .int .i64 r_1 ∧ Kp F h0 F' h' ∧ St F' (fr) h' ∧ Q r_1 := by
  unfold ref03_Scope_W at hM
  have hK := Kp.refl F h0
  refine HC.of_HW (n := 55) Tryz.func21 rfl rfl (Nat.le_of_ble_eq_true rfl) ?_
  refine HW.seq ?_
  refine HW.region ?_
  refine HO.eff (want_none) rfl (st_box (c := (e_api_Addr a).toArray) (k' := 17) hS rfl rfl) ?_
  rintro _ h_1 ⟨b_1, rfl, hS, hk⟩
  replace hK := hK.trans hk
  refine HO.val (v := .int .i64 0) (want_none) rfl (q_assign rfl) ?_
  refine HO.nil (thenQ_normal (?_))
  refine HW.seq ?_
  refine HW.seq ?_
  refine HW.region ?_
  refine HO.val (v := .agg (e_api_Addr a).toArray) (want_none) rfl (q_loadAgg (cs := (e_api_Addr a)) ta_24 rfl rfl (Blk.cells (k := 17) (hS.box 0 rfl) rfl)) ?_
  refine HO.call (want_none) rfl (ec en_15 rfl rfl) (ref03_Group_walk (fr := (Ow.box b_1 24 (e_api_Addr a).toArray :: fr)) a hS hM) ?_
  rintro _ h_2 ⟨F_1, r_2, rfl, hk, hS, hM⟩
  replace hK := hK.trans hk
  refine HO.val (v := .bool (!r_2)) (want_none) rfl (q_not rfl) ?_
  refine HO.nil (thenQ_normal (?_))
  refine HW.cond (!r_2) rfl (fun c_1 => ?_) (fun c_1 => ?_)
  · replace hM := hM.1 c_1
    refine HW.seq ?_
    refine HW.region ?_
    refine HO.val (v := .int .i64 0) (want_none) rfl (q_assign rfl) ?_
    refine HO.nil (thenQ_normal (?_))
    refine HW.ret (thenQ_ret (?_))
    refine ⟨.inr rfl, .int .i64 0, res1 rfl (rt rfl), ?_⟩
    replace hS : St F_1 (fr) h_2 := hS.perm2 [] 1 rfl rfl
    exact ⟨F_1, 0, rfl, hK, hS, hM⟩
  · replace hM := hM.2 c_1
    refine HW.skip (thenQ_normal (?_))
    refine HW.seq ?_
    refine HW.seq ?_
    refine HW.region ?_
    refine HO.val (v := .pointer (some ⟨b_1, 0, none⟩)) (want_none) rfl (q_fieldAddr fa_24_0 rfl rfl) ?_
    refine HO.val (v := .bool a.1) (want_none) rfl (q_load to_4 rfl (Blk.cell (hS.box 0 rfl) rfl)) ?_
    refine HO.nil (thenQ_normal (?_))
    refine HW.cond a.1 rfl (fun c_2 => ?_) (fun c_2 => ?_)
    · replace hM := hM.1 c_2
      refine HW.seq ?_
      refine HW.region ?_
      refine HO.val (v := .pointer (some ⟨b_1, 1, none⟩)) (want_none) rfl (q_fieldAddr fa_24_1 rfl rfl) ?_
      refine HO.val (v := .pointer (some ⟨b_1, 2, none⟩)) (want_none) rfl (q_idxA (o := 1) (t := 1) tr_22 rfl rfl ⟨by decide, by decide⟩) ?_
      refine HO.val (v := .int .u8 (b8 a.2 1)) (want_none) rfl (q_load to_5 rfl (Blk.cell (hS.box 0 rfl) rfl)) ?_
      obtain ⟨ho_1, hM⟩ := hM
      refine HO.val (v := .int .u8 ((u8w ((b8 a.2 1).tmod 16)).toNat : Int)) (want_none) rfl ((q_rem rfl rfl (by decide)).of_eq (u8r_v ho_1)) ?_
      obtain ⟨ho_2, hM⟩ := hM
      refine HO.val (v := .int .i64 ((u8w ((b8 a.2 1).tmod 16)).toNat : Int)) (want_none) rfl (q_convInt Tryz.underlying5 Tryz.underlying3 rfl (wrap_i64 ho_2.1 ho_2.2)) ?_
      refine HO.val (v := .int .i64 ((u8w ((b8 a.2 1).tmod 16)).toNat : Int)) (want_none) rfl (q_assign rfl) ?_
      refine HO.nil (thenQ_normal (?_))
      refine HW.ret (thenQ_ret (?_))
      refine ⟨.inr rfl, .int .i64 ((u8w ((b8 a.2 1).tmod 16)).toNat : Int), res1 rfl (rt rfl), ?_⟩
      replace hS : St F_1 (fr) h_2 := hS.perm2 [] 1 rfl rfl
      exact ⟨F_1, ((u8w ((b8 a.2 1).tmod 16)).toNat : Int), rfl, hK, hS, hM⟩
    · replace hM := hM.2 c_2
      refine HW.skip (thenQ_normal (?_))
      refine HW.seq_mid (fun f h => ∃ (F' : Fz), f 1 = .pointer (some ⟨b_1, 0, none⟩) ∧ f 2 = .int .i64 0 ∧ Kp F h0 F' h ∧ St F' (Ow.box b_1 24 (e_api_Addr a).toArray :: fr) h ∧ ref03_Scope_j1 a Q) ?_ ?_
      · refine HW.seq ?_
        refine HW.region ?_
        refine HO.val (v := .pointer (some ⟨b_1, 1, none⟩)) (want_none) rfl (q_fieldAddr fa_24_1 rfl rfl) ?_
        refine HO.val (v := .pointer (some ⟨b_1, 1, none⟩)) (want_none) rfl (q_idxA (o := 1) (t := 0) tr_22 rfl rfl ⟨by decide, by decide⟩) ?_
        refine HO.val (v := .int .u8 (b8 a.2 0)) (want_none) rfl (q_load to_5 rfl (Blk.cell (hS.box 0 rfl) rfl)) ?_
        refine HO.val (v := .bool (decide ((b8 a.2 0) = 224))) (want_none) rfl (q_eql rfl rfl) ?_
        refine HO.val (v := .bool (decide ((b8 a.2 0) = 224))) (want_none) rfl (q_move rfl) ?_
        rcases Bool.eq_false_or_eq_true (decide ((b8 a.2 0) = 224)) with c_3 | c_3
        · replace hM := hM.1 (of_decide_eq_true c_3)
          refine HO.val (v := .pointer (some ⟨b_1, 1, none⟩)) (want_by rfl rfl c_3) rfl (q_fieldAddr fa_24_1 rfl rfl) ?_
          refine HO.val (v := .pointer (some ⟨b_1, 2, none⟩)) (want_by rfl rfl c_3) rfl (q_idxA (o := 1) (t := 1) tr_22 rfl rfl ⟨by decide, by decide⟩) ?_
          refine HO.val (v := .int .u8 (b8 a.2 1)) (want_by rfl rfl c_3) rfl (q_load to_5 rfl (Blk.cell (hS.box 0 rfl) rfl)) ?_
          refine HO.val (v := .bool (decide ((b8 a.2 1) = 0))) (want_by rfl rfl c_3) rfl (q_eql rfl rfl) ?_
          refine HO.val (v := .bool (decide ((b8 a.2 1) = 0))) (want_none) rfl (q_pickK true rfl c_3 rfl) ?_
          refine HO.val (v := .bool (decide ((b8 a.2 1) = 0))) (want_none) rfl (q_move rfl) ?_
          rcases Bool.eq_false_or_eq_true (decide ((b8 a.2 1) = 0)) with c_4 | c_4
          · replace hM := hM.1 (of_decide_eq_true c_4)
            refine HO.val (v := .pointer (some ⟨b_1, 1, none⟩)) (want_by rfl rfl c_4) rfl (q_fieldAddr fa_24_1 rfl rfl) ?_
            refine HO.val (v := .pointer (some ⟨b_1, 3, none⟩)) (want_by rfl rfl c_4) rfl (q_idxA (o := 1) (t := 2) tr_22 rfl rfl ⟨by decide, by decide⟩) ?_
            refine HO.val (v := .int .u8 (b8 a.2 2)) (want_by rfl rfl c_4) rfl (q_load to_5 rfl (Blk.cell (hS.box 0 rfl) rfl)) ?_
            refine HO.val (v := .bool (decide ((b8 a.2 2) = 0))) (want_by rfl rfl c_4) rfl (q_eql rfl rfl) ?_
            refine HO.val (v := .bool (decide ((b8 a.2 2) = 0))) (want_none) rfl (q_pickK true rfl c_4 rfl) ?_
            refine HO.nil (thenQ_normal (?_))
            refine HW.cond (decide ((b8 a.2 2) = 0)) rfl (fun c_5 => ?_) (fun c_5 => ?_)
            · replace hM := hM.1 (of_decide_eq_true c_5)
              refine HW.seq ?_
              refine HW.region ?_
              refine HO.val (v := .int .i64 2) (want_none) rfl (q_assign rfl) ?_
              refine HO.nil (thenQ_normal (?_))
              refine HW.ret (thenQ_ret (?_))
              refine ⟨.inr rfl, .int .i64 2, res1 rfl (rt rfl), ?_⟩
              replace hS : St F_1 (fr) h_2 := hS.perm2 [] 1 rfl rfl
              exact ⟨F_1, 2, rfl, hK, hS, hM⟩
            · replace hM := hM.2 (of_decide_eq_false c_5)
              refine HW.skip (thenQ_normal (?_))
              exact ⟨F_1, rfl, rfl, hK, hS, hM⟩
          · replace hM := hM.2 (of_decide_eq_false c_4)
            refine HO.past (past_by rfl rfl c_4) rfl ?_
            refine HO.past (past_by rfl rfl c_4) rfl ?_
            refine HO.past (past_by rfl rfl c_4) rfl ?_
            refine HO.past (past_by rfl rfl c_4) rfl ?_
            refine HO.val (v := .bool false) (want_none) rfl (q_pickK false rfl c_4 rfl) ?_
            refine HO.nil (thenQ_normal (?_))
            refine HW.condF rfl ?_
            refine HW.skip (thenQ_normal (?_))
            exact ⟨F_1, rfl, rfl, hK, hS, hM⟩
        · replace hM := hM.2 (of_decide_eq_false c_3)
          refine HO.past (past_by rfl rfl c_3) rfl ?_
          refine HO.past (past_by rfl rfl c_3) rfl ?_
          refine HO.past (past_by rfl rfl c_3) rfl ?_
          refine HO.past (past_by rfl rfl c_3) rfl ?_
          refine HO.val (v := .bool false) (want_none) rfl (q_pickK false rfl c_3 rfl) ?_
          refine HO.val (v := .bool false) (want_none) rfl (q_move rfl) ?_
          refine HO.past (past_some rfl rfl) rfl ?_
          refine HO.past (past_some rfl rfl) rfl ?_
          refine HO.past (past_some rfl rfl) rfl ?_
          refine HO.past (past_some rfl rfl) rfl ?_
          refine HO.val (v := .bool false) (want_none) rfl (q_pick rfl rfl) ?_
          refine HO.nil (thenQ_normal (?_))
          refine HW.condF rfl ?_
          refine HW.skip (thenQ_normal (?_))
          exact ⟨F_1, rfl, rfl, hK, hS, hM⟩
      · rintro f_1 h_3 ⟨F_2, e1, e2, hK, hS, hM⟩
        unfold ref03_Scope_j1 at hM
        refine HW.fr [(1, .pointer (some ⟨b_1, 0, none⟩)), (2, .int .i64 0)] ⟨e1, e2, trivial⟩ ?_
        refine HW.seq_mid (fun f h => ∃ (F' : Fz), f 1 = .pointer (some ⟨b_1, 0, none⟩) ∧ f 2 = .int .i64 0 ∧ Kp F h0 F' h ∧ St F' (Ow.box b_1 24 (e_api_Addr a).toArray :: fr) h ∧ ref03_Scope_j2 a Q) ?_ ?_
        · refine HW.seq ?_
          refine HW.region ?_
          refine HO.val (v := .pointer (some ⟨b_1, 1, none⟩)) (want_none) rfl (q_fieldAddr fa_24_1 rfl rfl) ?_
          refine HO.val (v := .pointer (some ⟨b_1, 1, none⟩)) (want_none) rfl (q_idxA (o := 1) (t := 0) tr_22 rfl rfl ⟨by decide, by decide⟩) ?_
          refine HO.val (v := .int .u8 (b8 a.2 0)) (want_none) rfl (q_load to_5 rfl (Blk.cell (hS.box 0 rfl) rfl)) ?_
          refine HO.val (v := .bool (decide ((b8 a.2 0) = 239))) (want_none) rfl (q_eql rfl rfl) ?_
          refine HO.val (v := .bool (decide ((b8 a.2 0) = 239))) (want_none) rfl (q_move rfl) ?_
          rcases Bool.eq_false_or_eq_true (decide ((b8 a.2 0) = 239)) with c_6 | c_6
          · replace hM := hM.1 (of_decide_eq_true c_6)
            refine HO.val (v := .pointer (some ⟨b_1, 1, none⟩)) (want_by rfl rfl c_6) rfl (q_fieldAddr fa_24_1 rfl rfl) ?_
            refine HO.val (v := .pointer (some ⟨b_1, 2, none⟩)) (want_by rfl rfl c_6) rfl (q_idxA (o := 1) (t := 1) tr_22 rfl rfl ⟨by decide, by decide⟩) ?_
            refine HO.val (v := .int .u8 (b8 a.2 1)) (want_by rfl rfl c_6) rfl (q_load to_5 rfl (Blk.cell (hS.box 0 rfl) rfl)) ?_
            refine HO.val (v := .bool (decide ((b8 a.2 1) = 255))) (want_by rfl rfl c_6) rfl (q_eql rfl rfl) ?_
            refine HO.val (v := .bool (decide ((b8 a.2 1) = 255))) (want_none) rfl (q_pickK true rfl c_6 rfl) ?_
            refine HO.nil (thenQ_normal (?_))
            refine HW.cond (decide ((b8 a.2 1) = 255)) rfl (fun c_7 => ?_) (fun c_7 => ?_)
            · replace hM := hM.1 (of_decide_eq_true c_7)
              refine HW.seq ?_
              refine HW.region ?_
              refine HO.val (v := .int .i64 3) (want_none) rfl (q_assign rfl) ?_
              refine HO.nil (thenQ_normal (?_))
              refine HW.ret (thenQ_ret (?_))
              refine ⟨.inr rfl, .int .i64 3, res1 rfl (rt rfl), ?_⟩
              replace hS : St F_2 (fr) h_3 := hS.perm2 [] 1 rfl rfl
              exact ⟨F_2, 3, rfl, hK, hS, hM⟩
            · replace hM := hM.2 (of_decide_eq_false c_7)
              refine HW.skip (thenQ_normal (?_))
              exact ⟨F_2, rfl, rfl, hK, hS, hM⟩
          · replace hM := hM.2 (of_decide_eq_false c_6)
            refine HO.past (past_by rfl rfl c_6) rfl ?_
            refine HO.past (past_by rfl rfl c_6) rfl ?_
            refine HO.past (past_by rfl rfl c_6) rfl ?_
            refine HO.past (past_by rfl rfl c_6) rfl ?_
            refine HO.val (v := .bool false) (want_none) rfl (q_pickK false rfl c_6 rfl) ?_
            refine HO.nil (thenQ_normal (?_))
            refine HW.condF rfl ?_
            refine HW.skip (thenQ_normal (?_))
            exact ⟨F_2, rfl, rfl, hK, hS, hM⟩
        · rintro f_2 h_4 ⟨F_3, e1, e2, hK, hS, hM⟩
          unfold ref03_Scope_j2 at hM
          refine HW.fr [(1, .pointer (some ⟨b_1, 0, none⟩)), (2, .int .i64 0)] ⟨e1, e2, trivial⟩ ?_
          refine HW.seq ?_
          refine HW.seq ?_
          refine HW.region ?_
          refine HO.val (v := .pointer (some ⟨b_1, 1, none⟩)) (want_none) rfl (q_fieldAddr fa_24_1 rfl rfl) ?_
          refine HO.val (v := .pointer (some ⟨b_1, 1, none⟩)) (want_none) rfl (q_idxA (o := 1) (t := 0) tr_22 rfl rfl ⟨by decide, by decide⟩) ?_
          refine HO.val (v := .int .u8 (b8 a.2 0)) (want_none) rfl (q_load to_5 rfl (Blk.cell (hS.box 0 rfl) rfl)) ?_
          refine HO.val (v := .bool (decide ((b8 a.2 0) = 239))) (want_none) rfl (q_eql rfl rfl) ?_
          refine HO.val (v := .bool (decide ((b8 a.2 0) = 239))) (want_none) rfl (q_move rfl) ?_
          rcases Bool.eq_false_or_eq_true (decide ((b8 a.2 0) = 239)) with c_8 | c_8
          · replace hM := hM.1 (of_decide_eq_true c_8)
            refine HO.val (v := .pointer (some ⟨b_1, 1, none⟩)) (want_by rfl rfl c_8) rfl (q_fieldAddr fa_24_1 rfl rfl) ?_
            refine HO.val (v := .pointer (some ⟨b_1, 2, none⟩)) (want_by rfl rfl c_8) rfl (q_idxA (o := 1) (t := 1) tr_22 rfl rfl ⟨by decide, by decide⟩) ?_
            refine HO.val (v := .int .u8 (b8 a.2 1)) (want_by rfl rfl c_8) rfl (q_load to_5 rfl (Blk.cell (hS.box 0 rfl) rfl)) ?_
            refine HO.val (v := .bool (decide (192 ≤ (b8 a.2 1)))) (want_by rfl rfl c_8) rfl (q_geq rfl rfl) ?_
            refine HO.val (v := .bool (decide (192 ≤ (b8 a.2 1)))) (want_none) rfl (q_pickK true rfl c_8 rfl) ?_
            refine HO.val (v := .bool (decide (192 ≤ (b8 a.2 1)))) (want_none) rfl (q_move rfl) ?_
            rcases Bool.eq_false_or_eq_true (decide (192 ≤ (b8 a.2 1))) with c_9 | c_9
            · replace hM := hM.1 (of_decide_eq_true c_9)
              refine HO.val (v := .pointer (some ⟨b_1, 1, none⟩)) (want_by rfl rfl c_9) rfl (q_fieldAddr fa_24_1 rfl rfl) ?_
              refine HO.val (v := .pointer (some ⟨b_1, 2, none⟩)) (want_by rfl rfl c_9) rfl (q_idxA (o := 1) (t := 1) tr_22 rfl rfl ⟨by decide, by decide⟩) ?_
              refine HO.val (v := .int .u8 (b8 a.2 1)) (want_by rfl rfl c_9) rfl (q_load to_5 rfl (Blk.cell (hS.box 0 rfl) rfl)) ?_
              refine HO.val (v := .bool (decide ((b8 a.2 1) ≤ 195))) (want_by rfl rfl c_9) rfl (q_leq rfl rfl) ?_
              refine HO.val (v := .bool (decide ((b8 a.2 1) ≤ 195))) (want_none) rfl (q_pickK true rfl c_9 rfl) ?_
              refine HO.nil (thenQ_normal (?_))
              refine HW.cond (decide ((b8 a.2 1) ≤ 195)) rfl (fun c_10 => ?_) (fun c_10 => ?_)
              · replace hM := hM.1 (of_decide_eq_true c_10)
                refine HW.seq ?_
                refine HW.region ?_
                refine HO.val (v := .int .i64 8) (want_none) rfl (q_assign rfl) ?_
                refine HO.nil (thenQ_normal (?_))
                refine HW.ret (thenQ_ret (?_))
                refine ⟨.inr rfl, .int .i64 8, res1 rfl (rt rfl), ?_⟩
                replace hS : St F_3 (fr) h_4 := hS.perm2 [] 1 rfl rfl
                exact ⟨F_3, 8, rfl, hK, hS, hM⟩
              · replace hM := hM.2 (of_decide_eq_false c_10)
                refine HW.skip (thenQ_normal (?_))
                refine HW.seq ?_
                refine HW.region ?_
                refine HO.val (v := .int .i64 14) (want_none) rfl (q_assign rfl) ?_
                refine HO.nil (thenQ_normal (?_))
                refine HW.ret (?_)
                refine ⟨.inr rfl, .int .i64 14, res1 rfl (rt rfl), ?_⟩
                replace hS : St F_3 (fr) h_4 := hS.perm2 [] 1 rfl rfl
                exact ⟨F_3, 14, rfl, hK, hS, hM⟩
            · replace hM := hM.2 (of_decide_eq_false c_9)
              refine HO.past (past_by rfl rfl c_9) rfl ?_
              refine HO.past (past_by rfl rfl c_9) rfl ?_
              refine HO.past (past_by rfl rfl c_9) rfl ?_
              refine HO.past (past_by rfl rfl c_9) rfl ?_
              refine HO.val (v := .bool false) (want_none) rfl (q_pickK false rfl c_9 rfl) ?_
              refine HO.nil (thenQ_normal (?_))
              refine HW.condF rfl ?_
              refine HW.skip (thenQ_normal (?_))
              refine HW.seq ?_
              refine HW.region ?_
              refine HO.val (v := .int .i64 14) (want_none) rfl (q_assign rfl) ?_
              refine HO.nil (thenQ_normal (?_))
              refine HW.ret (?_)
              refine ⟨.inr rfl, .int .i64 14, res1 rfl (rt rfl), ?_⟩
              replace hS : St F_3 (fr) h_4 := hS.perm2 [] 1 rfl rfl
              exact ⟨F_3, 14, rfl, hK, hS, hM⟩
          · replace hM := hM.2 (of_decide_eq_false c_8)
            refine HO.past (past_by rfl rfl c_8) rfl ?_
            refine HO.past (past_by rfl rfl c_8) rfl ?_
            refine HO.past (past_by rfl rfl c_8) rfl ?_
            refine HO.past (past_by rfl rfl c_8) rfl ?_
            refine HO.val (v := .bool false) (want_none) rfl (q_pickK false rfl c_8 rfl) ?_
            refine HO.val (v := .bool false) (want_none) rfl (q_move rfl) ?_
            refine HO.past (past_some rfl rfl) rfl ?_
            refine HO.past (past_some rfl rfl) rfl ?_
            refine HO.past (past_some rfl rfl) rfl ?_
            refine HO.past (past_some rfl rfl) rfl ?_
            refine HO.val (v := .bool false) (want_none) rfl (q_pick rfl rfl) ?_
            refine HO.nil (thenQ_normal (?_))
            refine HW.condF rfl ?_
            refine HW.skip (thenQ_normal (?_))
            refine HW.seq ?_
            refine HW.region ?_
            refine HO.val (v := .int .i64 14) (want_none) rfl (q_assign rfl) ?_
            refine HO.nil (thenQ_normal (?_))
            refine HW.ret (?_)
            refine ⟨.inr rfl, .int .i64 14, res1 rfl (rt rfl), ?_⟩
            replace hS : St F_3 (fr) h_4 := hS.perm2 [] 1 rfl rfl
            exact ⟨F_3, 14, rfl, hK, hS, hM⟩

def ref03_Local_W (a : T_api_Addr) (Q : Bool → Prop) : Prop :=
  ref03_Group_W a (fun r_2 => (r_2 = true → ref03_Scope_W a (fun r_3 => Q (decide (r_3 < 3)))) ∧ (r_2 = false → Q false))
set_option maxHeartbeats 40000000 in
set_option maxRecDepth 100000 in
theorem ref03_Local_walk {F : Fz} {fr : List Ow} {h0 : Heap} (a : T_api_Addr) (hS : St F (fr) h0)  {Q : Bool → Prop} (hM : ref03_Local_W a Q) :
    HC Tryz.prog 17 #[.agg (e_api_Addr a).toArray] h0 fun u h' => ∃ (F' : Fz) (r_1 : Bool), u = .bool r_1 ∧ Kp F h0 F' h' ∧ St F' (fr) h' ∧ Q r_1 := by
  unfold ref03_Local_W at hM
  have hK := Kp.refl F h0
  refine HC.of_HW (n := 10) Tryz.func17 rfl rfl (Nat.le_of_ble_eq_true rfl) ?_
  refine HW.seq ?_
  refine HW.region ?_
  refine HO.eff (want_none) rfl (st_box (c := (e_api_Addr a).toArray) (k' := 17) hS rfl rfl) ?_
  rintro _ h_1 ⟨b_1, rfl, hS, hk⟩
  replace hK := hK.trans hk
  refine HO.val (v := .bool false) (want_none) rfl (q_assign rfl) ?_
  refine HO.nil (thenQ_normal (?_))
  refine HW.seq ?_
  refine HW.region ?_
  refine HO.val (v := .agg (e_api_Addr a).toArray) (want_none) rfl (q_loadAgg (cs := (e_api_Addr a)) ta_24 rfl rfl (Blk.cells (k := 17) (hS.box 0 rfl) rfl)) ?_
  refine HO.call (want_none) rfl (ec en_15 rfl rfl) (ref03_Group_walk (fr := (Ow.box b_1 24 (e_api_Addr a).toArray :: fr)) a hS hM) ?_
  rintro _ h_2 ⟨F_1, r_2, rfl, hk, hS, hM⟩
  replace hK := hK.trans hk
  refine HO.val (v := .bool r_2) (want_none) rfl (q_move rfl) ?_
  rcases Bool.eq_false_or_eq_true r_2 with c_1 | c_1
  · replace hM := hM.1 c_1
    refine HO.val (v := .agg (e_api_Addr a).toArray) (want_by rfl rfl c_1) rfl (q_loadAgg (cs := (e_api_Addr a)) ta_24 rfl rfl (Blk.cells (k := 17) (hS.box 0 rfl) rfl)) ?_
    refine HO.call (want_by rfl rfl c_1) rfl (ec en_21 rfl rfl) (ref03_Scope_walk (fr := (Ow.box b_1 24 (e_api_Addr a).toArray :: fr)) a hS hM) ?_
    rintro _ h_3 ⟨F_2, r_3, rfl, hk, hS, hM⟩
    replace hK := hK.trans hk
    refine HO.val (v := .bool (decide (r_3 < 3))) (want_by rfl rfl c_1) rfl (q_lss rfl rfl) ?_
    refine HO.val (v := .bool (decide (r_3 < 3))) (want_none) rfl (q_pickK true rfl c_1 rfl) ?_
    refine HO.val (v := .bool (decide (r_3 < 3))) (want_none) rfl (q_assign rfl) ?_
    refine HO.nil (thenQ_normal (?_))
    refine HW.ret (?_)
    refine ⟨.inr rfl, .bool (decide (r_3 < 3)), res1 rfl (rt rfl), ?_⟩
    replace hS : St F_2 (fr) h_3 := hS.perm2 [] 1 rfl rfl
    exact ⟨F_2, decide (r_3 < 3), rfl, hK, hS, hM⟩
  · replace hM := hM.2 c_1
    refine HO.past (past_by rfl rfl c_1) rfl ?_
    refine HO.past (past_by rfl rfl c_1) rfl ?_
    refine HO.past (past_by rfl rfl c_1) rfl ?_
    refine HO.val (v := .bool false) (want_none) rfl (q_pickK false rfl c_1 rfl) ?_
    refine HO.val (v := .bool false) (want_none) rfl (q_assign rfl) ?_
    refine HO.nil (thenQ_normal (?_))
    refine HW.ret (?_)
    refine ⟨.inr rfl, .bool false, res1 rfl (rt rfl), ?_⟩
    replace hS : St F_1 (fr) h_2 := hS.perm2 [] 1 rfl rfl
    exact ⟨F_1, false, rfl, hK, hS, hM⟩

def addr_Ssm_W (a : T_api_Addr) (Q : Bool → Prop) : Prop :=
  (a.1 = true → ((b8 a.2 0) = 255 → ((0 : Int) ≤ ((b8 a.2 1).fdiv (2 ^ (min (4 : Int).toNat IntKind.u8.bits))) ∧ ((b8 a.2 1).fdiv (2 ^ (min (4 : Int).toNat IntKind.u8.bits))) < 256) ∧ ((((u8w ((b8 a.2 1).fdiv (2 ^ (min (4 : Int).toNat IntKind.u8.bits)))).toNat : Int) = 3 → ((b8 a.2 2) = 0 → Q (decide ((b8 a.2 3) = 0))) ∧ (¬ ((b8 a.2 2) = 0) → Q false)) ∧ (¬ (((u8w ((b8 a.2 1).fdiv (2 ^ (min (4 : Int).toNat IntKind.u8.bits)))).toNat : Int) = 3) → Q false))) ∧ (¬ ((b8 a.2 0) = 255) → Q false)) ∧ (a.1 = false → Q (decide ((b8 a.2 0) = 232)))
set_option maxHeartbeats 40000000 in
set_option maxRecDepth 100000 in
theorem addr_Ssm_walk {F : Fz} {fr : List Ow} {h0 : Heap} (a : T_api_Addr) (hS : St F (fr) h0)  {Q : Bool → Prop} (hM : addr_Ssm_W a Q) :
    HC Tryz.prog 18 #[.agg (e_api_Addr a).toArray] h0 fun u h' => ∃ (F' : Fz) (r_1 : Bool), u = .bool r_1 ∧ Kp F h0 F' h' ∧ St F' (fr) h' ∧ Q r_1 := by
  unfold addr_Ssm_W at hM
  have hK := Kp.refl F h0
  refine HC.of_HW (n := 32) Tryz.func18 rfl rfl (Nat.le_of_ble_eq_true rfl) ?_
  refine HW.seq ?_
  refine HW.region ?_
  refine HO.eff (want_none) rfl (st_box (c := (e_api_Addr a).toArray) (k' := 17) hS rfl rfl) ?_
  rintro _ h_1 ⟨b_1, rfl, hS, hk⟩
  replace hK := hK.trans hk
  refine HO.val (v := .bool false) (want_none) rfl (q_assign rfl) ?_
  refine HO.nil (thenQ_normal (?_))
  refine HW.seq ?_
  refine HW.seq ?_
  refine HW.region ?_
  refine HO.val (v := .pointer (some ⟨b_1, 0, none⟩)) (want_none) rfl (q_fieldAddr fa_24_0 rfl rfl) ?_
  refine HO.val (v := .bool a.1) (want_none) rfl (q_load to_4 rfl (Blk.cell (hS.box 0 rfl) rfl)) ?_
  refine HO.nil (thenQ_normal (?_))
  refine HW.cond a.1 rfl (fun c_1 => ?_) (fun c_1 => ?_)
  · replace hM := hM.1 c_1
    refine HW.seq ?_
    refine HW.region ?_
    refine HO.val (v := .pointer (some ⟨b_1, 1, none⟩)) (want_none) rfl (q_fieldAddr fa_24_1 rfl rfl) ?_
    refine HO.val (v := .pointer (some ⟨b_1, 1, none⟩)) (want_none) rfl (q_idxA (o := 1) (t := 0) tr_22 rfl rfl ⟨by decide, by decide⟩) ?_
    refine HO.val (v := .int .u8 (b8 a.2 0)) (want_none) rfl (q_load to_5 rfl (Blk.cell (hS.box 0 rfl) rfl)) ?_
    refine HO.val (v := .bool (decide ((b8 a.2 0) = 255))) (want_none) rfl (q_eql rfl rfl) ?_
    refine HO.val (v := .bool (decide ((b8 a.2 0) = 255))) (want_none) rfl (q_move rfl) ?_
    rcases Bool.eq_false_or_eq_true (decide ((b8 a.2 0) = 255)) with c_2 | c_2
    · replace hM := hM.1 (of_decide_eq_true c_2)
      refine HO.val (v := .pointer (some ⟨b_1, 1, none⟩)) (want_by rfl rfl c_2) rfl (q_fieldAddr fa_24_1 rfl rfl) ?_
      refine HO.val (v := .pointer (some ⟨b_1, 2, none⟩)) (want_by rfl rfl c_2) rfl (q_idxA (o := 1) (t := 1) tr_22 rfl rfl ⟨by decide, by decide⟩) ?_
      refine HO.val (v := .int .u8 (b8 a.2 1)) (want_by rfl rfl c_2) rfl (q_load to_5 rfl (Blk.cell (hS.box 0 rfl) rfl)) ?_
      obtain ⟨ho_1, hM⟩ := hM
      refine HO.val (v := .int .u8 ((u8w ((b8 a.2 1).fdiv (2 ^ (min (4 : Int).toNat IntKind.u8.bits)))).toNat : Int)) (want_by rfl rfl c_2) rfl ((q_shr rfl rfl (by decide) rfl).of_eq (u8r_v ho_1)) ?_
      refine HO.val (v := .bool (decide (((u8w ((b8 a.2 1).fdiv (2 ^ (min (4 : Int).toNat IntKind.u8.bits)))).toNat : Int) = 3))) (want_by rfl rfl c_2) rfl (q_eql rfl rfl) ?_
      refine HO.val (v := .bool (decide (((u8w ((b8 a.2 1).fdiv (2 ^ (min (4 : Int).toNat IntKind.u8.bits)))).toNat : Int) = 3))) (want_none) rfl (q_pickK true rfl c_2 rfl) ?_
      refine HO.val (v := .bool (decide (((u8w ((b8 a.2 1).fdiv (2 ^ (min (4 : Int).toNat IntKind.u8.bits)))).toNat : Int) = 3))) (want_none) rfl (q_move rfl) ?_
      rcases Bool.eq_false_or_eq_true (decide (((u8w ((b8 a.2 1).fdiv (2 ^ (min (4 : Int).toNat IntKind.u8.bits)))).toNat : Int) = 3)) with c_3 | c_3
      · replace hM := hM.1 (of_decide_eq_true c_3)
        refine HO.val (v := .pointer (some ⟨b_1, 1, none⟩)) (want_by rfl rfl c_3) rfl (q_fieldAddr fa_24_1 rfl rfl) ?_
        refine HO.val (v := .pointer (some ⟨b_1, 3, none⟩)) (want_by rfl rfl c_3) rfl (q_idxA (o := 1) (t := 2) tr_22 rfl rfl ⟨by decide, by decide⟩) ?_
        refine HO.val (v := .int .u8 (b8 a.2 2)) (want_by rfl rfl c_3) rfl (q_load to_5 rfl (Blk.cell (hS.box 0 rfl) rfl)) ?_
        refine HO.val (v := .bool (decide ((b8 a.2 2) = 0))) (want_by rfl rfl c_3) rfl (q_eql rfl rfl) ?_
        refine HO.val (v := .bool (decide ((b8 a.2 2) = 0))) (want_none) rfl (q_pickK true rfl c_3 rfl) ?_
        refine HO.val (v := .bool (decide ((b8 a.2 2) = 0))) (want_none) rfl (q_move rfl) ?_
        rcases Bool.eq_false_or_eq_true (decide ((b8 a.2 2) = 0)) with c_4 | c_4
        · replace hM := hM.1 (of_decide_eq_true c_4)
          refine HO.val (v := .pointer (some ⟨b_1, 1, none⟩)) (want_by rfl rfl c_4) rfl (q_fieldAddr fa_24_1 rfl rfl) ?_
          refine HO.val (v := .pointer (some ⟨b_1, 4, none⟩)) (want_by rfl rfl c_4) rfl (q_idxA (o := 1) (t := 3) tr_22 rfl rfl ⟨by decide, by decide⟩) ?_
          refine HO.val (v := .int .u8 (b8 a.2 3)) (want_by rfl rfl c_4) rfl (q_load to_5 rfl (Blk.cell (hS.box 0 rfl) rfl)) ?_
          refine HO.val (v := .bool (decide ((b8 a.2 3) = 0))) (want_by rfl rfl c_4) rfl (q_eql rfl rfl) ?_
          refine HO.val (v := .bool (decide ((b8 a.2 3) = 0))) (want_none) rfl (q_pickK true rfl c_4 rfl) ?_
          refine HO.val (v := .bool (decide ((b8 a.2 3) = 0))) (want_none) rfl (q_assign rfl) ?_
          refine HO.nil (thenQ_normal (?_))
          refine HW.ret (thenQ_ret (?_))
          refine ⟨.inr rfl, .bool (decide ((b8 a.2 3) = 0)), res1 rfl (rt rfl), ?_⟩
          replace hS : St F (fr) h_1 := hS.perm2 [] 1 rfl rfl
          exact ⟨F, decide ((b8 a.2 3) = 0), rfl, hK, hS, hM⟩
        · replace hM := hM.2 (of_decide_eq_false c_4)
          refine HO.past (past_by rfl rfl c_4) rfl ?_
          refine HO.past (past_by rfl rfl c_4) rfl ?_
          refine HO.past (past_by rfl rfl c_4) rfl ?_
          refine HO.past (past_by rfl rfl c_4) rfl ?_
          refine HO.val (v := .bool false) (want_none) rfl (q_pickK false rfl c_4 rfl) ?_
          refine HO.val (v := .bool false) (want_none) rfl (q_assign rfl) ?_
          refine HO.nil (thenQ_normal (?_))
          refine HW.ret (thenQ_ret (?_))
          refine ⟨.inr rfl, .bool false, res1 rfl (rt rfl), ?_⟩
          replace hS : St F (fr) h_1 := hS.perm2 [] 1 rfl rfl
          exact ⟨F, false, rfl, hK, hS, hM⟩
      · replace hM := hM.2 (of_decide_eq_false c_3)
        refine HO.past (past_by rfl rfl c_3) rfl ?_
        refine HO.past (past_by rfl rfl c_3) rfl ?_
        refine HO.past (past_by rfl rfl c_3) rfl ?_
        refine HO.past (past_by rfl rfl c_3) rfl ?_
        refine HO.val (v := .bool false) (want_none) rfl (q_pickK false rfl c_3 rfl) ?_
        refine HO.val (v := .bool false) (want_none) rfl (q_move rfl) ?_
        refine HO.past (past_some rfl rfl) rfl ?_
        refine HO.past (past_some rfl rfl) rfl ?_
        refine HO.past (past_some rfl rfl) rfl ?_
        refine HO.past (past_some rfl rfl) rfl ?_
        refine HO.val (v := .bool false) (want_none) rfl (q_pick rfl rfl) ?_
        refine HO.val (v := .bool false) (want_none) rfl (q_assign rfl) ?_
        refine HO.nil (thenQ_normal (?_))
        refine HW.ret (thenQ_ret (?_))
        refine ⟨.inr rfl, .bool false, res1 rfl (rt rfl), ?_⟩
        replace hS : St F (fr) h_1 := hS.perm2 [] 1 rfl rfl
        exact ⟨F, false, rfl, hK, hS, hM⟩
    · replace hM := hM.2 (of_decide_eq_false c_2)
      refine HO.past (past_by rfl rfl c_2) rfl ?_
      refine HO.past (past_by rfl rfl c_2) rfl ?_
      refine HO.past (past_by rfl rfl c_2) rfl ?_
      refine HO.past (past_by rfl rfl c_2) rfl ?_
      refine HO.past (past_by rfl rfl c_2) rfl ?_
      refine HO.val (v := .bool false) (want_none) rfl (q_pickK false rfl c_2 rfl) ?_
      refine HO.val (v := .bool false) (want_none) rfl (q_move rfl) ?_
      refine HO.past (past_some rfl rfl) rfl ?_
      refine HO.past (past_some rfl rfl) rfl ?_
      refine HO.past (past_some rfl rfl) rfl ?_
      refine HO.past (past_some rfl rfl) rfl ?_
      refine HO.val (v := .bool false) (want_none) rfl (q_pick rfl rfl) ?_
      refine HO.val (v := .bool false) (want_none) rfl (q_move rfl) ?_
      refine HO.past (past_some rfl rfl) rfl ?_
      refine HO.past (past_some rfl rfl) rfl ?_
      refine HO.past (past_some rfl rfl) rfl ?_
      refine HO.past (past_some rfl rfl) rfl ?_
      refine HO.val (v := .bool false) (want_none) rfl (q_pick rfl rfl) ?_
      refine HO.val (v := .bool false) (want_none) rfl (q_assign rfl) ?_
      refine HO.nil (thenQ_normal (?_))
      refine HW.ret (thenQ_ret (?_))
      refine ⟨.inr rfl, .bool false, res1 rfl (rt rfl), ?_⟩
      replace hS : St F (fr) h_1 := hS.perm2 [] 1 rfl rfl
      exact ⟨F, false, rfl, hK, hS, hM⟩
  · replace hM := hM.2 c_1
    refine HW.skip (thenQ_normal (?_))
    refine HW.seq ?_
    refine HW.region ?_
    refine HO.val (v := .pointer (some ⟨b_1, 1, none⟩)) (want_none) rfl (q_fieldAddr fa_24_1 rfl rfl) ?_
    refine HO.val (v := .pointer (some ⟨b_1, 1, none⟩)) (want_none) rfl (q_idxA (o := 1) (t := 0) tr_22 rfl rfl ⟨by decide, by decide⟩) ?_
    refine HO.val (v := .int .u8 (b8 a.2 0)) (want_none) rfl (q_load to_5 rfl (Blk.cell (hS.box 0 rfl) rfl)) ?_
    refine HO.val (v := .bool (decide ((b8 a.2 0) = 232))) (want_none) rfl (q_eql rfl rfl) ?_
    refine HO.val (v := .bool (decide ((b8 a.2 0) = 232))) (want_none) rfl (q_assign rfl) ?_
    refine HO.nil (thenQ_normal (?_))
    refine HW.ret (?_)
    refine ⟨.inr rfl, .bool (decide ((b8 a.2 0) = 232)), res1 rfl (rt rfl), ?_⟩
    replace hS : St F (fr) h_1 := hS.perm2 [] 1 rfl rfl
    exact ⟨F, decide ((b8 a.2 0) = 232), rfl, hK, hS, hM⟩

def ref03_Ssm_W (a : T_api_Addr) (Q : Bool → Prop) : Prop :=
  ((!a.1) = true → Q (decide ((b8 a.2 0) = 232))) ∧ ((!a.1) = false → ((b8 a.2 0) = 255 → (48 ≤ (b8 a.2 1) → ((b8 a.2 1) ≤ 63 → ((b8 a.2 2) = 0 → Q (decide ((b8 a.2 3) = 0))) ∧ (¬ ((b8 a.2 2) = 0) → Q false)) ∧ (¬ ((b8 a.2 1) ≤ 63) → Q false)) ∧ (¬ (48 ≤ (b8 a.2 1)) → Q false)) ∧ (¬ ((b8 a.2 0) = 255) → Q false))
set_option maxHeartbeats 40000000 in
set_option maxRecDepth 100000 in
theorem ref03_Ssm_walk {F : Fz} {fr : List Ow} {h0 : Heap} (a : T_api_Addr) (hS : St F (fr) h0)  {Q : Bool → Prop} (hM : ref03_Ssm_W a Q) :
    HC Tryz.prog 19 #[.agg (e_api_Addr a).toArray] h0 fun u h' => ∃ (F' : Fz) (r_1 : Bool), u = .bool r_1 ∧ Kp F h0 F' h' ∧ St F' (fr) h' ∧ Q r_1 := by
  unfold ref03_Ssm_W at hM
  have hK := Kp.refl F h0
  refine HC.of_HW (n := 38) Tryz.func19 rfl rfl (Nat.le_of_ble_eq_true rfl) ?_
  refine HW.seq ?_
  refine HW.region ?_
  refine HO.eff (want_none) rfl (st_box (c := (e_api_Addr a).toArray) (k' := 17) hS rfl rfl) ?_
  rintro _ h_1 ⟨b_1, rfl, hS, hk⟩
  replace hK := hK.trans hk
  refine HO.val (v := .bool false) (want_none) rfl (q_assign rfl) ?_
  refine HO.nil (thenQ_normal (?_))
  refine HW.seq ?_
  refine HW.seq ?_
  refine HW.region ?_
  refine HO.val (v := .pointer (some ⟨b_1, 0, none⟩)) (want_none) rfl (q_fieldAddr fa_24_0 rfl rfl) ?_
  refine HO.val (v := .bool a.1) (want_none) rfl (q_load to_4 rfl (Blk.cell (hS.box 0 rfl) rfl)) ?_
  refine HO.val (v := .bool (!a.1)) (want_none) rfl (q_not rfl) ?_
  refine HO.nil (thenQ_normal (?_))
  refine HW.cond (!a.1) rfl (fun c_1 => ?_) (fun c_1 => ?_)
  · replace hM := hM.1 c_1
    refine HW.seq ?_
    refine HW.region ?_
    refine HO.val (v := .pointer (some ⟨b_1, 1, none⟩)) (want_none) rfl (q_fieldAddr fa_24_1 rfl rfl) ?_
    refine HO.val (v := .pointer (some ⟨b_1, 1, none⟩)) (want_none) rfl (q_idxA (o := 1) (t := 0) tr_22 rfl rfl ⟨by decide, by decide⟩) ?_
    refine HO.val (v := .int .u8 (b8 a.2 0)) (want_none) rfl (q_load to_5 rfl (Blk.cell (hS.box 0 rfl) rfl)) ?_
    refine HO.val (v := .bool (decide ((b8 a.2 0) = 232))) (want_none) rfl (q_eql rfl rfl) ?_
    refine HO.val (v := .bool (decide ((b8 a.2 0) = 232))) (want_none) rfl (q_assign rfl) ?_
    refine HO.nil (thenQ_normal (?_))
    refine HW.ret (thenQ_ret (?_))
    refine ⟨.inr rfl, .bool (decide ((b8 a.2 0) = 232)), res1 rfl (rt rfl), ?_⟩
    replace hS : St F (fr) h_1 := hS.perm2 [] 1 rfl rfl
    exact ⟨F, decide ((b8 a.2 0) = 232), rfl, hK, hS, hM⟩
  · replace hM := hM.2 c_1
    refine HW.skip (thenQ_normal (?_))
    refine HW.seq ?_
    refine HW.region ?_
    refine HO.val (v := .pointer (some ⟨b_1, 1, none⟩)) (want_none) rfl (q_fieldAddr fa_24_1 rfl rfl) ?_
    refine HO.val (v := .pointer (some ⟨b_1, 1, none⟩)) (want_none) rfl (q_idxA (o := 1) (t := 0) tr_22 rfl rfl ⟨by decide, by decide⟩) ?_
    refine HO.val (v := .int .u8 (b8 a.2 0)) (want_none) rfl (q_load to_5 rfl (Blk.cell (hS.box 0 rfl) rfl)) ?_
    refine HO.val (v := .bool (decide ((b8 a.2 0) = 255))) (want_none) rfl (q_eql rfl rfl) ?_
    refine HO.val (v := .bool (decide ((b8 a.2 0) = 255))) (want_none) rfl (q_move rfl) ?_
    rcases Bool.eq_false_or_eq_true (decide ((b8 a.2 0) = 255)) with c_2 | c_2
    · replace hM := hM.1 (of_decide_eq_true c_2)
      refine HO.val (v := .pointer (some ⟨b_1, 1, none⟩)) (want_by rfl rfl c_2) rfl (q_fieldAddr fa_24_1 rfl rfl) ?_
      refine HO.val (v := .pointer (some ⟨b_1, 2, none⟩)) (want_by rfl rfl c_2) rfl (q_idxA (o := 1) (t := 1) tr_22 rfl rfl ⟨by decide, by decide⟩) ?_
      refine HO.val (v := .int .u8 (b8 a.2 1)) (want_by rfl rfl c_2) rfl (q_load to_5 rfl (Blk.cell (hS.box 0 rfl) rfl)) ?_
      refine HO.val (v := .bool (decide (48 ≤ (b8 a.2 1)))) (want_by rfl rfl c_2) rfl (q_geq rfl rfl) ?_
      refine HO.val (v := .bool (decide (48 ≤ (b8 a.2 1)))) (want_none) rfl (q_pickK true rfl c_2 rfl) ?_
      refine HO.val (v := .bool (decide (48 ≤ (b8 a.2 1)))) (want_none) rfl (q_move rfl) ?_
      rcases Bool.eq_false_or_eq_true (decide (48 ≤ (b8 a.2 1))) with c_3 | c_3
      · replace hM := hM.1 (of_decide_eq_true c_3)
        refine HO.val (v := .pointer (some ⟨b_1, 1, none⟩)) (want_by rfl rfl c_3) rfl (q_fieldAddr fa_24_1 rfl rfl) ?_
        refine HO.val (v := .pointer (some ⟨b_1, 2, none⟩)) (want_by rfl rfl c_3) rfl (q_idxA (o := 1) (t := 1) tr_22 rfl rfl ⟨by decide, by decide⟩) ?_
        refine HO.val (v := .int .u8 (b8 a.2 1)) (want_by rfl rfl c_3) rfl (q_load to_5 rfl (Blk.cell (hS.box 0 rfl) rfl)) ?_
        refine HO.val (v := .bool (decide ((b8 a.2 1) ≤ 63))) (want_by rfl rfl c_3) rfl (q_leq rfl rfl) ?_
        refine HO.val (v := .bool (decide ((b8 a.2 1) ≤ 63))) (want_none) rfl (q_pickK true rfl c_3 rfl) ?_
        refine HO.val (v := .bool (decide ((b8 a.2 1) ≤ 63))) (want_none) rfl (q_move rfl) ?_
        rcases Bool.eq_false_or_eq_true (decide ((b8 a.2 1) ≤ 63)) with c_4 | c_4
        · replace hM := hM.1 (of_decide_eq_true c_4)
          refine HO.val (v := .pointer (some ⟨b_1, 1, none⟩)) (want_by rfl rfl c_4) rfl (q_fieldAddr fa_24_1 rfl rfl) ?_
          refine HO.val (v := .pointer (some ⟨b_1, 3, none⟩)) (want_by rfl rfl c_4) rfl (q_idxA (o := 1) (t := 2) tr_22 rfl rfl ⟨by decide, by decide⟩) ?_
          refine HO.val (v := .int .u8 (b8 a.2 2)) (want_by rfl rfl c_4) rfl (q_load to_5 rfl (Blk.cell (hS.box 0 rfl) rfl)) ?_
          refine HO.val (v := .bool (decide ((b8 a.2 2) = 0))) (want_by rfl rfl c_4) rfl (q_eql rfl rfl) ?_
          refine HO.val (v := .bool (decide ((b8 a.2 2) = 0))) (want_none) rfl (q_pickK true rfl c_4 rfl) ?_
          refine HO.val (v := .bool (decide ((b8 a.2 2) = 0))) (want_none) rfl (q_move rfl) ?_
          rcases Bool.eq_false_or_eq_true (decide ((b8 a.2 2) = 0)) with c_5 | c_5
          · replace hM := hM.1 (of_decide_eq_true c_5)
            refine HO.val (v := .pointer (some ⟨b_1, 1, none⟩)) (want_by rfl rfl c_5) rfl (q_fieldAddr fa_24_1 rfl rfl) ?_
            refine HO.val (v := .pointer (some ⟨b_1, 4, none⟩)) (want_by rfl rfl c_5) rfl (q_idxA (o := 1) (t := 3) tr_22 rfl rfl ⟨by decide, by decide⟩) ?_
            refine HO.val (v := .int .u8 (b8 a.2 3)) (want_by rfl rfl c_5) rfl (q_load to_5 rfl (Blk.cell (hS.box 0 rfl) rfl)) ?_
            refine HO.val (v := .bool (decide ((b8 a.2 3) = 0))) (want_by rfl rfl c_5) rfl (q_eql rfl rfl) ?_
            refine HO.val (v := .bool (decide ((b8 a.2 3) = 0))) (want_none) rfl (q_pickK true rfl c_5 rfl) ?_
            refine HO.val (v := .bool (decide ((b8 a.2 3) = 0))) (want_none) rfl (q_assign rfl) ?_
            refine HO.nil (thenQ_normal (?_))
            refine HW.ret (?_)
            refine ⟨.inr rfl, .bool (decide ((b8 a.2 3) = 0)), res1 rfl (rt rfl), ?_⟩
            replace hS : St F (fr) h_1 := hS.perm2 [] 1 rfl rfl
            exact ⟨F, decide ((b8 a.2 3) = 0), rfl, hK, hS, hM⟩
          · replace hM := hM.2 (of_decide_eq_false c_5)
            refine HO.past (past_by rfl rfl c_5) rfl ?_
            refine HO.past (past_by rfl rfl c_5) rfl ?_
            refine HO.past (past_by rfl rfl c_5) rfl ?_
            refine HO.past (past_by rfl rfl c_5) rfl ?_
            refine HO.val (v := .bool false) (want_none) rfl (q_pickK false rfl c_5 rfl) ?_
            refine HO.val (v := .bool false) (want_none) rfl (q_assign rfl) ?_
            refine HO.nil (thenQ_normal (?_))
            refine HW.ret (?_)
            refine ⟨.inr rfl, .bool false, res1 rfl (rt rfl), ?_⟩
            replace hS : St F (fr) h_1 := hS.perm2 [] 1 rfl rfl
            exact ⟨F, false, rfl, hK, hS, hM⟩
        · replace hM := hM.2 (of_decide_eq_false c_4)
          refine HO.past (past_by rfl rfl c_4) rfl ?_
          refine HO.past (past_by rfl rfl c_4) rfl ?_
          refine HO.past (past_by rfl rfl c_4) rfl ?_
          refine HO.past (past_by rfl rfl c_4) rfl ?_
          refine HO.val (v := .bool false) (want_none) rfl (q_pickK false rfl c_4 rfl) ?_
          refine HO.val (v := .bool false) (want_none) rfl (q_move rfl) ?_
          refine HO.past (past_some rfl rfl) rfl ?_
          refine HO.past (past_some rfl rfl) rfl ?_
          refine HO.past (past_some rfl rfl) rfl ?_
          refine HO.past (past_some rfl rfl) rfl ?_
          refine HO.val (v := .bool false) (want_none) rfl (q_pick rfl rfl) ?_
          refine HO.val (v := .bool false) (want_none) rfl (q_assign rfl) ?_
          refine HO.nil (thenQ_normal (?_))
          refine HW.ret (?_)
          refine ⟨.inr rfl, .bool false, res1 rfl (rt rfl), ?_⟩
          replace hS : St F (fr) h_1 := hS.perm2 [] 1 rfl rfl
          exact ⟨F, false, rfl, hK, hS, hM⟩
      · replace hM := hM.2 (of_decide_eq_false c_3)
        refine HO.past (past_by rfl rfl c_3) rfl ?_
        refine HO.past (past_by rfl rfl c_3) rfl ?_
        refine HO.past (past_by rfl rfl c_3) rfl ?_
        refine HO.past (past_by rfl rfl c_3) rfl ?_
        refine HO.val (v := .bool false) (want_none) rfl (q_pickK false rfl c_3 rfl) ?_
        refine HO.val (v := .bool false) (want_none) rfl (q_move rfl) ?_
        refine HO.past (past_some rfl rfl) rfl ?_
        refine HO.past (past_some rfl rfl) rfl ?_
        refine HO.past (past_some rfl rfl) rfl ?_
        refine HO.past (past_some rfl rfl) rfl ?_
        refine HO.val (v := .bool false) (want_none) rfl (q_pick rfl rfl) ?_
        refine HO.val (v := .bool false) (want_none) rfl (q_move rfl) ?_
        refine HO.past (past_some rfl rfl) rfl ?_
        refine HO.past (past_some rfl rfl) rfl ?_
        refine HO.past (past_some rfl rfl) rfl ?_
        refine HO.past (past_some rfl rfl) rfl ?_
        refine HO.val (v := .bool false) (want_none) rfl (q_pick rfl rfl) ?_
        refine HO.val (v := .bool false) (want_none) rfl (q_assign rfl) ?_
        refine HO.nil (thenQ_normal (?_))
        refine HW.ret (?_)
        refine ⟨.inr rfl, .bool false, res1 rfl (rt rfl), ?_⟩
        replace hS : St F (fr) h_1 := hS.perm2 [] 1 rfl rfl
        exact ⟨F, false, rfl, hK, hS, hM⟩
    · replace hM := hM.2 (of_decide_eq_false c_2)
      refine HO.past (past_by rfl rfl c_2) rfl ?_
      refine HO.past (past_by rfl rfl c_2) rfl ?_
      refine HO.past (past_by rfl rfl c_2) rfl ?_
      refine HO.past (past_by rfl rfl c_2) rfl ?_
      refine HO.val (v := .bool false) (want_none) rfl (q_pickK false rfl c_2 rfl) ?_
      refine HO.val (v := .bool false) (want_none) rfl (q_move rfl) ?_
      refine HO.past (past_some rfl rfl) rfl ?_
      refine HO.past (past_some rfl rfl) rfl ?_
      refine HO.past (past_some rfl rfl) rfl ?_
      refine HO.past (past_some rfl rfl) rfl ?_
      refine HO.val (v := .bool false) (want_none) rfl (q_pick rfl rfl) ?_
      refine HO.val (v := .bool false) (want_none) rfl (q_move rfl) ?_
      refine HO.past (past_some rfl rfl) rfl ?_
      refine HO.past (past_some rfl rfl) rfl ?_
      refine HO.past (past_some rfl rfl) rfl ?_
      refine HO.past (past_some rfl rfl) rfl ?_
      refine HO.val (v := .bool false) (want_none) rfl (q_pick rfl rfl) ?_
      refine HO.val (v := .bool false) (want_none) rfl (q_move rfl) ?_
      refine HO.past (past_some rfl rfl) rfl ?_
      refine HO.past (past_some rfl rfl) rfl ?_
      refine HO.past (past_some rfl rfl) rfl ?_
      refine HO.past (past_some rfl rfl) rfl ?_
      refine HO.val (v := .bool false) (want_none) rfl (q_pick rfl rfl) ?_
      refine HO.val (v := .bool false) (want_none) rfl (q_assign rfl) ?_
      refine HO.nil (thenQ_normal (?_))
      refine HW.ret (?_)
      refine ⟨.inr rfl, .bool false, res1 rfl (rt rfl), ?_⟩
      replace hS : St F (fr) h_1 := hS.perm2 [] 1 rfl rfl
      exact ⟨F, false, rfl, hK, hS, hM⟩

def addr_Scope_W (a : T_api_Addr) (Q : Int → Prop) : Prop :=
  addr_scope_W a (fun r_2 => Q r_2)
set_option maxHeartbeats 40000000 in
set_option maxRecDepth 100000 in
theorem addr_Scope_walk {F : Fz} {fr : List Ow} {h0 : Heap} (a : T_api_Addr) (hS : St F (fr) h0)  {Q : Int → Prop} (hM : addr_Scope_W a Q) :
    HC Tryz.prog 20 #[.agg (e_api_Addr a).toArray] h0 fun u h' => ∃ (F' : Fz) (r_1 : Int), u = .int .i64 r_1 ∧ Kp F h0 F' h' ∧ St F' (fr) h' ∧ Q r_1 := by
  unfold addr_Scope_W at hM
  have hK := Kp.refl F h0
  refine HC.of_HW (n := 5) Tryz.func20 rfl rfl (Nat.le_of_ble_eq_true rfl) ?_
  refine HW.seq ?_
  refine HW.region ?_
  refine HO.eff (want_none) rfl (st_box (c := (e_api_Addr a).toArray) (k' := 17) hS rfl rfl) ?_
  rintro _ h_1 ⟨b_1, rfl, hS, hk⟩
  replace hK := hK.trans hk
  refine HO.val (v := .int .i64 0) (want_none) rfl (q_assign rfl) ?_
  refine HO.nil (thenQ_normal (?_))
  refine HW.seq ?_
  refine HW.region ?_
  refine HO.val (v := .agg (e_api_Addr a).toArray) (want_none) rfl (q_loadAgg (cs := (e_api_Addr a)) ta_24 rfl rfl (Blk.cells (k := 17) (hS.box 0 rfl) rfl)) ?_
  refine HO.call (want_none) rfl (ec en_26 rfl rfl) (addr_scope_walk (fr := (Ow.box b_1 24 (e_api_Addr a).toArray :: fr)) a hS hM) ?_
  rintro _ h_2 ⟨F_1, r_2, rfl, hk, hS, hM⟩
  replace hK := hK.trans hk
  refine HO.val (v := .int .i64 r_2) (want_none) rfl (q_assign rfl) ?_
  refine HO.nil (thenQ_normal (?_))
  refine HW.ret (?_)
  refine ⟨.inr rfl, .int .i64 r_2, res1 rfl (rt rfl), ?_⟩
  replace hS : St F_1 (fr) h_2 := hS.perm2 [] 1 rfl rfl
  exact ⟨F_1, r_2, rfl, hK, hS, hM⟩

def internal_strconv_lower_W (c : Int) (Q : Int → Prop) : Prop :=
  ((0 : Int) ≤ (bits .or .u8 c 32) ∧ (bits .or .u8 c 32) < 256) ∧ (Q ((u8w (bits .or .u8 c 32)).toNat : Int))
set_option maxHeartbeats 40000000 in
set_option maxRecDepth 100000 in
theorem internal_strconv_lower_walk {F : Fz} {fr : List Ow} {h0 : Heap} (c : Int) (hS : St F (fr) h0)  {Q : Int → Prop} (hM : internal_strconv_lower_W c Q) :
    HC Tryz.prog 67 #[.int .u8 c] h0 fun u h' => ∃ (F' : Fz) (r_1 : Int), u = .int .u8 r_1 ∧ Kp F h0 F' h' ∧ St F' (fr) h' ∧ Q r_1 := by
  unfold internal_strconv_lower_W at hM
  have hK := Kp.refl F h0
  refine HC.of_HW (n := 5) Tryz.func67 rfl rfl (Nat.le_of_ble_eq_true rfl) ?_
  refine HW.seq ?_
  refine HW.region ?_
  refine HO.val (v := .int .u8 0) (want_none) rfl (q_assign rfl) ?_
  refine HO.nil (thenQ_normal (?_))
  refine HW.seq ?_
  refine HW.region ?_
  refine HO.val (v := .int .u8 c) (want_none) rfl (q_move rfl) ?_
  obtain ⟨ho_1, hM⟩ := hM
  refine HO.val (v := .int .u8 ((u8w (bits .or .u8 c 32)).toNat : Int)) (want_none) rfl ((q_bits (by simp) rfl rfl).of_eq (u8r_v ho_1)) ?_
  refine HO.val (v := .int .u8 ((u8w (bits .or .u8 c 32)).toNat : Int)) (want_none) rfl (q_assign rfl) ?_
  refine HO.nil (thenQ_normal (?_))
  refine HW.ret (?_)
  refine ⟨.inr rfl, .int .u8 ((u8w (bits .or .u8 c 32)).toNat : Int), res1 rfl (rt rfl), ?_⟩
  exact ⟨F, ((u8w (bits .or .u8 c 32)).toNat : Int), rfl, hK, hS, hM⟩

def internal_strconv_underscoreOK_j4 (Q : Bool → Prop) (s_1 : Str) (saw_2 : Int) (i_2 : Int) (K_1 : Int → Int → Prop) : Prop :=
  ((0 : Int) ≤ i_2 ∧ i_2 < (s_1.length : Int)) ∧ ((((gi s_1 i_2).toNat : Int) = 95 → (¬ (saw_2 = 48) → Q false) ∧ (saw_2 = 48 → (I64 (i_2 + 1)) ∧ (K_1 95 (i_2 + 1)))) ∧ (¬ (((gi s_1 i_2).toNat : Int) = 95) → (saw_2 = 95 → Q false) ∧ (¬ (saw_2 = 95) → (I64 (i_2 + 1)) ∧ (K_1 33 (i_2 + 1)))))
def internal_strconv_underscoreOK_l1 (Q : Bool → Prop) (s_1 : Str) (hex_1 : Bool) (K_1 : Int → Int → Prop) (saw_2 : Int) (i_2 : Int) : Prop :=
  (i_2 < (s_1.length : Int) → ((0 : Int) ≤ i_2 ∧ i_2 < (s_1.length : Int)) ∧ ((48 ≤ ((gi s_1 i_2).toNat : Int) → (((gi s_1 i_2).toNat : Int) ≤ 57 → (I64 (i_2 + 1)) ∧ (K_1 48 (i_2 + 1))) ∧ (¬ (((gi s_1 i_2).toNat : Int) ≤ 57) → (hex_1 = true → internal_strconv_lower_W ((gi s_1 i_2).toNat : Int) (fun r_6 => (97 ≤ r_6 → internal_strconv_lower_W ((gi s_1 i_2).toNat : Int) (fun r_7 => (r_7 ≤ 102 → (I64 (i_2 + 1)) ∧ (K_1 48 (i_2 + 1))) ∧ (¬ (r_7 ≤ 102) → internal_strconv_underscoreOK_j4 Q s_1 saw_2 i_2 K_1))) ∧ (¬ (97 ≤ r_6) → internal_strconv_underscoreOK_j4 Q s_1 saw_2 i_2 K_1))) ∧ (hex_1 = false → internal_strconv_underscoreOK_j4 Q s_1 saw_2 i_2 K_1))) ∧ (¬ (48 ≤ ((gi s_1 i_2).toNat : Int)) → (hex_1 = true → internal_strconv_lower_W ((gi s_1 i_2).toNat : Int) (fun r_8 => (97 ≤ r_8 → internal_strconv_lower_W ((gi s_1 i_2).toNat : Int) (fun r_9 => (r_9 ≤ 102 → (I64 (i_2 + 1)) ∧ (K_1 48 (i_2 + 1))) ∧ (¬ (r_9 ≤ 102) → internal_strconv_underscoreOK_j4 Q s_1 saw_2 i_2 K_1))) ∧ (¬ (97 ≤ r_8) → internal_strconv_underscoreOK_j4 Q s_1 saw_2 i_2 K_1))) ∧ (hex_1 = false → internal_strconv_underscoreOK_j4 Q s_1 saw_2 i_2 K_1)))) ∧ (¬ (i_2 < (s_1.length : Int)) → Q (!decide (saw_2 = 95)))
def internal_strconv_underscoreOK_j2 (Q : Bool → Prop) (s_1 : Str) (saw_1 : Int) (i_1 : Int) (hex_1 : Bool) : Prop :=
  loopW (fun (K_1 : (Int × Int) → Prop) (s : Int × Int) => internal_strconv_underscoreOK_l1 Q s_1 hex_1 (fun saw_2 i_2 => K_1 (saw_2, i_2)) s.1 s.2) (saw_1, i_1)
def internal_strconv_underscoreOK_j3 (Q : Bool → Prop) (s_1 : Str) (b_1 : Bool) : Prop :=
  (b_1 = true → ((0 : Int) ≤ 1 ∧ 1 < (s_1.length : Int)) ∧ (internal_strconv_lower_W ((gi s_1 1).toNat : Int) (fun r_5 => internal_strconv_underscoreOK_j2 Q s_1 48 2 (decide (r_5 = 120))))) ∧ (b_1 = false → internal_strconv_underscoreOK_j2 Q s_1 94 0 false)
def internal_strconv_underscoreOK_j1 (Q : Bool → Prop) (s_1 : Str) : Prop :=
  (2 ≤ (s_1.length : Int) → ((0 : Int) ≤ 0 ∧ 0 < (s_1.length : Int)) ∧ ((((gi s_1 0).toNat : Int) = 48 → ((0 : Int) ≤ 1 ∧ 1 < (s_1.length : Int)) ∧ (internal_strconv_lower_W ((gi s_1 1).toNat : Int) (fun r_2 => (r_2 = 98 → internal_strconv_underscoreOK_j3 Q s_1 true) ∧ (¬ (r_2 = 98) → internal_strconv_lower_W ((gi s_1 1).toNat : Int) (fun r_3 => (r_3 = 111 → internal_strconv_underscoreOK_j3 Q s_1 true) ∧ (¬ (r_3 = 111) → internal_strconv_lower_W ((gi s_1 1).toNat : Int) (fun r_4 => internal_strconv_underscoreOK_j3 Q s_1 (decide (r_4 = 120))))))))) ∧ (¬ (((gi s_1 0).toNat : Int) = 48) → internal_strconv_underscoreOK_j3 Q s_1 false))) ∧ (¬ (2 ≤ (s_1.length : Int)) → internal_strconv_underscoreOK_j3 Q s_1 false)
def internal_strconv_underscoreOK_W (s1 : Str) (Q : Bool → Prop) : Prop :=
  (1 ≤ (s1.length : Int) → ((0 : Int) ≤ 0 ∧ 0 < (s1.length : Int)) ∧ ((((gi s1 0).toNat : Int) = 45 → ((0 : Int) ≤ 1 ∧ 1 ≤ (s1.length : Int)) ∧ (internal_strconv_underscoreOK_j1 Q (cut s1 1 (s1.length : Int)))) ∧ (¬ (((gi s1 0).toNat : Int) = 45) → (((gi s1 0).toNat : Int) = 43 → ((0 : Int) ≤ 1 ∧ 1 ≤ (s1.length : Int)) ∧ (internal_strconv_underscoreOK_j1 Q (cut s1 1 (s1.length : Int)))) ∧ (¬ (((gi s1 0).toNat : Int) = 43) → internal_strconv_underscoreOK_j1 Q s1)))) ∧ (¬ (1 ≤ (s1.length : Int)) → internal_strconv_underscoreOK_j1 Q s1)
set_option maxHeartbeats 40000000 in
set_option maxRecDepth 100000 in
theorem internal_strconv_underscoreOK_walk {F : Fz} {fr : List Ow} {h0 : Heap} (s1 : Str) (hS : St F (fr) h0)  {Q : Bool → Prop} (hM : internal_strconv_underscoreOK_W s1 Q) :
    HC Tryz.prog 68 #[.string (bs s1)] h0 fun u h' => ∃ (F' : Fz) (r_1 : Bool), u = .bool r_1 ∧ Kp F h0 F' h' ∧ St F' (fr) h' ∧ Q r_1 := by
  unfold internal_strconv_underscoreOK_W at hM
  have hK := Kp.refl F h0
  refine HC.of_HW (n := 94) Tryz.func68 rfl rfl (Nat.le_of_ble_eq_true rfl) ?_
  refine HW.seq ?_
  refine HW.region ?_
  refine HO.val (v := .bool false) (want_none) rfl (q_assign rfl) ?_
  refine HO.nil (thenQ_normal (?_))
  refine HW.seq ?_
  refine HW.region ?_
  refine HO.val (v := .int .i32 94) (want_none) rfl (q_assign rfl) ?_
  refine HO.nil (thenQ_normal (?_))
  refine HW.seq ?_
  refine HW.region ?_
  refine HO.val (v := .int .i64 0) (want_none) rfl (q_assign rfl) ?_
  refine HO.nil (thenQ_normal (?_))
  refine HW.seq_mid (fun f h => ∃ (F' : Fz) (s_1 : Str), f 0 = .string (bs s_1) ∧ f 2 = .bool false ∧ f 3 = .int .i32 94 ∧ f 4 = .int .i64 0 ∧ Kp F h0 F' h ∧ St F' (fr) h ∧ internal_strconv_underscoreOK_j1 Q s_1) ?_ ?_
  · refine HW.seq ?_
    refine HW.region ?_
    refine HO.val (v := .string (bs s1)) (want_none) rfl (q_move rfl) ?_
    refine HO.val (v := .int .i64 (s1.length : Int)) (want_none) rfl (q_lenT Tryz.underlying9 rfl rfl) ?_
    refine HO.val (v := .bool (decide (1 ≤ (s1.length : Int)))) (want_none) rfl (q_geq rfl rfl) ?_
    refine HO.val (v := .bool (decide (1 ≤ (s1.length : Int)))) (want_none) rfl (q_move rfl) ?_
    rcases Bool.eq_false_or_eq_true (decide (1 ≤ (s1.length : Int))) with c_1 | c_1
    · replace hM := hM.1 (of_decide_eq_true c_1)
      refine HO.val (v := .string (bs s1)) (want_by rfl rfl c_1) rfl (q_move rfl) ?_
      obtain ⟨ho_1, hM⟩ := hM
      refine HO.val (v := .int .u8 ((gi s1 0).toNat : Int)) (want_by rfl rfl c_1) rfl (q_idxT Tryz.underlying9 rfl rfl ho_1) ?_
      refine HO.val (v := .bool (decide (((gi s1 0).toNat : Int) = 45))) (want_by rfl rfl c_1) rfl (q_eql rfl rfl) ?_
      refine HO.val (v := .bool (decide (((gi s1 0).toNat : Int) = 45))) (want_by rfl rfl c_1) rfl (q_move rfl) ?_
      rcases Bool.eq_false_or_eq_true (decide (((gi s1 0).toNat : Int) = 45)) with c_2 | c_2
      · replace hM := hM.1 (of_decide_eq_true c_2)
        refine HO.past (past_by rfl rfl c_2) rfl ?_
        refine HO.past (past_by rfl rfl c_2) rfl ?_
        refine HO.past (past_by rfl rfl c_2) rfl ?_
        refine HO.val (v := .bool true) (want_by rfl rfl c_1) rfl (q_pickK true rfl c_2 rfl) ?_
        refine HO.val (v := .bool true) (want_none) rfl (q_pickK true rfl c_1 rfl) ?_
        refine HO.nil (thenQ_normal (?_))
        refine HW.condT rfl ?_
        refine HW.region ?_
        refine HO.val (v := .string (bs s1)) (want_none) rfl (q_move rfl) ?_
        obtain ⟨ho_2, hM⟩ := hM
        refine HO.val (v := .string (bs (cut s1 1 (s1.length : Int)))) (want_none) rfl (q_strL Tryz.underlying9 rfl rfl ho_2) ?_
        refine HO.val (v := .string (bs (cut s1 1 (s1.length : Int)))) (want_none) rfl (q_assign rfl) ?_
        refine HO.nil (thenQ_normal (?_))
        exact ⟨F, cut s1 1 (s1.length : Int), rfl, rfl, rfl, rfl, hK, hS, hM⟩
      · replace hM := hM.2 (of_decide_eq_false c_2)
        refine HO.val (v := .string (bs s1)) (want_by rfl rfl c_2) rfl (q_move rfl) ?_
        refine HO.val (v := .int .u8 ((gi s1 0).toNat : Int)) (want_by rfl rfl c_2) rfl (q_idxT Tryz.underlying9 rfl rfl ho_1) ?_
        refine HO.val (v := .bool (decide (((gi s1 0).toNat : Int) = 43))) (want_by rfl rfl c_2) rfl (q_eql rfl rfl) ?_
        refine HO.val (v := .bool (decide (((gi s1 0).toNat : Int) = 43))) (want_by rfl rfl c_1) rfl (q_pickK false rfl c_2 rfl) ?_
        refine HO.val (v := .bool (decide (((gi s1 0).toNat : Int) = 43))) (want_none) rfl (q_pickK true rfl c_1 rfl) ?_
        refine HO.nil (thenQ_normal (?_))
        refine HW.cond (decide (((gi s1 0).toNat : Int) = 43)) rfl (fun c_3 => ?_) (fun c_3 => ?_)
        · replace hM := hM.1 (of_decide_eq_true c_3)
          refine HW.region ?_
          refine HO.val (v := .string (bs s1)) (want_none) rfl (q_move rfl) ?_
          obtain ⟨ho_3, hM⟩ := hM
          refine HO.val (v := .string (bs (cut s1 1 (s1.length : Int)))) (want_none) rfl (q_strL Tryz.underlying9 rfl rfl ho_3) ?_
          refine HO.val (v := .string (bs (cut s1 1 (s1.length : Int)))) (want_none) rfl (q_assign rfl) ?_
          refine HO.nil (thenQ_normal (?_))
          exact ⟨F, cut s1 1 (s1.length : Int), rfl, rfl, rfl, rfl, hK, hS, hM⟩
        · replace hM := hM.2 (of_decide_eq_false c_3)
          refine HW.skip (thenQ_normal (?_))
          exact ⟨F, s1, rfl, rfl, rfl, rfl, hK, hS, hM⟩
    · replace hM := hM.2 (of_decide_eq_false c_1)
      refine HO.past (past_by rfl rfl c_1) rfl ?_
      refine HO.past (past_by rfl rfl c_1) rfl ?_
      refine HO.past (past_by rfl rfl c_1) rfl ?_
      refine HO.past (past_by rfl rfl c_1) rfl ?_
      refine HO.past (past_undef rfl rfl) rfl ?_
      refine HO.past (past_undef rfl rfl) rfl ?_
      refine HO.past (past_undef rfl rfl) rfl ?_
      refine HO.past (past_by rfl rfl c_1) rfl ?_
      refine HO.val (v := .bool false) (want_none) rfl (q_pickK false rfl c_1 rfl) ?_
      refine HO.nil (thenQ_normal (?_))
      refine HW.condF rfl ?_
      refine HW.skip (thenQ_normal (?_))
      exact ⟨F, s1, rfl, rfl, rfl, rfl, hK, hS, hM⟩
  · rintro f_1 h_1 ⟨F_1, s_1, e0, e2, e3, e4, hK, hS, hM⟩
    unfold internal_strconv_underscoreOK_j1 at hM
    refine HW.fr [(0, .string (bs s_1)), (2, .bool false), (3, .int .i32 94), (4, .int .i64 0)] ⟨e0, e2, e3, e4, trivial⟩ ?_
    refine HW.seq ?_
    refine HW.region ?_
    refine HO.val (v := .bool false) (want_none) rfl (q_assign rfl) ?_
    refine HO.nil (thenQ_normal (?_))
    refine HW.seq_mid (fun f h => ∃ (F' : Fz) (saw_1 : Int) (i_1 : Int) (hex_1 : Bool), f 0 = .string (bs s_1) ∧ f 2 = .bool false ∧ f 3 = .int .i32 saw_1 ∧ f 4 = .int .i64 i_1 ∧ f 5 = .bool hex_1 ∧ Kp F h0 F' h ∧ St F' (fr) h ∧ internal_strconv_underscoreOK_j2 Q s_1 saw_1 i_1 hex_1) ?_ ?_
    · refine HW.seq_mid (fun f h => ∃ (F' : Fz) (b_1 : Bool), f 0 = .string (bs s_1) ∧ f 2 = .bool false ∧ f 3 = .int .i32 94 ∧ f 4 = .int .i64 0 ∧ f 5 = .bool false ∧ f 46 = .bool b_1 ∧ Kp F h0 F' h ∧ St F' (fr) h ∧ internal_strconv_underscoreOK_j3 Q s_1 b_1) ?_ ?_
      · refine HW.region ?_
        refine HO.val (v := .string (bs s_1)) (want_none) rfl (q_move rfl) ?_
        refine HO.val (v := .int .i64 (s_1.length : Int)) (want_none) rfl (q_lenT Tryz.underlying9 rfl rfl) ?_
        refine HO.val (v := .bool (decide (2 ≤ (s_1.length : Int)))) (want_none) rfl (q_geq rfl rfl) ?_
        refine HO.val (v := .bool (decide (2 ≤ (s_1.length : Int)))) (want_none) rfl (q_move rfl) ?_
        rcases Bool.eq_false_or_eq_true (decide (2 ≤ (s_1.length : Int))) with c_4 | c_4
        · replace hM := hM.1 (of_decide_eq_true c_4)
          refine HO.val (v := .string (bs s_1)) (want_by rfl rfl c_4) rfl (q_move rfl) ?_
          obtain ⟨ho_4, hM⟩ := hM
          refine HO.val (v := .int .u8 ((gi s_1 0).toNat : Int)) (want_by rfl rfl c_4) rfl (q_idxT Tryz.underlying9 rfl rfl ho_4) ?_
          refine HO.val (v := .bool (decide (((gi s_1 0).toNat : Int) = 48))) (want_by rfl rfl c_4) rfl (q_eql rfl rfl) ?_
          refine HO.val (v := .bool (decide (((gi s_1 0).toNat : Int) = 48))) (want_none) rfl (q_pickK true rfl c_4 rfl) ?_
          refine HO.val (v := .bool (decide (((gi s_1 0).toNat : Int) = 48))) (want_none) rfl (q_move rfl) ?_
          rcases Bool.eq_false_or_eq_true (decide (((gi s_1 0).toNat : Int) = 48)) with c_5 | c_5
          · replace hM := hM.1 (of_decide_eq_true c_5)
            refine HO.val (v := .string (bs s_1)) (want_by rfl rfl c_5) rfl (q_move rfl) ?_
            obtain ⟨ho_5, hM⟩ := hM
            refine HO.val (v := .int .u8 ((gi s_1 1).toNat : Int)) (want_by rfl rfl c_5) rfl (q_idxT Tryz.underlying9 rfl rfl ho_5) ?_
            refine HO.call (want_by rfl rfl c_5) rfl (ec en_67 rfl rfl) (internal_strconv_lower_walk (fr := (fr)) ((gi s_1 1).toNat : Int) hS hM) ?_
            rintro _ h_2 ⟨F_2, r_2, rfl, hk, hS, hM⟩
            replace hK := hK.trans hk
            refine HO.val (v := .bool (decide (r_2 = 98))) (want_by rfl rfl c_5) rfl (q_eql rfl rfl) ?_
            refine HO.val (v := .bool (decide (r_2 = 98))) (want_by rfl rfl c_5) rfl (q_move rfl) ?_
            rcases Bool.eq_false_or_eq_true (decide (r_2 = 98)) with c_6 | c_6
            · replace hM := hM.1 (of_decide_eq_true c_6)
              refine HO.past (past_by rfl rfl c_6) rfl ?_
              refine HO.past (past_by rfl rfl c_6) rfl ?_
              refine HO.past (past_by rfl rfl c_6) rfl ?_
              refine HO.past (past_by rfl rfl c_6) rfl ?_
              refine HO.val (v := .bool true) (want_by rfl rfl c_5) rfl (q_pickK true rfl c_6 rfl) ?_
              refine HO.val (v := .bool true) (want_by rfl rfl c_5) rfl (q_move rfl) ?_
              refine HO.past (past_some rfl rfl) rfl ?_
              refine HO.past (past_some rfl rfl) rfl ?_
              refine HO.past (past_some rfl rfl) rfl ?_
              refine HO.past (past_some rfl rfl) rfl ?_
              refine HO.val (v := .bool true) (want_by rfl rfl c_5) rfl (q_pick rfl rfl) ?_
              refine HO.val (v := .bool true) (want_none) rfl (q_pickK true rfl c_5 rfl) ?_
              refine HO.nil (thenQ_normal (?_))
              exact ⟨F_2, true, rfl, rfl, rfl, rfl, rfl, rfl, hK, hS, hM⟩
            · replace hM := hM.2 (of_decide_eq_false c_6)
              refine HO.val (v := .string (bs s_1)) (want_by rfl rfl c_6) rfl (q_move rfl) ?_
              refine HO.val (v := .int .u8 ((gi s_1 1).toNat : Int)) (want_by rfl rfl c_6) rfl (q_idxT Tryz.underlying9 rfl rfl ho_5) ?_
              refine HO.call (want_by rfl rfl c_6) rfl (ec en_67 rfl rfl) (internal_strconv_lower_walk (fr := (fr)) ((gi s_1 1).toNat : Int) hS hM) ?_
              rintro _ h_3 ⟨F_3, r_3, rfl, hk, hS, hM⟩
              replace hK := hK.trans hk
              refine HO.val (v := .bool (decide (r_3 = 111))) (want_by rfl rfl c_6) rfl (q_eql rfl rfl) ?_
              refine HO.val (v := .bool (decide (r_3 = 111))) (want_by rfl rfl c_5) rfl (q_pickK false rfl c_6 rfl) ?_
              refine HO.val (v := .bool (decide (r_3 = 111))) (want_by rfl rfl c_5) rfl (q_move rfl) ?_
              rcases Bool.eq_false_or_eq_true (decide (r_3 = 111)) with c_7 | c_7
              · replace hM := hM.1 (of_decide_eq_true c_7)
                refine HO.past (past_by rfl rfl c_7) rfl ?_
                refine HO.past (past_by rfl rfl c_7) rfl ?_
                refine HO.past (past_by rfl rfl c_7) rfl ?_
                refine HO.past (past_by rfl rfl c_7) rfl ?_
                refine HO.val (v := .bool true) (want_by rfl rfl c_5) rfl (q_pickK true rfl c_7 rfl) ?_
                refine HO.val (v := .bool true) (want_none) rfl (q_pickK true rfl c_5 rfl) ?_
                refine HO.nil (thenQ_normal (?_))
                exact ⟨F_3, true, rfl, rfl, rfl, rfl, rfl, rfl, hK, hS, hM⟩
              · replace hM := hM.2 (of_decide_eq_false c_7)
                refine HO.val (v := .string (bs s_1)) (want_by rfl rfl c_7) rfl (q_move rfl) ?_
                refine HO.val (v := .int .u8 ((gi s_1 1).toNat : Int)) (want_by rfl rfl c_7) rfl (q_idxT Tryz.underlying9 rfl rfl ho_5) ?_
                refine HO.call (want_by rfl rfl c_7) rfl (ec en_67 rfl rfl) (internal_strconv_lower_walk (fr := (fr)) ((gi s_1 1).toNat : Int) hS hM) ?_
                rintro _ h_4 ⟨F_4, r_4, rfl, hk, hS, hM⟩
                replace hK := hK.trans hk
                refine HO.val (v := .bool (decide (r_4 = 120))) (want_by rfl rfl c_7) rfl (q_eql rfl rfl) ?_
                refine HO.val (v := .bool (decide (r_4 = 120))) (want_by rfl rfl c_5) rfl (q_pickK false rfl c_7 rfl) ?_
                refine HO.val (v := .bool (decide (r_4 = 120))) (want_none) rfl (q_pickK true rfl c_5 rfl) ?_
                refine HO.nil (thenQ_normal (?_))
                exact ⟨F_4, decide (r_4 = 120), rfl, rfl, rfl, rfl, rfl, rfl, hK, hS, hM⟩
          · replace hM := hM.2 (of_decide_eq_false c_5)
            refine HO.past (past_by rfl rfl c_5) rfl ?_
            refine HO.past (past_by rfl rfl c_5) rfl ?_
            refine HO.past (past_by rfl rfl c_5) rfl ?_
            refine HO.past (past_by rfl rfl c_5) rfl ?_
            refine HO.past (past_by rfl rfl c_5) rfl ?_
            refine HO.past (past_undef rfl rfl) rfl ?_
            refine HO.past (past_undef rfl rfl) rfl ?_
            refine HO.past (past_undef rfl rfl) rfl ?_
            refine HO.past (past_undef rfl rfl) rfl ?_
            refine HO.past (past_by rfl rfl c_5) rfl ?_
            refine HO.past (past_by rfl rfl c_5) rfl ?_
            refine HO.past (past_undef rfl rfl) rfl ?_
            refine HO.past (past_undef rfl rfl) rfl ?_
            refine HO.past (past_undef rfl rfl) rfl ?_
            refine HO.past (past_undef rfl rfl) rfl ?_
            refine HO.past (past_by rfl rfl c_5) rfl ?_
            refine HO.val (v := .bool false) (want_none) rfl (q_pickK false rfl c_5 rfl) ?_
            refine HO.nil (thenQ_normal (?_))
            exact ⟨F_1, false, rfl, rfl, rfl, rfl, rfl, rfl, hK, hS, hM⟩
        · replace hM := hM.2 (of_decide_eq_false c_4)
          refine HO.past (past_by rfl rfl c_4) rfl ?_
          refine HO.past (past_by rfl rfl c_4) rfl ?_
          refine HO.past (past_by rfl rfl c_4) rfl ?_
          refine HO.val (v := .bool false) (want_none) rfl (q_pickK false rfl c_4 rfl) ?_
          refine HO.val (v := .bool false) (want_none) rfl (q_move rfl) ?_
          refine HO.past (past_some rfl rfl) rfl ?_
          refine HO.past (past_some rfl rfl) rfl ?_
          refine HO.past (past_some rfl rfl) rfl ?_
          refine HO.past (past_some rfl rfl) rfl ?_
          refine HO.past (past_some rfl rfl) rfl ?_
          refine HO.past (past_undef rfl rfl) rfl ?_
          refine HO.past (past_undef rfl rfl) rfl ?_
          refine HO.past (past_undef rfl rfl) rfl ?_
          refine HO.past (past_undef rfl rfl) rfl ?_
          refine HO.past (past_some rfl rfl) rfl ?_
          refine HO.past (past_some rfl rfl) rfl ?_
          refine HO.past (past_undef rfl rfl) rfl ?_
          refine HO.past (past_undef rfl rfl) rfl ?_
          refine HO.past (past_undef rfl rfl) rfl ?_
          refine HO.past (past_undef rfl rfl) rfl ?_
          refine HO.past (past_some rfl rfl) rfl ?_
          refine HO.val (v := .bool false) (want_none) rfl (q_pick rfl rfl) ?_
          refine HO.nil (thenQ_normal (?_))
          exact ⟨F_1, false, rfl, rfl, rfl, rfl, rfl, rfl, hK, hS, hM⟩
      · rintro f_2 h_5 ⟨F_5, b_1, e0, e2, e3, e4, e5, e46, hK, hS, hM⟩
        unfold internal_strconv_underscoreOK_j3 at hM
        refine HW.fr [(0, .string (bs s_1)), (2, .bool false), (3, .int .i32 94), (4, .int .i64 0), (5, .bool false), (46, .bool b_1)] ⟨e0, e2, e3, e4, e5, e46, trivial⟩ ?_
        refine HW.cond b_1 rfl (fun c_8 => ?_) (fun c_8 => ?_)
        · replace hM := hM.1 c_8
          refine HW.seq ?_
          refine HW.region ?_
          refine HO.val (v := .int .i64 2) (want_none) rfl (q_assign rfl) ?_
          refine HO.nil (thenQ_normal (?_))
          refine HW.seq ?_
          refine HW.region ?_
          refine HO.val (v := .int .i32 48) (want_none) rfl (q_assign rfl) ?_
          refine HO.nil (thenQ_normal (?_))
          refine HW.region ?_
          refine HO.val (v := .string (bs s_1)) (want_none) rfl (q_move rfl) ?_
          obtain ⟨ho_6, hM⟩ := hM
          refine HO.val (v := .int .u8 ((gi s_1 1).toNat : Int)) (want_none) rfl (q_idxT Tryz.underlying9 rfl rfl ho_6) ?_
          refine HO.call (want_none) rfl (ec en_67 rfl rfl) (internal_strconv_lower_walk (fr := (fr)) ((gi s_1 1).toNat : Int) hS hM) ?_
          rintro _ h_6 ⟨F_6, r_5, rfl, hk, hS, hM⟩
          replace hK := hK.trans hk
          refine HO.val (v := .bool (decide (r_5 = 120))) (want_none) rfl (q_eql rfl rfl) ?_
          refine HO.val (v := .bool (decide (r_5 = 120))) (want_none) rfl (q_assign rfl) ?_
          refine HO.nil (thenQ_normal (?_))
          exact ⟨F_6, 48, 2, decide (r_5 = 120), rfl, rfl, rfl, rfl, rfl, hK, hS, hM⟩
        · replace hM := hM.2 c_8
          refine HW.skip (thenQ_normal (?_))
          exact ⟨F_5, 94, 0, false, rfl, rfl, rfl, rfl, rfl, hK, hS, hM⟩
    · rintro f_3 h_7 ⟨F_7, saw_1, i_1, hex_1, e0, e2, e3, e4, e5, hK, hS, hM⟩
      unfold internal_strconv_underscoreOK_j2 at hM
      refine HW.fr [(0, .string (bs s_1)), (2, .bool false), (3, .int .i32 saw_1), (4, .int .i64 i_1), (5, .bool hex_1)] ⟨e0, e2, e3, e4, e5, trivial⟩ ?_
      refine HW.seq ?_
      refine HW.block ?_
      obtain ⟨I_1, m_1, hI_1, hR_1⟩ := hM
      refine HW.loop (S := Int × Int) (fun s f h => match s with | (saw_2, i_2) => ∃ (F' : Fz), f 0 = .string (bs s_1) ∧ f 2 = .bool false ∧ f 3 = .int .i32 saw_2 ∧ f 4 = .int .i64 i_2 ∧ f 5 = .bool hex_1 ∧ Kp F h0 F' h ∧ St F' (fr) h ∧ I_1 (saw_2, i_2)) m_1 (saw_1, i_1) ⟨F_7, rfl, rfl, rfl, rfl, rfl, hK, hS, hI_1⟩ ?_
      rintro ⟨saw_2, i_2⟩ f_4 h_8 ⟨F_8, e0, e2, e3, e4, e5, hK, hS, hI0⟩
      obtain ⟨K_1, hKe_1⟩ : ∃ K : Int → Int → Prop, K = fun saw_2' i_2' => I_1 (saw_2', i_2') ∧ m_1 (saw_2', i_2') < m_1 (saw_2, i_2) := ⟨_, rfl⟩
      have hM : internal_strconv_underscoreOK_l1 Q s_1 hex_1 K_1 saw_2 i_2 := by rw [hKe_1]; exact hR_1 (saw_2, i_2) hI0
      unfold internal_strconv_underscoreOK_l1 at hM
      refine HW.fr [(0, .string (bs s_1)), (2, .bool false), (3, .int .i32 saw_2), (4, .int .i64 i_2), (5, .bool hex_1)] ⟨e0, e2, e3, e4, e5, trivial⟩ ?_
      refine HW.seq ?_
      refine HW.seq ?_
      refine HW.region ?_
      refine HO.val (v := .int .i64 i_2) (want_none) rfl (q_move rfl) ?_
      refine HO.val (v := .string (bs s_1)) (want_none) rfl (q_move rfl) ?_
      refine HO.val (v := .int .i64 (s_1.length : Int)) (want_none) rfl (q_lenT Tryz.underlying9 rfl rfl) ?_
      refine HO.val (v := .bool (decide (i_2 < (s_1.length : Int)))) (want_none) rfl (q_lss rfl rfl) ?_
      refine HO.nil (thenQ_normal (?_))
      refine HW.cond (decide (i_2 < (s_1.length : Int))) rfl (fun c_9 => ?_) (fun c_9 => ?_)
      · replace hM := hM.1 (of_decide_eq_true c_9)
        refine HW.skip (thenQ_normal (?_))
        refine HW.seq ?_
        refine HW.block ?_
        refine HW.seq_mid (fun f h => ∃ (F' : Fz), f 0 = .string (bs s_1) ∧ f 2 = .bool false ∧ f 3 = .int .i32 saw_2 ∧ f 4 = .int .i64 i_2 ∧ f 5 = .bool hex_1 ∧ Kp F h0 F' h ∧ St F' (fr) h ∧ internal_strconv_underscoreOK_j4 Q s_1 saw_2 i_2 K_1) ?_ ?_
        · refine HW.seq ?_
          refine HW.region ?_
          refine HO.val (v := .string (bs s_1)) (want_none) rfl (q_move rfl) ?_
          refine HO.val (v := .int .i64 i_2) (want_none) rfl (q_move rfl) ?_
          obtain ⟨ho_7, hM⟩ := hM
          refine HO.val (v := .int .u8 ((gi s_1 i_2).toNat : Int)) (want_none) rfl (q_idxT Tryz.underlying9 rfl rfl ho_7) ?_
          refine HO.val (v := .bool (decide (48 ≤ ((gi s_1 i_2).toNat : Int)))) (want_none) rfl (q_leq rfl rfl) ?_
          refine HO.val (v := .bool (decide (48 ≤ ((gi s_1 i_2).toNat : Int)))) (want_none) rfl (q_move rfl) ?_
          rcases Bool.eq_false_or_eq_true (decide (48 ≤ ((gi s_1 i_2).toNat : Int))) with c_10 | c_10
          · replace hM := hM.1 (of_decide_eq_true c_10)
            refine HO.val (v := .string (bs s_1)) (want_by rfl rfl c_10) rfl (q_move rfl) ?_
            refine HO.val (v := .int .i64 i_2) (want_by rfl rfl c_10) rfl (q_move rfl) ?_
            refine HO.val (v := .int .u8 ((gi s_1 i_2).toNat : Int)) (want_by rfl rfl c_10) rfl (q_idxT Tryz.underlying9 rfl rfl ho_7) ?_
            refine HO.val (v := .bool (decide (((gi s_1 i_2).toNat : Int) ≤ 57))) (want_by rfl rfl c_10) rfl (q_leq rfl rfl) ?_
            refine HO.val (v := .bool (decide (((gi s_1 i_2).toNat : Int) ≤ 57))) (want_none) rfl (q_pickK true rfl c_10 rfl) ?_
            refine HO.val (v := .bool (decide (((gi s_1 i_2).toNat : Int) ≤ 57))) (want_none) rfl (q_move rfl) ?_
            rcases Bool.eq_false_or_eq_true (decide (((gi s_1 i_2).toNat : Int) ≤ 57)) with c_11 | c_11
            · replace hM := hM.1 (of_decide_eq_true c_11)
              refine HO.past (past_by rfl rfl c_11) rfl ?_
              refine HO.past (past_by rfl rfl c_11) rfl ?_
              refine HO.past (past_undef rfl rfl) rfl ?_
              refine HO.past (past_undef rfl rfl) rfl ?_
              refine HO.past (past_undef rfl rfl) rfl ?_
              refine HO.past (past_undef rfl rfl) rfl ?_
              refine HO.past (past_undef rfl rfl) rfl ?_
              refine HO.past (past_by rfl rfl c_11) rfl ?_
              refine HO.past (past_by rfl rfl c_11) rfl ?_
              refine HO.past (past_undef rfl rfl) rfl ?_
              refine HO.past (past_undef rfl rfl) rfl ?_
              refine HO.past (past_undef rfl rfl) rfl ?_
              refine HO.past (past_undef rfl rfl) rfl ?_
              refine HO.past (past_undef rfl rfl) rfl ?_
              refine HO.past (past_by rfl rfl c_11) rfl ?_
              refine HO.val (v := .bool true) (want_none) rfl (q_pickK true rfl c_11 rfl) ?_
              refine HO.nil (thenQ_normal (?_))
              refine HW.condT rfl ?_
              refine HW.seq ?_
              refine HW.region ?_
              refine HO.val (v := .int .i32 48) (want_none) rfl (q_assign rfl) ?_
              refine HO.nil (thenQ_normal (?_))
              refine HW.exit (thenQ_exit (blockQ_exit (thenQ_normal (?_))))
              refine HW.region ?_
              refine HO.val (v := .int .i64 i_2) (want_none) rfl (q_move rfl) ?_
              obtain ⟨ho_8, hM⟩ := hM
              refine HO.val (v := .int .i64 (i_2 + 1)) (want_none) rfl (q_addN _ rfl rfl rfl ho_8.1 ho_8.2) ?_
              refine HO.val (v := .int .i64 (i_2 + 1)) (want_none) rfl (q_assign rfl) ?_
              refine HO.nil (thenQ_normal (?_))
              rw [hKe_1] at hM
              exact ⟨(48, i_2 + 1), ⟨F_8, rfl, rfl, rfl, rfl, rfl, hK, hS, hM.1⟩, hM.2⟩
            · replace hM := hM.2 (of_decide_eq_false c_11)
              refine HO.val (v := .bool hex_1) (want_by rfl rfl c_11) rfl (q_move rfl) ?_
              refine HO.val (v := .bool hex_1) (want_by rfl rfl c_11) rfl (q_move rfl) ?_
              rcases Bool.eq_false_or_eq_true hex_1 with c_12 | c_12
              · replace hM := hM.1 c_12
                refine HO.val (v := .string (bs s_1)) (want_by rfl rfl c_12) rfl (q_move rfl) ?_
                refine HO.val (v := .int .i64 i_2) (want_by rfl rfl c_12) rfl (q_move rfl) ?_
                refine HO.val (v := .int .u8 ((gi s_1 i_2).toNat : Int)) (want_by rfl rfl c_12) rfl (q_idxT Tryz.underlying9 rfl rfl ho_7) ?_
                refine HO.call (want_by rfl rfl c_12) rfl (ec en_67 rfl rfl) (internal_strconv_lower_walk (fr := (fr)) ((gi s_1 i_2).toNat : Int) hS hM) ?_
                rintro _ h_9 ⟨F_9, r_6, rfl, hk, hS, hM⟩
                replace hK := hK.trans hk
                refine HO.val (v := .bool (decide (97 ≤ r_6))) (want_by rfl rfl c_12) rfl (q_leq rfl rfl) ?_
                refine HO.val (v := .bool (decide (97 ≤ r_6))) (want_by rfl rfl c_11) rfl (q_pickK true rfl c_12 rfl) ?_
                refine HO.val (v := .bool (decide (97 ≤ r_6))) (want_by rfl rfl c_11) rfl (q_move rfl) ?_
                rcases Bool.eq_false_or_eq_true (decide (97 ≤ r_6)) with c_13 | c_13
                · replace hM := hM.1 (of_decide_eq_true c_13)
                  refine HO.val (v := .string (bs s_1)) (want_by rfl rfl c_13) rfl (q_move rfl) ?_
                  refine HO.val (v := .int .i64 i_2) (want_by rfl rfl c_13) rfl (q_move rfl) ?_
                  refine HO.val (v := .int .u8 ((gi s_1 i_2).toNat : Int)) (want_by rfl rfl c_13) rfl (q_idxT Tryz.underlying9 rfl rfl ho_7) ?_
                  refine HO.call (want_by rfl rfl c_13) rfl (ec en_67 rfl rfl) (internal_strconv_lower_walk (fr := (fr)) ((gi s_1 i_2).toNat : Int) hS hM) ?_
                  rintro _ h_10 ⟨F_10, r_7, rfl, hk, hS, hM⟩
                  replace hK := hK.trans hk
                  refine HO.val (v := .bool (decide (r_7 ≤ 102))) (want_by rfl rfl c_13) rfl (q_leq rfl rfl) ?_
                  refine HO.val (v := .bool (decide (r_7 ≤ 102))) (want_by rfl rfl c_11) rfl (q_pickK true rfl c_13 rfl) ?_
                  refine HO.val (v := .bool (decide (r_7 ≤ 102))) (want_none) rfl (q_pickK false rfl c_11 rfl) ?_
                  refine HO.nil (thenQ_normal (?_))
                  refine HW.cond (decide (r_7 ≤ 102)) rfl (fun c_14 => ?_) (fun c_14 => ?_)
                  · replace hM := hM.1 (of_decide_eq_true c_14)
                    refine HW.seq ?_
                    refine HW.region ?_
                    refine HO.val (v := .int .i32 48) (want_none) rfl (q_assign rfl) ?_
                    refine HO.nil (thenQ_normal (?_))
                    refine HW.exit (thenQ_exit (blockQ_exit (thenQ_normal (?_))))
                    refine HW.region ?_
                    refine HO.val (v := .int .i64 i_2) (want_none) rfl (q_move rfl) ?_
                    obtain ⟨ho_9, hM⟩ := hM
                    refine HO.val (v := .int .i64 (i_2 + 1)) (want_none) rfl (q_addN _ rfl rfl rfl ho_9.1 ho_9.2) ?_
                    refine HO.val (v := .int .i64 (i_2 + 1)) (want_none) rfl (q_assign rfl) ?_
                    refine HO.nil (thenQ_normal (?_))
                    rw [hKe_1] at hM
                    exact ⟨(48, i_2 + 1), ⟨F_10, rfl, rfl, rfl, rfl, rfl, hK, hS, hM.1⟩, hM.2⟩
                  · replace hM := hM.2 (of_decide_eq_false c_14)
                    refine HW.skip (thenQ_normal (?_))
                    exact ⟨F_10, rfl, rfl, rfl, rfl, rfl, hK, hS, hM⟩
                · replace hM := hM.2 (of_decide_eq_false c_13)
                  refine HO.past (past_by rfl rfl c_13) rfl ?_
                  refine HO.past (past_by rfl rfl c_13) rfl ?_
                  refine HO.past (past_by rfl rfl c_13) rfl ?_
                  refine HO.past (past_by rfl rfl c_13) rfl ?_
                  refine HO.past (past_by rfl rfl c_13) rfl ?_
                  refine HO.val (v := .bool false) (want_by rfl rfl c_11) rfl (q_pickK false rfl c_13 rfl) ?_
                  refine HO.val (v := .bool false) (want_none) rfl (q_pickK false rfl c_11 rfl) ?_
                  refine HO.nil (thenQ_normal (?_))
                  refine HW.condF rfl ?_
                  refine HW.skip (thenQ_normal (?_))
                  exact ⟨F_9, rfl, rfl, rfl, rfl, rfl, hK, hS, hM⟩
              · replace hM := hM.2 c_12
                refine HO.past (past_by rfl rfl c_12) rfl ?_
                refine HO.past (past_by rfl rfl c_12) rfl ?_
                refine HO.past (past_by rfl rfl c_12) rfl ?_
                refine HO.past (past_by rfl rfl c_12) rfl ?_
                refine HO.past (past_by rfl rfl c_12) rfl ?_
                refine HO.val (v := .bool false) (want_by rfl rfl c_11) rfl (q_pickK false rfl c_12 rfl) ?_
                refine HO.val (v := .bool false) (want_by rfl rfl c_11) rfl (q_move rfl) ?_
                refine HO.past (past_some rfl rfl) rfl ?_
                refine HO.past (past_some rfl rfl) rfl ?_
                refine HO.past (past_some rfl rfl) rfl ?_
                refine HO.past (past_some rfl rfl) rfl ?_
                refine HO.past (past_some rfl rfl) rfl ?_
                refine HO.val (v := .bool false) (want_by rfl rfl c_11) rfl (q_pick rfl rfl) ?_
                refine HO.val (v := .bool false) (want_none) rfl (q_pickK false rfl c_11 rfl) ?_
                refine HO.nil (thenQ_normal (?_))
                refine HW.condF rfl ?_
                refine HW.skip (thenQ_normal (?_))
                exact ⟨F_8, rfl, rfl, rfl, rfl, rfl, hK, hS, hM⟩
          · replace hM := hM.2 (of_decide_eq_false c_10)
            refine HO.past (past_by rfl rfl c_10) rfl ?_
            refine HO.past (past_by rfl rfl c_10) rfl ?_
            refine HO.past (past_by rfl rfl c_10) rfl ?_
            refine HO.past (past_by rfl rfl c_10) rfl ?_
            refine HO.val (v := .bool false) (want_none) rfl (q_pickK false rfl c_10 rfl) ?_
            refine HO.val (v := .bool false) (want_none) rfl (q_move rfl) ?_
            refine HO.val (v := .bool hex_1) (want_some rfl rfl) rfl (q_move rfl) ?_
            refine HO.val (v := .bool hex_1) (want_some rfl rfl) rfl (q_move rfl) ?_
            rcases Bool.eq_false_or_eq_true hex_1 with c_15 | c_15
            · replace hM := hM.1 c_15
              refine HO.val (v := .string (bs s_1)) (want_by rfl rfl c_15) rfl (q_move rfl) ?_
              refine HO.val (v := .int .i64 i_2) (want_by rfl rfl c_15) rfl (q_move rfl) ?_
              refine HO.val (v := .int .u8 ((gi s_1 i_2).toNat : Int)) (want_by rfl rfl c_15) rfl (q_idxT Tryz.underlying9 rfl rfl ho_7) ?_
              refine HO.call (want_by rfl rfl c_15) rfl (ec en_67 rfl rfl) (internal_strconv_lower_walk (fr := (fr)) ((gi s_1 i_2).toNat : Int) hS hM) ?_
              rintro _ h_11 ⟨F_11, r_8, rfl, hk, hS, hM⟩
              replace hK := hK.trans hk
              refine HO.val (v := .bool (decide (97 ≤ r_8))) (want_by rfl rfl c_15) rfl (q_leq rfl rfl) ?_
              refine HO.val (v := .bool (decide (97 ≤ r_8))) (want_some rfl rfl) rfl (q_pickK true rfl c_15 rfl) ?_
              refine HO.val (v := .bool (decide (97 ≤ r_8))) (want_some rfl rfl) rfl (q_move rfl) ?_
              rcases Bool.eq_false_or_eq_true (decide (97 ≤ r_8)) with c_16 | c_16
              · replace hM := hM.1 (of_decide_eq_true c_16)
                refine HO.val (v := .string (bs s_1)) (want_by rfl rfl c_16) rfl (q_move rfl) ?_
                refine HO.val (v := .int .i64 i_2) (want_by rfl rfl c_16) rfl (q_move rfl) ?_
                refine HO.val (v := .int .u8 ((gi s_1 i_2).toNat : Int)) (want_by rfl rfl c_16) rfl (q_idxT Tryz.underlying9 rfl rfl ho_7) ?_
                refine HO.call (want_by rfl rfl c_16) rfl (ec en_67 rfl rfl) (internal_strconv_lower_walk (fr := (fr)) ((gi s_1 i_2).toNat : Int) hS hM) ?_
                rintro _ h_12 ⟨F_12, r_9, rfl, hk, hS, hM⟩
                replace hK := hK.trans hk
                refine HO.val (v := .bool (decide (r_9 ≤ 102))) (want_by rfl rfl c_16) rfl (q_leq rfl rfl) ?_
                refine HO.val (v := .bool (decide (r_9 ≤ 102))) (want_some rfl rfl) rfl (q_pickK true rfl c_16 rfl) ?_
                refine HO.val (v := .bool (decide (r_9 ≤ 102))) (want_none) rfl (q_pick rfl rfl) ?_
                refine HO.nil (thenQ_normal (?_))
                refine HW.cond (decide (r_9 ≤ 102)) rfl (fun c_17 => ?_) (fun c_17 => ?_)
                · replace hM := hM.1 (of_decide_eq_true c_17)
                  refine HW.seq ?_
                  refine HW.region ?_
                  refine HO.val (v := .int .i32 48) (want_none) rfl (q_assign rfl) ?_
                  refine HO.nil (thenQ_normal (?_))
                  refine HW.exit (thenQ_exit (blockQ_exit (thenQ_normal (?_))))
                  refine HW.region ?_
                  refine HO.val (v := .int .i64 i_2) (want_none) rfl (q_move rfl) ?_
                  obtain ⟨ho_10, hM⟩ := hM
                  refine HO.val (v := .int .i64 (i_2 + 1)) (want_none) rfl (q_addN _ rfl rfl rfl ho_10.1 ho_10.2) ?_
                  refine HO.val (v := .int .i64 (i_2 + 1)) (want_none) rfl (q_assign rfl) ?_
                  refine HO.nil (thenQ_normal (?_))
                  rw [hKe_1] at hM
                  exact ⟨(48, i_2 + 1), ⟨F_12, rfl, rfl, rfl, rfl, rfl, hK, hS, hM.1⟩, hM.2⟩
                · replace hM := hM.2 (of_decide_eq_false c_17)
                  refine HW.skip (thenQ_normal (?_))
                  exact ⟨F_12, rfl, rfl, rfl, rfl, rfl, hK, hS, hM⟩
              · replace hM := hM.2 (of_decide_eq_false c_16)
                refine HO.past (past_by rfl rfl c_16) rfl ?_
                refine HO.past (past_by rfl rfl c_16) rfl ?_
                refine HO.past (past_by rfl rfl c_16) rfl ?_
                refine HO.past (past_by rfl rfl c_16) rfl ?_
                refine HO.past (past_by rfl rfl c_16) rfl ?_
                refine HO.val (v := .bool false) (want_some rfl rfl) rfl (q_pickK false rfl c_16 rfl) ?_
                refine HO.val (v := .bool false) (want_none) rfl (q_pick rfl rfl) ?_
                refine HO.nil (thenQ_normal (?_))
                refine HW.condF rfl ?_
                refine HW.skip (thenQ_normal (?_))
                exact ⟨F_11, rfl, rfl, rfl, rfl, rfl, hK, hS, hM⟩
            · replace hM := hM.2 c_15
              refine HO.past (past_by rfl rfl c_15) rfl ?_
              refine HO.past (past_by rfl rfl c_15) rfl ?_
              refine HO.past (past_by rfl rfl c_15) rfl ?_
              refine HO.past (past_by rfl rfl c_15) rfl ?_
              refine HO.past (past_by rfl rfl c_15) rfl ?_
              refine HO.val (v := .bool false) (want_some rfl rfl) rfl (q_pickK false rfl c_15 rfl) ?_
              refine HO.val (v := .bool false) (want_some rfl rfl) rfl (q_move rfl) ?_
              refine HO.past (past_some rfl rfl) rfl ?_
              refine HO.past (past_some rfl rfl) rfl ?_
              refine HO.past (past_some rfl rfl) rfl ?_
              refine HO.past (past_some rfl rfl) rfl ?_
              refine HO.past (past_some rfl rfl) rfl ?_
              refine HO.val (v := .bool false) (want_some rfl rfl) rfl (q_pick rfl rfl) ?_
              refine HO.val (v := .bool false) (want_none) rfl (q_pick rfl rfl) ?_
              refine HO.nil (thenQ_normal (?_))
              refine HW.condF rfl ?_
              refine HW.skip (thenQ_normal (?_))
              exact ⟨F_8, rfl, rfl, rfl, rfl, rfl, hK, hS, hM⟩
        · rintro f_5 h_13 ⟨F_13, e0, e2, e3, e4, e5, hK, hS, hM⟩
          unfold internal_strconv_underscoreOK_j4 at hM
          refine HW.fr [(0, .string (bs s_1)), (2, .bool false), (3, .int .i32 saw_2), (4, .int .i64 i_2), (5, .bool hex_1)] ⟨e0, e2, e3, e4, e5, trivial⟩ ?_
          refine HW.seq ?_
          refine HW.seq ?_
          refine HW.region ?_
          refine HO.val (v := .string (bs s_1)) (want_none) rfl (q_move rfl) ?_
          refine HO.val (v := .int .i64 i_2) (want_none) rfl (q_move rfl) ?_
          obtain ⟨ho_11, hM⟩ := hM
          refine HO.val (v := .int .u8 ((gi s_1 i_2).toNat : Int)) (want_none) rfl (q_idxT Tryz.underlying9 rfl rfl ho_11) ?_
          refine HO.val (v := .bool (decide (((gi s_1 i_2).toNat : Int) = 95))) (want_none) rfl (q_eql rfl rfl) ?_
          refine HO.nil (thenQ_normal (?_))
          refine HW.cond (decide (((gi s_1 i_2).toNat : Int) = 95)) rfl (fun c_18 => ?_) (fun c_18 => ?_)
          · replace hM := hM.1 (of_decide_eq_true c_18)
            refine HW.seq ?_
            refine HW.seq ?_
            refine HW.region ?_
            refine HO.val (v := .int .i32 saw_2) (want_none) rfl (q_move rfl) ?_
            refine HO.val (v := .bool (!decide (saw_2 = 48))) (want_none) rfl (q_neq rfl rfl) ?_
            refine HO.nil (thenQ_normal (?_))
            refine HW.cond (!decide (saw_2 = 48)) rfl (fun c_19 => ?_) (fun c_19 => ?_)
            · replace hM := hM.1 (nd_true c_19)
              refine HW.seq ?_
              refine HW.region ?_
              refine HO.val (v := .bool false) (want_none) rfl (q_assign rfl) ?_
              refine HO.nil (thenQ_normal (?_))
              refine HW.ret (thenQ_ret (thenQ_ret (blockQ_ret (thenQ_ret (thenQ_ret (blockQ_ret (thenQ_ret (?_))))))))
              refine ⟨.inr rfl, .bool false, res1 rfl (rt rfl), ?_⟩
              exact ⟨F_13, false, rfl, hK, hS, hM⟩
            · replace hM := hM.2 (nd_false c_19)
              refine HW.skip (thenQ_normal (?_))
              refine HW.seq ?_
              refine HW.region ?_
              refine HO.val (v := .int .i32 95) (want_none) rfl (q_assign rfl) ?_
              refine HO.nil (thenQ_normal (?_))
              refine HW.exit (thenQ_exit (blockQ_exit (thenQ_normal (?_))))
              refine HW.region ?_
              refine HO.val (v := .int .i64 i_2) (want_none) rfl (q_move rfl) ?_
              obtain ⟨ho_12, hM⟩ := hM
              refine HO.val (v := .int .i64 (i_2 + 1)) (want_none) rfl (q_addN _ rfl rfl rfl ho_12.1 ho_12.2) ?_
              refine HO.val (v := .int .i64 (i_2 + 1)) (want_none) rfl (q_assign rfl) ?_
              refine HO.nil (thenQ_normal (?_))
              rw [hKe_1] at hM
              exact ⟨(95, i_2 + 1), ⟨F_13, rfl, rfl, rfl, rfl, rfl, hK, hS, hM.1⟩, hM.2⟩
          · replace hM := hM.2 (of_decide_eq_false c_18)
            refine HW.skip (thenQ_normal (?_))
            refine HW.seq ?_
            refine HW.seq ?_
            refine HW.region ?_
            refine HO.val (v := .int .i32 saw_2) (want_none) rfl (q_move rfl) ?_
            refine HO.val (v := .bool (decide (saw_2 = 95))) (want_none) rfl (q_eql rfl rfl) ?_
            refine HO.nil (thenQ_normal (?_))
            refine HW.cond (decide (saw_2 = 95)) rfl (fun c_20 => ?_) (fun c_20 => ?_)
            · replace hM := hM.1 (of_decide_eq_true c_20)
              refine HW.seq ?_
              refine HW.region ?_
              refine HO.val (v := .bool false) (want_none) rfl (q_assign rfl) ?_
              refine HO.nil (thenQ_normal (?_))
              refine HW.ret (thenQ_ret (blockQ_ret (thenQ_ret (thenQ_ret (blockQ_ret (thenQ_ret (?_)))))))
              refine ⟨.inr rfl, .bool false, res1 rfl (rt rfl), ?_⟩
              exact ⟨F_13, false, rfl, hK, hS, hM⟩
            · replace hM := hM.2 (of_decide_eq_false c_20)
              refine HW.skip (thenQ_normal (?_))
              refine HW.region ?_
              refine HO.val (v := .int .i32 33) (want_none) rfl (q_assign rfl) ?_
              refine HO.nil (blockQ_normal (thenQ_normal (?_)))
              refine HW.region ?_
              refine HO.val (v := .int .i64 i_2) (want_none) rfl (q_move rfl) ?_
              obtain ⟨ho_13, hM⟩ := hM
              refine HO.val (v := .int .i64 (i_2 + 1)) (want_none) rfl (q_addN _ rfl rfl rfl ho_13.1 ho_13.2) ?_
              refine HO.val (v := .int .i64 (i_2 + 1)) (want_none) rfl (q_assign rfl) ?_
              refine HO.nil (thenQ_normal (?_))
              rw [hKe_1] at hM
              exact ⟨(33, i_2 + 1), ⟨F_13, rfl, rfl, rfl, rfl, rfl, hK, hS, hM.1⟩, hM.2⟩
      · replace hM := hM.2 (of_decide_eq_false c_9)
        refine HW.exit (thenQ_exit (thenQ_exit (blockQ_exit (thenQ_normal (?_)))))
        refine HW.seq ?_
        refine HW.region ?_
        refine HO.val (v := .int .i32 saw_2) (want_none) rfl (q_move rfl) ?_
        refine HO.val (v := .bool (!decide (saw_2 = 95))) (want_none) rfl (q_neq rfl rfl) ?_
        refine HO.val (v := .bool (!decide (saw_2 = 95))) (want_none) rfl (q_assign rfl) ?_
        refine HO.nil (thenQ_normal (?_))
        refine HW.ret (?_)
        refine ⟨.inr rfl, .bool (!decide (saw_2 = 95)), res1 rfl (rt rfl), ?_⟩
        exact ⟨F_8, !decide (saw_2 = 95), rfl, hK, hS, hM⟩
end Go.Wk
