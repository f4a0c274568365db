/- Walks of texts of sets and filters. -/
import Derived.Test.YtlhcpndehikneaaGreatDoorStrs
import Derived.Test.YtlhcpndehikneaaGreatDoorTxt
import Derived.Test.YtlhcpndehikneaaGreatDoorNest
import Derived.Test.YtlhcpndehikneaaGreatDoorLayX
import Derived.Test.YtlhcpndehikneaaGreatDoorProg
set_option linter.unusedSimpArgs false
set_option linter.unusedVariables false
set_option linter.unusedSectionVars false
namespace Go.Wk
open Go.HL
open Go.Proofs hiding encI
variable [DM]
abbrev T_api_Addr := Bool × Ba 16
abbrev T_api_Filter := Bool × (Value × List T_api_Addr)
def tab10 (_ : Unit) : List Value := Lib.pow10Tab.map fun z => Value.int .u64 z
def tab64 : Ba 64 := mkB 64 [0, 1, 56, 2, 57, 49, 28, 3, 61, 58, 42, 50, 38, 29, 17, 4, 62, 47, 59, 36, 45, 43, 51, 22, 53, 39, 33, 30, 24, 18, 12, 5, 63, 55, 48, 27, 60, 41, 37, 16, 46, 35, 44, 21, 52, 32, 23, 11, 54, 26, 40, 15, 34, 20, 31, 10, 25, 14, 19, 9, 13, 8, 7, 6]
def e_api_Addr (x : T_api_Addr) : List Value := [.bool x.1, .int .u8 (b8 x.2 0), .int .u8 (b8 x.2 1), .int .u8 (b8 x.2 2), .int .u8 (b8 x.2 3), .int .u8 (b8 x.2 4), .int .u8 (b8 x.2 5), .int .u8 (b8 x.2 6), .int .u8 (b8 x.2 7), .int .u8 (b8 x.2 8), .int .u8 (b8 x.2 9), .int .u8 (b8 x.2 10), .int .u8 (b8 x.2 11), .int .u8 (b8 x.2 12), .int .u8 (b8 x.2 13), .int .u8 (b8 x.2 14), .int .u8 (b8 x.2 15)]
def e_api_Filter (x : T_api_Filter) : List Value := [.bool x.1, x.2.1]
def nf_api_Filter : Nf T_api_Filter := ((Nf.sl 17 e_api_Addr).on fun x : T_api_Filter => x.2)
theorem one_e_api_Addr (x : T_api_Addr) : ∀ v ∈ e_api_Addr x, v.oneCell' = true := by intro v hv; simp [e_api_Addr] at hv; rcases hv with rfl | rfl | rfl | rfl | rfl | rfl | rfl | rfl | rfl | rfl | rfl | rfl | rfl | rfl | rfl | rfl | rfl <;> rfl
theorem tz_44 : TZero Tryz.prog 44 (.agg #[.bool false, .int .u8 0, .int .u8 0, .int .u8 0, .int .u8 0, .int .u8 0, .int .u8 0, .int .u8 0, .int .u8 0, .int .u8 0, .int .u8 0, .int .u8 0, .int .u8 0, .int .u8 0, .int .u8 0, .int .u8 0, .int .u8 0]) := Tryz.zeroValue44
theorem ts_22 : TSlice Tryz.prog 22 44 17 := ⟨Tryz.underlying22, Tryz.sizeOf44⟩
theorem tl_22 : TLit Tryz.prog 22 44 17 #[.bool false, .int .u8 0, .int .u8 0, .int .u8 0, .int .u8 0, .int .u8 0, .int .u8 0, .int .u8 0, .int .u8 0, .int .u8 0, .int .u8 0, .int .u8 0, .int .u8 0, .int .u8 0, .int .u8 0, .int .u8 0, .int .u8 0] := tlit ts_22 tz_44 rfl
theorem ta_44 : TAgg Tryz.prog 44 17 := ⟨Tryz.isAgg44, Tryz.sizeOf44⟩
theorem te_22 : TElem Tryz.prog 22 44 17 17 := ⟨Tryz.underlying22, ⟨Tryz.t44, .agg #[.bool false, .int .u8 0, .int .u8 0, .int .u8 0, .int .u8 0, .int .u8 0, .int .u8 0, .int .u8 0, .int .u8 0, .int .u8 0, .int .u8 0, .int .u8 0, .int .u8 0, .int .u8 0, .int .u8 0, .int .u8 0, .int .u8 0], by kernel_rfl, by kernel_rfl, by kernel_rfl, by kernel_rfl, by kernel_rfl⟩, by decide⟩
theorem mixed : Tryz.prog.follows .mixedOrders = true := by kernel_rfl
theorem to_5 : TOne Tryz.prog 5 := ⟨Tryz.isAgg5, Tryz.sizeOf5⟩
theorem tr_42 : TArr Tryz.prog 42 16 5 := ⟨Tryz.underlying42, to_5, Tryz.underlying5, ⟨Tryz.t5, by kernel_rfl⟩, by kernel_rfl⟩
theorem teq_42 (d : Nat) (a b : Ba 16) (w : World) : (Op.equalIn (d + 2) 42 (.agg (arrCells a).toArray) (.agg (arrCells b).toArray)).run Tryz.prog w = .ok (decide (a = b)) w := teqArr tr_42 d a b w
set_option maxRecDepth 100000 in
theorem teq_44 (d : Nat) (a b : T_api_Addr) (w : World) : (Op.equalIn (d + 3) 44 (.agg (e_api_Addr a).toArray) (.agg (e_api_Addr b).toArray)).run Tryz.prog w = .ok (decide (a = b)) w := by
  refine (eqs w (d + 2) 44 _ _ Tryz.underlying44 (by kernel_rfl) (eqf_cons w (a := .bool a.1) (b := .bool b.1) (by decide) (by kernel_rfl) (by kernel_rfl) (run_equalIn_bool' w _ _ _ _ Tryz.underlying4) (eqf_cons w (a := .agg (arrCells a.2).toArray) (b := .agg (arrCells b.2).toArray) (by decide) (by kernel_rfl) (by kernel_rfl) (teq_42 (d + 0) _ _ w) (eqf_nil w)))).trans ?_
  congr 1; rw [Bool.eq_iff_iff]; simp [Prod.ext_iff]
theorem fa_44_0 : FieldAt Tryz.prog 44 0 0 := fun a w => by kernel_rfl
theorem to_4 : TOne Tryz.prog 4 := ⟨Tryz.isAgg4, Tryz.sizeOf4⟩
theorem fa_44_1 : FieldAt Tryz.prog 44 1 1 := fun a w => by kernel_rfl
theorem en_33 (args : Array Value) (w : World) : (callFunc 33 args).run Tryz.prog w = .ok (.enter 33 args) w := by kernel_rfl
theorem en_34 (args : Array Value) (w : World) : (callFunc 34 args).run Tryz.prog w = .ok (.enter 34 args) w := by kernel_rfl
theorem en_35 (args : Array Value) (w : World) : (callFunc 35 args).run Tryz.prog w = .ok (.enter 35 args) w := by kernel_rfl
theorem en_19 (args : Array Value) (w : World) : (callFunc 19 args).run Tryz.prog w = .ok (.enter 19 args) w := by kernel_rfl
theorem tz_34 : TZero Tryz.prog 34 (.agg #[.bool false, .slice none 0 0]) := Tryz.zeroValue34
theorem fa_34_0 : FieldAt Tryz.prog 34 0 0 := fun a w => by kernel_rfl
theorem fa_34_1 : FieldAt Tryz.prog 34 1 1 := fun a w => by kernel_rfl
theorem to_22 : TOne Tryz.prog 22 := ⟨Tryz.isAgg22, Tryz.sizeOf22⟩
theorem en_6 (args : Array Value) (w : World) : (callFunc 6 args).run Tryz.prog w = .ok (.enter 6 args) w := by kernel_rfl
theorem tp_34 : TPlaces Tryz.prog 34 #[(0, 1), (1, 1)] #[.bool false, .slice none 0 0] := tplaces Tryz.runUnderlying34 Tryz.zeroValue34 rfl (fun w => by kernel_rfl)
theorem ta_34 : TAgg Tryz.prog 34 2 := ⟨Tryz.isAgg34, Tryz.sizeOf34⟩
theorem en_7 (args : Array Value) (w : World) : (callFunc 7 args).run Tryz.prog w = .ok (.enter 7 args) w := by kernel_rfl
theorem en_28 (args : Array Value) (w : World) : (callFunc 28 args).run Tryz.prog w = .ok (.enter 28 args) w := by kernel_rfl
theorem en_68 (args : Array Value) (w : World) : (callFunc 68 args).run Tryz.prog w = .ok (.enter 68 args) w := by kernel_rfl
theorem en_44 (args : Array Value) (w : World) : (callFunc 44 args).run Tryz.prog w = .ok (.enter 44 args) w := by kernel_rfl
theorem en_23 (args : Array Value) (w : World) : (callFunc 23 args).run Tryz.prog w = .ok (.enter 23 args) w := by kernel_rfl
theorem en_9 (args : Array Value) (w : World) : (callFunc 9 args).run Tryz.prog w = .ok (.enter 9 args) w := by kernel_rfl
theorem en_110 (args : Array Value) (w : World) : (callFunc 110 args).run Tryz.prog w = .ok (.enter 110 args) w := by kernel_rfl
theorem ts_79 : TSlice Tryz.prog 79 5 1 := ⟨Tryz.underlying79, Tryz.sizeOf5⟩
theorem en_111 (args : Array Value) (w : World) : (callFunc 111 args).run Tryz.prog w = .ok (.enter 111 args) w := by kernel_rfl
theorem en_82 (args : Array Value) (w : World) : (callFunc 82 args).run Tryz.prog w = .ok (.enter 82 args) w := by kernel_rfl
theorem en_83 (args : Array Value) (w : World) : (callFunc 83 args).run Tryz.prog w = .ok (.enter 83 args) w := by kernel_rfl
theorem en_116 (args : Array Value) (w : World) : (callFunc 116 args).run Tryz.prog w = .ok (.enter 116 args) w := by kernel_rfl
theorem tz_5 : TZero Tryz.prog 5 (.int .u8 0) := Tryz.zeroValue5
theorem te_79 : TElem Tryz.prog 79 5 1 1 := ⟨Tryz.underlying79, ⟨Tryz.t5, .int .u8 0, by kernel_rfl, by kernel_rfl, by kernel_rfl, by kernel_rfl, by kernel_rfl⟩, by decide⟩
theorem en_84 (args : Array Value) (w : World) : (callFunc 84 args).run Tryz.prog w = .ok (.enter 84 args) w := by kernel_rfl
theorem en_20 (args : Array Value) (w : World) : (callFunc 20 args).run Tryz.prog w = .ok (.enter 20 args) w := by kernel_rfl
theorem ts_45 : TSlice Tryz.prog 45 9 1 := ⟨Tryz.underlying45, Tryz.sizeOf9⟩
theorem to_9 : TOne Tryz.prog 9 := ⟨Tryz.isAgg9, Tryz.sizeOf9⟩
theorem en_61 (args : Array Value) (w : World) : (callFunc 61 args).run Tryz.prog w = .ok (.enter 61 args) w := by kernel_rfl
theorem en_62 (args : Array Value) (w : World) : (callFunc 62 args).run Tryz.prog w = .ok (.enter 62 args) w := by kernel_rfl
theorem en_29 (args : Array Value) (w : World) : (callFunc 29 args).run Tryz.prog w = .ok (.enter 29 args) w := by kernel_rfl
theorem en_37 (args : Array Value) (w : World) : (callFunc 37 args).run Tryz.prog w = .ok (.enter 37 args) w := by kernel_rfl
theorem en_63 (args : Array Value) (w : World) : (callFunc 63 args).run Tryz.prog w = .ok (.enter 63 args) w := by kernel_rfl
theorem en_89 (args : Array Value) (w : World) : (callFunc 89 args).run Tryz.prog w = .ok (.enter 89 args) w := by kernel_rfl
theorem tr_164 : TArr Tryz.prog 164 64 5 := ⟨Tryz.underlying164, to_5, Tryz.underlying5, ⟨Tryz.t5, by kernel_rfl⟩, by kernel_rfl⟩
theorem en_143 (args : Array Value) (w : World) : (callFunc 143 args).run Tryz.prog w = .ok (.enter 143 args) w := by kernel_rfl
theorem tz_161 : TZero Tryz.prog 161 (.agg #[.int .u8 0, .int .u8 0, .int .u8 0, .int .u8 0, .int .u8 0, .int .u8 0, .int .u8 0, .int .u8 0, .int .u8 0, .int .u8 0, .int .u8 0, .int .u8 0, .int .u8 0, .int .u8 0, .int .u8 0, .int .u8 0, .int .u8 0, .int .u8 0, .int .u8 0, .int .u8 0, .int .u8 0, .int .u8 0, .int .u8 0, .int .u8 0, .int .u8 0, .int .u8 0, .int .u8 0, .int .u8 0, .int .u8 0, .int .u8 0, .int .u8 0, .int .u8 0, .int .u8 0, .int .u8 0, .int .u8 0, .int .u8 0, .int .u8 0, .int .u8 0, .int .u8 0, .int .u8 0, .int .u8 0, .int .u8 0, .int .u8 0, .int .u8 0, .int .u8 0, .int .u8 0, .int .u8 0, .int .u8 0, .int .u8 0, .int .u8 0, .int .u8 0, .int .u8 0, .int .u8 0, .int .u8 0, .int .u8 0, .int .u8 0, .int .u8 0, .int .u8 0, .int .u8 0, .int .u8 0, .int .u8 0, .int .u8 0, .int .u8 0, .int .u8 0, .int .u8 0]) := Tryz.zeroValue161
theorem en_140 (args : Array Value) (w : World) : (callFunc 140 args).run Tryz.prog w = .ok (.enter 140 args) w := by kernel_rfl
theorem en_141 (args : Array Value) (w : World) : (callFunc 141 args).run Tryz.prog w = .ok (.enter 141 args) w := by kernel_rfl
theorem tr_161 : TArr Tryz.prog 161 65 5 := ⟨Tryz.underlying161, to_5, Tryz.underlying5, ⟨Tryz.t5, by kernel_rfl⟩, by kernel_rfl⟩
theorem en_133 (args : Array Value) (w : World) : (callFunc 133 args).run Tryz.prog w = .ok (.enter 133 args) w := by kernel_rfl
theorem tz_150 : TZero Tryz.prog 150 (.agg #[.int .u8 0, .int .u8 0, .int .u8 0, .int .u8 0, .int .u8 0, .int .u8 0, .int .u8 0, .int .u8 0, .int .u8 0, .int .u8 0, .int .u8 0, .int .u8 0, .int .u8 0, .int .u8 0, .int .u8 0, .int .u8 0, .int .u8 0, .int .u8 0, .int .u8 0, .int .u8 0, .int .u8 0, .int .u8 0, .int .u8 0, .int .u8 0]) := Tryz.zeroValue150
theorem en_136 (args : Array Value) (w : World) : (callFunc 136 args).run Tryz.prog w = .ok (.enter 136 args) w := by kernel_rfl
theorem en_121 (args : Array Value) (w : World) : (callFunc 121 args).run Tryz.prog w = .ok (.enter 121 args) w := by kernel_rfl
theorem en_90 (args : Array Value) (w : World) : (callFunc 90 args).run Tryz.prog w = .ok (.enter 90 args) w := by kernel_rfl
theorem tz_9 : TZero Tryz.prog 9 (.string (bs [])) := Tryz.zeroValue9
theorem tl_45 : TLit Tryz.prog 45 9 1 #[.string (bs [])] := tlit ts_45 tz_9 rfl
theorem te_45 : TElem Tryz.prog 45 9 1 16 := ⟨Tryz.underlying45, ⟨Tryz.t9, .string (bs []), by kernel_rfl, by kernel_rfl, by kernel_rfl, by kernel_rfl, by kernel_rfl⟩, by decide⟩
theorem en_46 (args : Array Value) (w : World) : (callFunc 46 args).run Tryz.prog w = .ok (.enter 46 args) w := by kernel_rfl
theorem en_64 (args : Array Value) (w : World) : (callFunc 64 args).run Tryz.prog w = .ok (.enter 64 args) w := by kernel_rfl
theorem en_65 (args : Array Value) (w : World) : (callFunc 65 args).run Tryz.prog w = .ok (.enter 65 args) w := by kernel_rfl
theorem en_66 (args : Array Value) (w : World) : (callFunc 66 args).run Tryz.prog w = .ok (.enter 66 args) w := by kernel_rfl
theorem en_38 (args : Array Value) (w : World) : (callFunc 38 args).run Tryz.prog w = .ok (.enter 38 args) w := by kernel_rfl
theorem en_39 (args : Array Value) (w : World) : (callFunc 39 args).run Tryz.prog w = .ok (.enter 39 args) w := by kernel_rfl
theorem en_40 (args : Array Value) (w : World) : (callFunc 40 args).run Tryz.prog w = .ok (.enter 40 args) w := by kernel_rfl
theorem en_41 (args : Array Value) (w : World) : (callFunc 41 args).run Tryz.prog w = .ok (.enter 41 args) w := by kernel_rfl
theorem tp_44 : TPlaces Tryz.prog 44 #[(0, 1), (1, 16)] #[.bool false, .int .u8 0, .int .u8 0, .int .u8 0, .int .u8 0, .int .u8 0, .int .u8 0, .int .u8 0, .int .u8 0, .int .u8 0, .int .u8 0, .int .u8 0, .int .u8 0, .int .u8 0, .int .u8 0, .int .u8 0, .int .u8 0] := tplaces Tryz.runUnderlying44 Tryz.zeroValue44 rfl (fun w => by kernel_rfl)
theorem en_43 (args : Array Value) (w : World) : (callFunc 43 args).run Tryz.prog w = .ok (.enter 43 args) w := by kernel_rfl
theorem en_42 (args : Array Value) (w : World) : (callFunc 42 args).run Tryz.prog w = .ok (.enter 42 args) w := by kernel_rfl
theorem en_21 (args : Array Value) (w : World) : (callFunc 21 args).run Tryz.prog w = .ok (.enter 21 args) w := by kernel_rfl
theorem en_22 (args : Array Value) (w : World) : (callFunc 22 args).run Tryz.prog w = .ok (.enter 22 args) w := by kernel_rfl
theorem en_45 (args : Array Value) (w : World) : (callFunc 45 args).run Tryz.prog w = .ok (.enter 45 args) w := by kernel_rfl
theorem en_24 (args : Array Value) (w : World) : (callFunc 24 args).run Tryz.prog w = .ok (.enter 24 args) w := by kernel_rfl
theorem en_10 (args : Array Value) (w : World) : (callFunc 10 args).run Tryz.prog w = .ok (.enter 10 args) w := by kernel_rfl
theorem en_8 (args : Array Value) (w : World) : (callFunc 8 args).run Tryz.prog w = .ok (.enter 8 args) w := by kernel_rfl
theorem en_30 (args : Array Value) (w : World) : (callFunc 30 args).run Tryz.prog w = .ok (.enter 30 args) w := by kernel_rfl
theorem en_11 (args : Array Value) (w : World) : (callFunc 11 args).run Tryz.prog w = .ok (.enter 11 args) w := by kernel_rfl
theorem tz_42 : TZero Tryz.prog 42 (.agg #[.int .u8 0, .int .u8 0, .int .u8 0, .int .u8 0, .int .u8 0, .int .u8 0, .int .u8 0, .int .u8 0, .int .u8 0, .int .u8 0, .int .u8 0, .int .u8 0, .int .u8 0, .int .u8 0, .int .u8 0, .int .u8 0]) := Tryz.zeroValue42
theorem tb_42 : TBuildA Tryz.prog 42 #[.int .u8 0, .int .u8 0, .int .u8 0, .int .u8 0, .int .u8 0, .int .u8 0, .int .u8 0, .int .u8 0, .int .u8 0, .int .u8 0, .int .u8 0, .int .u8 0, .int .u8 0, .int .u8 0, .int .u8 0, .int .u8 0] := tbuildA tr_42 tz_42 rfl
theorem tz_22 : TZero Tryz.prog 22 (.slice none 0 0) := Tryz.zeroValue22
theorem en_108 (args : Array Value) (w : World) : (callFunc 108 args).run Tryz.prog w = .ok (.enter 108 args) w := by kernel_rfl
theorem en_77 (args : Array Value) (w : World) : (callFunc 77 args).run Tryz.prog w = .ok (.enter 77 args) w := by kernel_rfl
theorem en_78 (args : Array Value) (w : World) : (callFunc 78 args).run Tryz.prog w = .ok (.enter 78 args) w := by kernel_rfl
theorem nfm_api_Filter {F : Fz} {h : Heap} (x : T_api_Filter) (s0 : SliceF F h 17 e_api_Addr x.2.1 x.2.2) : (nf_api_Filter).p F h x := s0
theorem nff_api_Filter_1 {F : Fz} {h : Heap} {x : T_api_Filter} (s : (nf_api_Filter).p F h x) : SliceF F h 17 e_api_Addr x.2.1 x.2.2 := s
theorem nfi_api_Filter_1 {h : Heap} {x : T_api_Filter} (s : (nf_api_Filter).q h x) : SliceIs h 17 e_api_Addr x.2.1 x.2.2 := s
theorem nfo_api_Filter {h : Heap} {x : T_api_Filter} (s : (nf_api_Filter).q h x) : ∀ u ∈ e_api_Filter x, u.oneCell' = true := by
  intro u hu; simp [e_api_Filter] at hu; rcases hu with rfl | rfl
  · rfl
  · exact (shp (nfi_api_Filter_1 s)).one
theorem ts_70 : TSlice Tryz.prog 70 34 2 := ⟨Tryz.underlying70, Tryz.sizeOf34⟩
theorem en_55 (args : Array Value) (w : World) : (callFunc 55 args).run Tryz.prog w = .ok (.enter 55 args) w := by kernel_rfl
theorem en_56 (args : Array Value) (w : World) : (callFunc 56 args).run Tryz.prog w = .ok (.enter 56 args) w := by kernel_rfl
theorem en_57 (args : Array Value) (w : World) : (callFunc 57 args).run Tryz.prog w = .ok (.enter 57 args) w := by kernel_rfl
theorem en_32 (args : Array Value) (w : World) : (callFunc 32 args).run Tryz.prog w = .ok (.enter 32 args) w := by kernel_rfl
theorem tl_70 : TLit Tryz.prog 70 34 2 #[.bool false, .slice none 0 0] := tlit ts_70 tz_34 rfl
theorem en_31 (args : Array Value) (w : World) : (callFunc 31 args).run Tryz.prog w = .ok (.enter 31 args) w := by kernel_rfl
theorem en_16 (args : Array Value) (w : World) : (callFunc 16 args).run Tryz.prog w = .ok (.enter 16 args) w := by kernel_rfl
theorem en_13 (args : Array Value) (w : World) : (callFunc 13 args).run Tryz.prog w = .ok (.enter 13 args) w := by kernel_rfl
theorem en_5 (args : Array Value) (w : World) : (callFunc 5 args).run Tryz.prog w = .ok (.enter 5 args) w := by kernel_rfl
theorem en_15 (args : Array Value) (w : World) : (callFunc 15 args).run Tryz.prog w = .ok (.enter 15 args) w := by kernel_rfl
theorem en_14 (args : Array Value) (w : World) : (callFunc 14 args).run Tryz.prog w = .ok (.enter 14 args) w := by kernel_rfl
theorem en_17 (args : Array Value) (w : World) : (callFunc 17 args).run Tryz.prog w = .ok (.enter 17 args) w := by kernel_rfl
theorem en_18 (args : Array Value) (w : World) : (callFunc 18 args).run Tryz.prog w = .ok (.enter 18 args) w := by kernel_rfl
def law08_Addrs_j1 (l : List T_api_Addr) (Q : (List T_api_Addr) → Prop) (out_1 : List T_api_Addr) (i_1 : Int) (K_1 : (List T_api_Addr) → Int → Prop) (b_2 : Bool) : Prop :=
  (b_2 = true → ((0 : Int) ≤ i_1 ∧ i_1 < (l.length : Int)) ∧ (((out_1.length + ([(gi l i_1)] : List T_api_Addr).length) * 17 ≤ 140737488355328) ∧ ((I64 (i_1 + 1)) ∧ (K_1 (out_1 ++ ([(gi l i_1)] : List T_api_Addr)) (i_1 + 1))))) ∧ (b_2 = false → Q out_1)
def law08_Addrs_l1 (l : List T_api_Addr) (most : Int) (Q : (List T_api_Addr) → Prop) (K_1 : (List T_api_Addr) → Int → Prop) (out_1 : List T_api_Addr) (i_1 : Int) : Prop :=
  (i_1 < (l.length : Int) → law08_Addrs_j1 l Q out_1 i_1 K_1 (decide (i_1 < most))) ∧ (¬ (i_1 < (l.length : Int)) → law08_Addrs_j1 l Q out_1 i_1 K_1 false)
def law08_Addrs_W (l : List T_api_Addr) (most : Int) (Q : (List T_api_Addr) → Prop) : Prop :=
  loopW (fun (K_1 : (List T_api_Addr × Int) → Prop) (s : List T_api_Addr × Int) => law08_Addrs_l1 l most Q (fun out_1 i_1 => K_1 (out_1, i_1)) s.1 s.2) ([], 0)
set_option maxHeartbeats 40000000 in
set_option maxRecDepth 100000 in
theorem law08_Addrs_walk {F : Fz} {fr : List Ow} {h0 : Heap} (l : List T_api_Addr) (most : Int) (vl : Value) (hS : St F (fr) h0) (hL_l : SliceF F h0 17 e_api_Addr vl l) {Q : (List T_api_Addr) → Prop} (hM : law08_Addrs_W l most Q) :
    HC Tryz.prog 7 #[vl, .int .i64 most] h0 fun u h' => ∃ (F' : Fz) (r_1 : List T_api_Addr) (vr_1 : Value), u = vr_1 ∧ Kp F h0 F' h' ∧ St F' (Ow.own 44 17 e_api_Addr vr_1 r_1 :: fr) h' ∧ (SliceF F' h' 17 e_api_Addr vl l) ∧ Q r_1 := by
  unfold law08_Addrs_W at hM
  have hK := Kp.refl F h0
  refine HC.of_HW (n := 27) Tryz.func7 rfl rfl (Nat.le_of_ble_eq_true rfl) ?_
  refine HW.seq ?_
  refine HW.region ?_
  refine HO.val (v := .slice none 0 0) (want_none) rfl (q_assign rfl) ?_
  refine HO.nil (thenQ_normal (?_))
  refine HW.seq ?_
  refine HW.region ?_
  refine HO.eff (want_none) rfl (st_litEmpty (α := T_api_Addr) e_api_Addr hS tl_22) ?_
  rintro _ h_1 ⟨b_1, rfl, hS, hk⟩
  replace hK := hK.trans hk
  replace hL_l := hL_l.kp hk
  refine HO.val (v := .slice (some ⟨b_1, 0, none⟩) 0 0) (want_none) rfl (q_assign rfl) ?_
  refine HO.nil (thenQ_normal (?_))
  refine HW.seq ?_
  refine HW.seq ?_
  refine HW.region ?_
  refine HO.val (v := .int .i64 0) (want_none) rfl (q_assign rfl) ?_
  refine HO.nil (thenQ_normal (?_))
  refine HW.block ?_
  obtain ⟨I_1, m_1, hI_1, hR_1⟩ := hM
  refine HW.loop (S := List T_api_Addr × Int) (fun s f h => match s with | (out_1, i_1) => ∃ (F' : Fz) (vout_1 : Value), f 0 = vl ∧ f 1 = .int .i64 most ∧ f 4 = .slice none 0 0 ∧ f 5 = vout_1 ∧ f 6 = .int .i64 i_1 ∧ Kp F h0 F' h ∧ St F' (Ow.own 44 17 e_api_Addr vout_1 out_1 :: fr) h ∧ (SliceF F' h 17 e_api_Addr vl l) ∧ I_1 (out_1, i_1)) m_1 ([], 0) ⟨F, .slice (some ⟨b_1, 0, none⟩) 0 0, rfl, rfl, rfl, rfl, rfl, hK, hS, hL_l, hI_1⟩ ?_
  rintro ⟨out_1, i_1⟩ f_1 h_2 ⟨F_1, vout_1, e0, e1, e4, e5, e6, hK, hS, hL_l, hI0⟩
  obtain ⟨K_1, hKe_1⟩ : ∃ K : (List T_api_Addr) → Int → Prop, K = fun out_1' i_1' => I_1 (out_1', i_1') ∧ m_1 (out_1', i_1') < m_1 (out_1, i_1) := ⟨_, rfl⟩
  have hM : law08_Addrs_l1 l most Q K_1 out_1 i_1 := by rw [hKe_1]; exact hR_1 (out_1, i_1) hI0
  unfold law08_Addrs_l1 at hM
  refine HW.fr [(0, vl), (1, .int .i64 most), (4, .slice none 0 0), (5, vout_1), (6, .int .i64 i_1)] ⟨e0, e1, e4, e5, e6, trivial⟩ ?_
  refine HW.seq ?_
  refine HW.seq_mid (fun f h => ∃ (F' : Fz) (b_2 : Bool), f 0 = vl ∧ f 1 = .int .i64 most ∧ f 4 = .slice none 0 0 ∧ f 5 = vout_1 ∧ f 6 = .int .i64 i_1 ∧ f 16 = .bool b_2 ∧ Kp F h0 F' h ∧ St F' (Ow.own 44 17 e_api_Addr vout_1 out_1 :: fr) h ∧ (SliceF F' h 17 e_api_Addr vl l) ∧ law08_Addrs_j1 l Q out_1 i_1 K_1 b_2) ?_ ?_
  · refine HW.region ?_
    refine HO.val (v := .int .i64 i_1) (want_none) rfl (q_move rfl) ?_
    refine HO.val (v := vl) (want_none) rfl (q_move rfl) ?_
    refine HO.val (v := .int .i64 (l.length : Int)) (want_none) rfl (q_len ts_22 (shp hL_l.is) rfl rfl) ?_
    refine HO.val (v := .bool (decide (i_1 < (l.length : Int)))) (want_none) rfl (q_lss rfl rfl) ?_
    refine HO.val (v := .bool (decide (i_1 < (l.length : Int)))) (want_none) rfl (q_move rfl) ?_
    rcases Bool.eq_false_or_eq_true (decide (i_1 < (l.length : Int))) with c_1 | c_1
    · replace hM := hM.1 (of_decide_eq_true c_1)
      refine HO.val (v := .int .i64 i_1) (want_by rfl rfl c_1) rfl (q_move rfl) ?_
      refine HO.val (v := .int .i64 most) (want_by rfl rfl c_1) rfl (q_move rfl) ?_
      refine HO.val (v := .bool (decide (i_1 < most))) (want_by rfl rfl c_1) rfl (q_lss rfl rfl) ?_
      refine HO.val (v := .bool (decide (i_1 < most))) (want_none) rfl (q_pickK true rfl c_1 rfl) ?_
      refine HO.nil (thenQ_normal (?_))
      exact ⟨F_1, decide (i_1 < most), rfl, rfl, rfl, rfl, rfl, rfl, hK, hS, hL_l, hM⟩
    · replace hM := hM.2 (of_decide_eq_false c_1)
      refine HO.past (past_by rfl rfl c_1) rfl ?_
      refine HO.past (past_by rfl rfl c_1) rfl ?_
      refine HO.past (past_by rfl rfl c_1) rfl ?_
      refine HO.val (v := .bool false) (want_none) rfl (q_pickK false rfl c_1 rfl) ?_
      refine HO.nil (thenQ_normal (?_))
      exact ⟨F_1, false, rfl, rfl, rfl, rfl, rfl, rfl, hK, hS, hL_l, hM⟩
  · rintro f_2 h_3 ⟨F_2, b_2, e0, e1, e4, e5, e6, e16, hK, hS, hL_l, hM⟩
    unfold law08_Addrs_j1 at hM
    refine HW.fr [(0, vl), (1, .int .i64 most), (4, .slice none 0 0), (5, vout_1), (6, .int .i64 i_1), (16, .bool b_2)] ⟨e0, e1, e4, e5, e6, e16, trivial⟩ ?_
    refine HW.cond b_2 rfl (fun c_2 => ?_) (fun c_2 => ?_)
    · replace hM := hM.1 c_2
      refine HW.skip (thenQ_normal (?_))
      refine HW.seq ?_
      refine HW.block ?_
      refine HW.region ?_
      refine HO.val (v := vout_1) (want_none) rfl (q_move rfl) ?_
      refine HO.val (v := vl) (want_none) rfl (q_move rfl) ?_
      refine HO.val (v := .int .i64 i_1) (want_none) rfl (q_move rfl) ?_
      obtain ⟨ho_1, hM⟩ := hM
      refine HO.val (v := elemPtr 17 vl (i_1).toNat) (want_none) rfl (q_idx ts_22 hL_l.is rfl rfl ho_1) ?_
      refine HO.val (v := .agg (e_api_Addr (gi l i_1)).toArray) (want_none) rfl (q_ldElemAgg (cs := (e_api_Addr (gi l i_1))) ta_44 hL_l.is rfl ho_1 rfl) ?_
      refine HO.eff (want_none) rfl (st_lit (enc := e_api_Addr) (cells := #[.bool ((gi l i_1).1), .int .u8 (b8 ((gi l i_1).2) 0), .int .u8 (b8 ((gi l i_1).2) 1), .int .u8 (b8 ((gi l i_1).2) 2), .int .u8 (b8 ((gi l i_1).2) 3), .int .u8 (b8 ((gi l i_1).2) 4), .int .u8 (b8 ((gi l i_1).2) 5), .int .u8 (b8 ((gi l i_1).2) 6), .int .u8 (b8 ((gi l i_1).2) 7), .int .u8 (b8 ((gi l i_1).2) 8), .int .u8 (b8 ((gi l i_1).2) 9), .int .u8 (b8 ((gi l i_1).2) 10), .int .u8 (b8 ((gi l i_1).2) 11), .int .u8 (b8 ((gi l i_1).2) 12), .int .u8 (b8 ((gi l i_1).2) 13), .int .u8 (b8 ((gi l i_1).2) 14), .int .u8 (b8 ((gi l i_1).2) 15)]) #[.bool false, .int .u8 0, .int .u8 0, .int .u8 0, .int .u8 0, .int .u8 0, .int .u8 0, .int .u8 0, .int .u8 0, .int .u8 0, .int .u8 0, .int .u8 0, .int .u8 0, .int .u8 0, .int .u8 0, .int .u8 0, .int .u8 0] ([(gi l i_1)] : List T_api_Addr) hS tl_22 (by decide) (by decide) (by kernel_rfl) (by kernel_rfl) rfl (by intro x hx; rfl) rfl) ?_
      rintro _ h_4 ⟨b_3, rfl, hS, hk⟩
      replace hK := hK.trans hk
      replace hL_l := hL_l.kp hk
      obtain ⟨ho_2, hM⟩ := hM
      refine HO.eff (want_none) rfl (st_append te_22 hS (i := 1) rfl (hS.own 0 rfl).slice rfl rfl rfl (by intro a _ u hu; simp [e_api_Addr, encI, encN, encB, encT] at hu; rcases hu with rfl | rfl | rfl | rfl | rfl | rfl | rfl | rfl | rfl | rfl | rfl | rfl | rfl | rfl | rfl | rfl | rfl <;> rfl) ho_2 (by omega)) ?_
      rintro v_1 h_5 ⟨hS, hk⟩
      replace hS : St F_2 (Ow.own 44 17 e_api_Addr (.slice (some ⟨b_3, 0, none⟩) 1 1) ([(gi l i_1)] : List T_api_Addr) :: Ow.own 44 17 e_api_Addr v_1 (out_1 ++ ([(gi l i_1)] : List T_api_Addr)) :: fr) h_5 := hS
      replace hK := hK.trans hk
      replace hL_l := hL_l.kp hk
      refine HO.val (v := v_1) (want_none) rfl (q_assign rfl) ?_
      refine HO.nil (blockQ_normal (thenQ_normal (?_)))
      refine HW.region ?_
      refine HO.val (v := .int .i64 i_1) (want_none) rfl (q_move rfl) ?_
      obtain ⟨ho_3, hM⟩ := hM
      refine HO.val (v := .int .i64 (i_1 + 1)) (want_none) rfl (q_addN _ rfl rfl rfl ho_3.1 ho_3.2) ?_
      refine HO.val (v := .int .i64 (i_1 + 1)) (want_none) rfl (q_assign rfl) ?_
      refine HO.nil (thenQ_normal (?_))
      replace hS : St F_2 (Ow.own 44 17 e_api_Addr v_1 (out_1 ++ ([(gi l i_1)] : List T_api_Addr)) :: fr) h_5 := hS.perm2 [1] 2 rfl rfl
      rw [hKe_1] at hM
      exact ⟨(out_1 ++ ([(gi l i_1)] : List T_api_Addr), i_1 + 1), ⟨F_2, v_1, rfl, rfl, rfl, rfl, rfl, hK, hS, hL_l, hM.1⟩, hM.2⟩
    · replace hM := hM.2 c_2
      refine HW.exit (thenQ_exit (thenQ_exit (blockQ_exit (thenQ_normal (?_)))))
      refine HW.seq ?_
      refine HW.region ?_
      refine HO.val (v := vout_1) (want_none) rfl (q_move rfl) ?_
      refine HO.val (v := vout_1) (want_none) rfl (q_assign rfl) ?_
      refine HO.nil (thenQ_normal (?_))
      refine HW.ret (?_)
      refine ⟨.inr rfl, vout_1, res1 rfl (rt rfl), ?_⟩
      exact ⟨F_2, out_1, vout_1, rfl, hK, hS, hL_l, hM⟩

def ref11_Has_l1 (l : List T_api_Addr) (a : T_api_Addr) (Q : Bool → Prop) (K_1 : Int → Prop) (i_1 : Int) : Prop :=
  (i_1 < (l.length : Int) → ((0 : Int) ≤ i_1 ∧ i_1 < (l.length : Int)) ∧ ((((gi l i_1) : T_api_Addr) = a → Q true) ∧ (¬ (((gi l i_1) : T_api_Addr) = a) → (I64 (i_1 + 1)) ∧ (K_1 (i_1 + 1))))) ∧ (¬ (i_1 < (l.length : Int)) → Q false)
def ref11_Has_W (l : List T_api_Addr) (a : T_api_Addr) (Q : Bool → Prop) : Prop :=
  loopW (fun (K_1 : Int → Prop) (s : Int) => ref11_Has_l1 l a Q K_1 s) 0
set_option maxHeartbeats 40000000 in
set_option maxRecDepth 100000 in
theorem ref11_Has_walk {F : Fz} {fr : List Ow} {h0 : Heap} (l : List T_api_Addr) (a : T_api_Addr) (vl : Value) (hS : St F (fr) h0) (hL_l : SliceF F h0 17 e_api_Addr vl l) {Q : Bool → Prop} (hM : ref11_Has_W l a Q) :
    HC Tryz.prog 33 #[vl, .agg (e_api_Addr a).toArray] h0 fun u h' => ∃ (F' : Fz) (r_1 : Bool), u = .bool r_1 ∧ Kp F h0 F' h' ∧ St F' (fr) h' ∧ (SliceF F' h' 17 e_api_Addr vl l) ∧ Q r_1 := by
  unfold ref11_Has_W at hM
  have hK := Kp.refl F h0
  refine HC.of_HW (n := 18) Tryz.func33 rfl rfl (Nat.le_of_ble_eq_true rfl) ?_
  refine HW.seq ?_
  refine HW.region ?_
  refine HO.eff (want_none) rfl (st_box (c := (e_api_Addr a).toArray) (k' := 17) hS rfl rfl) ?_
  rintro _ h_1 ⟨b_1, rfl, hS, hk⟩
  replace hK := hK.trans hk
  replace hL_l := hL_l.kp hk
  refine HO.val (v := .bool false) (want_none) rfl (q_assign rfl) ?_
  refine HO.nil (thenQ_normal (?_))
  refine HW.seq ?_
  refine HW.seq ?_
  refine HW.region ?_
  refine HO.val (v := .int .i64 0) (want_none) rfl (q_assign rfl) ?_
  refine HO.nil (thenQ_normal (?_))
  refine HW.block ?_
  obtain ⟨I_1, m_1, hI_1, hR_1⟩ := hM
  refine HW.loop (S := Int) (fun i_1 f h => ∃ (F' : Fz), f 0 = vl ∧ f 3 = .pointer (some ⟨b_1, 0, none⟩) ∧ f 4 = .bool false ∧ f 5 = .int .i64 i_1 ∧ Kp F h0 F' h ∧ St F' (Ow.box b_1 44 (e_api_Addr a).toArray :: fr) h ∧ (SliceF F' h 17 e_api_Addr vl l) ∧ I_1 i_1) m_1 0 ⟨F, rfl, rfl, rfl, rfl, hK, hS, hL_l, hI_1⟩ ?_
  rintro i_1 f_1 h_2 ⟨F_1, e0, e3, e4, e5, hK, hS, hL_l, hI0⟩
  obtain ⟨K_1, hKe_1⟩ : ∃ K : Int → Prop, K = fun i_1' => I_1 i_1' ∧ m_1 i_1' < m_1 i_1 := ⟨_, rfl⟩
  have hM : ref11_Has_l1 l a Q K_1 i_1 := by rw [hKe_1]; exact hR_1 i_1 hI0
  unfold ref11_Has_l1 at hM
  refine HW.fr [(0, vl), (3, .pointer (some ⟨b_1, 0, none⟩)), (4, .bool false), (5, .int .i64 i_1)] ⟨e0, e3, e4, e5, trivial⟩ ?_
  refine HW.seq ?_
  refine HW.seq ?_
  refine HW.region ?_
  refine HO.val (v := .int .i64 i_1) (want_none) rfl (q_move rfl) ?_
  refine HO.val (v := vl) (want_none) rfl (q_move rfl) ?_
  refine HO.val (v := .int .i64 (l.length : Int)) (want_none) rfl (q_len ts_22 (shp hL_l.is) rfl rfl) ?_
  refine HO.val (v := .bool (decide (i_1 < (l.length : Int)))) (want_none) rfl (q_lss rfl rfl) ?_
  refine HO.nil (thenQ_normal (?_))
  refine HW.cond (decide (i_1 < (l.length : Int))) rfl (fun c_1 => ?_) (fun c_1 => ?_)
  · replace hM := hM.1 (of_decide_eq_true c_1)
    refine HW.skip (thenQ_normal (?_))
    refine HW.seq ?_
    refine HW.block ?_
    refine HW.seq ?_
    refine HW.regionA 6 mixed (fun h => (SliceIs h 17 e_api_Addr vl l) ∧ (Blk h b_1 (.cells (e_api_Addr a).toArray 44 (0, 0)))) [] (by kernel_rfl) ?_
    refine HA.val (k := 0) (v := vl) rfl rfl (by kernel_rfl) (by kernel_rfl) (want_none) rfl (fun _ ⟨hL_l, c302⟩ => q_move rfl) ?_
    refine HA.val (k := 1) (v := .int .i64 i_1) rfl rfl (by kernel_rfl) (by kernel_rfl) (want_none) rfl (fun _ ⟨hL_l, c302⟩ => q_move rfl) ?_
    obtain ⟨ho_1, hM⟩ := hM
    refine HA.val (k := 2) (v := elemPtr 17 vl (i_1).toNat) rfl rfl (by kernel_rfl) (by kernel_rfl) (want_none) rfl (fun _ ⟨hL_l, c302⟩ => q_idx ts_22 hL_l rfl rfl ho_1) ?_
    refine HA.val (k := 3) (v := .agg (e_api_Addr (gi l i_1)).toArray) rfl rfl (by kernel_rfl) (by kernel_rfl) (want_none) rfl (fun _ ⟨hL_l, c302⟩ => q_ldElemAgg (cs := (e_api_Addr (gi l i_1))) ta_44 hL_l rfl ho_1 rfl) ?_
    refine HA.val (k := 4) (v := .agg (e_api_Addr a).toArray) rfl rfl (by kernel_rfl) (by kernel_rfl) (want_none) rfl (fun _ ⟨hL_l, c302⟩ => q_loadAgg (cs := (e_api_Addr a)) ta_44 rfl rfl (Blk.cells (k := 17) c302 rfl)) ?_
    refine HA.val (k := 5) (v := .bool (decide (((gi l i_1) : T_api_Addr) = a))) rfl rfl (by kernel_rfl) (by kernel_rfl) (want_none) rfl (fun _ ⟨hL_l, c302⟩ => q_eqlAgg (a := (gi l i_1)) (b := a) (fun a b w => teq_44 9997 a b w) (by kernel_rfl) rfl rfl rfl rfl) ?_
    refine HA.nil ⟨⟨hL_l.is, (hS.box 0 rfl)⟩, (Go.Wk.at_nil _ _)⟩ (by kernel_rfl) (thenQ_normal (?_))
    refine HW.cond (decide (((gi l i_1) : T_api_Addr) = a)) rfl (fun c_2 => ?_) (fun c_2 => ?_)
    · replace hM := hM.1 (of_decide_eq_true c_2)
      refine HW.seq ?_
      refine HW.region ?_
      refine HO.val (v := .bool true) (want_none) rfl (q_assign rfl) ?_
      refine HO.nil (thenQ_normal (?_))
      refine HW.ret (blockQ_ret (thenQ_ret (thenQ_ret (blockQ_ret (thenQ_ret (?_))))))
      refine ⟨.inr rfl, .bool true, res1 rfl (rt rfl), ?_⟩
      replace hS : St F_1 (fr) h_2 := hS.perm2 [] 1 rfl rfl
      exact ⟨F_1, true, rfl, hK, hS, hL_l, hM⟩
    · replace hM := hM.2 (of_decide_eq_false c_2)
      refine HW.skip (blockQ_normal (thenQ_normal (?_)))
      refine HW.region ?_
      refine HO.val (v := .int .i64 i_1) (want_none) rfl (q_move rfl) ?_
      obtain ⟨ho_2, hM⟩ := hM
      refine HO.val (v := .int .i64 (i_1 + 1)) (want_none) rfl (q_addN _ rfl rfl rfl ho_2.1 ho_2.2) ?_
      refine HO.val (v := .int .i64 (i_1 + 1)) (want_none) rfl (q_assign rfl) ?_
      refine HO.nil (thenQ_normal (?_))
      rw [hKe_1] at hM
      exact ⟨i_1 + 1, ⟨F_1, rfl, rfl, rfl, rfl, hK, hS, hL_l, hM.1⟩, hM.2⟩
  · replace hM := hM.2 (of_decide_eq_false c_1)
    refine HW.exit (thenQ_exit (thenQ_exit (blockQ_exit (thenQ_normal (?_)))))
    refine HW.seq ?_
    refine HW.region ?_
    refine HO.val (v := .bool false) (want_none) rfl (q_assign rfl) ?_
    refine HO.nil (thenQ_normal (?_))
    refine HW.ret (?_)
    refine ⟨.inr rfl, .bool false, res1 rfl (rt rfl), ?_⟩
    replace hS : St F_1 (fr) h_2 := hS.perm2 [] 1 rfl rfl
    exact ⟨F_1, false, rfl, hK, hS, hL_l, hM⟩

def ref03_Good_l1 (a : T_api_Addr) (Q : Bool → Prop) (K_1 : Int → Prop) (i_1 : Int) : Prop :=
  (i_1 < 16 → ((!a.1) = true → ((0 : Int) ≤ i_1 ∧ i_1 < 16) ∧ ((¬ ((b8 a.2 i_1) = 0) → Q false) ∧ ((b8 a.2 i_1) = 0 → (I64 (i_1 + 1)) ∧ (K_1 (i_1 + 1))))) ∧ ((!a.1) = false → (I64 (i_1 + 1)) ∧ (K_1 (i_1 + 1)))) ∧ (¬ (i_1 < 16) → Q true)
def ref03_Good_W (a : T_api_Addr) (Q : Bool → Prop) : Prop :=
  loopW (fun (K_1 : Int → Prop) (s : Int) => ref03_Good_l1 a Q K_1 s) 4
set_option maxHeartbeats 40000000 in
set_option maxRecDepth 100000 in
theorem ref03_Good_walk {F : Fz} {fr : List Ow} {h0 : Heap} (a : T_api_Addr) (hS : St F (fr) h0)  {Q : Bool → Prop} (hM : ref03_Good_W a Q) :
    HC Tryz.prog 34 #[.agg (e_api_Addr a).toArray] h0 fun u h' => ∃ (F' : Fz) (r_1 : Bool), u = .bool r_1 ∧ Kp F h0 F' h' ∧ St F' (fr) h' ∧ Q r_1 := by
  unfold ref03_Good_W at hM
  have hK := Kp.refl F h0
  refine HC.of_HW (n := 18) Tryz.func34 rfl rfl (Nat.le_of_ble_eq_true rfl) ?_
  refine HW.seq ?_
  refine HW.region ?_
  refine HO.eff (want_none) rfl (st_box (c := (e_api_Addr a).toArray) (k' := 17) hS rfl rfl) ?_
  rintro _ h_1 ⟨b_1, rfl, hS, hk⟩
  replace hK := hK.trans hk
  refine HO.val (v := .bool false) (want_none) rfl (q_assign rfl) ?_
  refine HO.nil (thenQ_normal (?_))
  refine HW.seq ?_
  refine HW.seq ?_
  refine HW.region ?_
  refine HO.val (v := .int .i64 4) (want_none) rfl (q_assign rfl) ?_
  refine HO.nil (thenQ_normal (?_))
  refine HW.block ?_
  obtain ⟨I_1, m_1, hI_1, hR_1⟩ := hM
  refine HW.loop (S := Int) (fun i_1 f h => ∃ (F' : Fz), f 1 = .pointer (some ⟨b_1, 0, none⟩) ∧ f 2 = .bool false ∧ f 3 = .int .i64 i_1 ∧ Kp F h0 F' h ∧ St F' (Ow.box b_1 44 (e_api_Addr a).toArray :: fr) h ∧ I_1 i_1) m_1 4 ⟨F, rfl, rfl, rfl, hK, hS, hI_1⟩ ?_
  rintro i_1 f_1 h_2 ⟨F_1, e1, e2, e3, hK, hS, hI0⟩
  obtain ⟨K_1, hKe_1⟩ : ∃ K : Int → Prop, K = fun i_1' => I_1 i_1' ∧ m_1 i_1' < m_1 i_1 := ⟨_, rfl⟩
  have hM : ref03_Good_l1 a Q K_1 i_1 := by rw [hKe_1]; exact hR_1 i_1 hI0
  unfold ref03_Good_l1 at hM
  refine HW.fr [(1, .pointer (some ⟨b_1, 0, none⟩)), (2, .bool false), (3, .int .i64 i_1)] ⟨e1, e2, e3, trivial⟩ ?_
  refine HW.seq ?_
  refine HW.seq ?_
  refine HW.region ?_
  refine HO.val (v := .int .i64 i_1) (want_none) rfl (q_move rfl) ?_
  refine HO.val (v := .bool (decide (i_1 < 16))) (want_none) rfl (q_lss rfl rfl) ?_
  refine HO.nil (thenQ_normal (?_))
  refine HW.cond (decide (i_1 < 16)) rfl (fun c_1 => ?_) (fun c_1 => ?_)
  · replace hM := hM.1 (of_decide_eq_true c_1)
    refine HW.skip (thenQ_normal (?_))
    refine HW.seq ?_
    refine HW.block ?_
    refine HW.seq ?_
    refine HW.region ?_
    refine HO.val (v := .pointer (some ⟨b_1, 0, none⟩)) (want_none) rfl (q_fieldAddr fa_44_0 rfl rfl) ?_
    refine HO.val (v := .bool a.1) (want_none) rfl (q_load to_4 rfl (Blk.cell (hS.box 0 rfl) rfl)) ?_
    refine HO.val (v := .bool (!a.1)) (want_none) rfl (q_not rfl) ?_
    refine HO.val (v := .bool (!a.1)) (want_none) rfl (q_move rfl) ?_
    rcases Bool.eq_false_or_eq_true (!a.1) with c_2 | c_2
    · replace hM := hM.1 c_2
      refine HO.val (v := .int .i64 i_1) (want_by rfl rfl c_2) rfl (q_move rfl) ?_
      refine HO.val (v := .pointer (some ⟨b_1, 1, none⟩)) (want_by rfl rfl c_2) rfl (q_fieldAddr fa_44_1 rfl rfl) ?_
      obtain ⟨ho_1, hM⟩ := hM
      refine HO.val (v := .pointer (some ⟨b_1, 1 + (i_1).toNat, none⟩)) (want_by rfl rfl c_2) rfl (q_idxA (o := 1) (t := i_1) tr_42 rfl rfl ho_1) ?_
      refine HO.val (v := .int .u8 (b8 a.2 i_1)) (want_by rfl rfl c_2) rfl (q_ldArr (o := 1) (t := i_1) (X := a.2) to_5 rfl (hS.box 0 rfl) rfl ho_1) ?_
      refine HO.val (v := .bool (!decide ((b8 a.2 i_1) = 0))) (want_by rfl rfl c_2) rfl (q_neq rfl rfl) ?_
      refine HO.val (v := .bool (!decide ((b8 a.2 i_1) = 0))) (want_none) rfl (q_pickK true rfl c_2 rfl) ?_
      refine HO.nil (thenQ_normal (?_))
      refine HW.cond (!decide ((b8 a.2 i_1) = 0)) rfl (fun c_3 => ?_) (fun c_3 => ?_)
      · replace hM := hM.1 (nd_true c_3)
        refine HW.seq ?_
        refine HW.region ?_
        refine HO.val (v := .bool false) (want_none) rfl (q_assign rfl) ?_
        refine HO.nil (thenQ_normal (?_))
        refine HW.ret (blockQ_ret (thenQ_ret (thenQ_ret (blockQ_ret (thenQ_ret (?_))))))
        refine ⟨.inr rfl, .bool false, res1 rfl (rt rfl), ?_⟩
        replace hS : St F_1 (fr) h_2 := hS.perm2 [] 1 rfl rfl
        exact ⟨F_1, false, rfl, hK, hS, hM⟩
      · replace hM := hM.2 (nd_false c_3)
        refine HW.skip (blockQ_normal (thenQ_normal (?_)))
        refine HW.region ?_
        refine HO.val (v := .int .i64 i_1) (want_none) rfl (q_move rfl) ?_
        obtain ⟨ho_2, hM⟩ := hM
        refine HO.val (v := .int .i64 (i_1 + 1)) (want_none) rfl (q_addN _ rfl rfl rfl ho_2.1 ho_2.2) ?_
        refine HO.val (v := .int .i64 (i_1 + 1)) (want_none) rfl (q_assign rfl) ?_
        refine HO.nil (thenQ_normal (?_))
        rw [hKe_1] at hM
        exact ⟨i_1 + 1, ⟨F_1, rfl, rfl, rfl, hK, hS, hM.1⟩, hM.2⟩
    · replace hM := hM.2 c_2
      refine HO.past (past_by rfl rfl c_2) rfl ?_
      refine HO.past (past_by rfl rfl c_2) rfl ?_
      refine HO.past (past_by rfl rfl c_2) rfl ?_
      refine HO.past (past_by rfl rfl c_2) rfl ?_
      refine HO.past (past_by rfl rfl c_2) rfl ?_
      refine HO.val (v := .bool false) (want_none) rfl (q_pickK false rfl c_2 rfl) ?_
      refine HO.nil (thenQ_normal (?_))
      refine HW.condF rfl ?_
      refine HW.skip (blockQ_normal (thenQ_normal (?_)))
      refine HW.region ?_
      refine HO.val (v := .int .i64 i_1) (want_none) rfl (q_move rfl) ?_
      obtain ⟨ho_3, hM⟩ := hM
      refine HO.val (v := .int .i64 (i_1 + 1)) (want_none) rfl (q_addN _ rfl rfl rfl ho_3.1 ho_3.2) ?_
      refine HO.val (v := .int .i64 (i_1 + 1)) (want_none) rfl (q_assign rfl) ?_
      refine HO.nil (thenQ_normal (?_))
      rw [hKe_1] at hM
      exact ⟨i_1 + 1, ⟨F_1, rfl, rfl, rfl, hK, hS, hM.1⟩, hM.2⟩
  · replace hM := hM.2 (of_decide_eq_false c_1)
    refine HW.exit (thenQ_exit (thenQ_exit (blockQ_exit (thenQ_normal (?_)))))
    refine HW.seq ?_
    refine HW.region ?_
    refine HO.val (v := .bool true) (want_none) rfl (q_assign rfl) ?_
    refine HO.nil (thenQ_normal (?_))
    refine HW.ret (?_)
    refine ⟨.inr rfl, .bool true, res1 rfl (rt rfl), ?_⟩
    replace hS : St F_1 (fr) h_2 := hS.perm2 [] 1 rfl rfl
    exact ⟨F_1, true, rfl, hK, hS, hM⟩

def ref03_Cmp_j1 (a : T_api_Addr) (b : T_api_Addr) (Q : Int → Prop) (i_1 : Int) (K_1 : Int → Prop) : Prop :=
  ((0 : Int) ≤ i_1 ∧ i_1 < 16) ∧ (((b8 a.2 i_1) < (b8 b.2 i_1) → Q (-1)) ∧ (¬ ((b8 a.2 i_1) < (b8 b.2 i_1)) → ((b8 b.2 i_1) < (b8 a.2 i_1) → Q 1) ∧ (¬ ((b8 b.2 i_1) < (b8 a.2 i_1)) → (I64 (i_1 + 1)) ∧ (K_1 (i_1 + 1)))))
def ref03_Cmp_l1 (a : T_api_Addr) (b : T_api_Addr) (Q : Int → Prop) (K_1 : Int → Prop) (i_1 : Int) : Prop :=
  (i_1 < 16 → (a.1 = true → ref03_Cmp_j1 a b Q i_1 K_1) ∧ (a.1 = false → (i_1 < 4 → ref03_Cmp_j1 a b Q i_1 K_1) ∧ (¬ (i_1 < 4) → Q 0))) ∧ (¬ (i_1 < 16) → Q 0)
def ref03_Cmp_W (a : T_api_Addr) (b : T_api_Addr) (Q : Int → Prop) : Prop :=
  ((!(a.1 == b.1)) = true → (b.1 = true → Q (-1)) ∧ (b.1 = false → Q 1)) ∧ ((!(a.1 == b.1)) = false → loopW (fun (K_1 : Int → Prop) (s : Int) => ref03_Cmp_l1 a b Q K_1 s) 0)
set_option maxHeartbeats 40000000 in
set_option maxRecDepth 100000 in
theorem ref03_Cmp_walk {F : Fz} {fr : List Ow} {h0 : Heap} (a : T_api_Addr) (b : T_api_Addr) (hS : St F (fr) h0)  {Q : Int → Prop} (hM : ref03_Cmp_W a b Q) :
    HC Tryz.prog 35 #[.agg (e_api_Addr a).toArray, .agg (e_api_Addr b).toArray] h0 fun u h' => ∃ (F' : Fz) (r_1 : Int), u = .int .i64 r_1 ∧ Kp F h0 F' h' ∧ St F' (fr) h' ∧ Q r_1 := by
  unfold ref03_Cmp_W at hM
  have hK := Kp.refl F h0
  refine HC.of_HW (n := 43) Tryz.func35 rfl rfl (Nat.le_of_ble_eq_true rfl) ?_
  refine HW.seq ?_
  refine HW.region ?_
  refine HO.eff (want_none) rfl (st_box (c := (e_api_Addr a).toArray) (k' := 17) hS rfl rfl) ?_
  rintro _ h_1 ⟨b_1, rfl, hS, hk⟩
  replace hK := hK.trans hk
  refine HO.eff (want_none) rfl (st_box (c := (e_api_Addr b).toArray) (k' := 17) hS rfl rfl) ?_
  rintro _ h_2 ⟨b_2, rfl, hS, hk⟩
  replace hK := hK.trans hk
  refine HO.val (v := .int .i64 0) (want_none) rfl (q_assign rfl) ?_
  refine HO.nil (thenQ_normal (?_))
  refine HW.seq ?_
  refine HW.seq ?_
  refine HW.region ?_
  refine HO.val (v := .pointer (some ⟨b_1, 0, none⟩)) (want_none) rfl (q_fieldAddr fa_44_0 rfl rfl) ?_
  refine HO.val (v := .bool a.1) (want_none) rfl (q_load to_4 rfl (Blk.cell (hS.box 1 rfl) rfl)) ?_
  refine HO.val (v := .pointer (some ⟨b_2, 0, none⟩)) (want_none) rfl (q_fieldAddr fa_44_0 rfl rfl) ?_
  refine HO.val (v := .bool b.1) (want_none) rfl (q_load to_4 rfl (Blk.cell (hS.box 0 rfl) rfl)) ?_
  refine HO.val (v := .bool (!(a.1 == b.1))) (want_none) rfl (q_neqB Tryz.underlying4 rfl rfl) ?_
  refine HO.nil (thenQ_normal (?_))
  refine HW.cond (!(a.1 == b.1)) rfl (fun c_1 => ?_) (fun c_1 => ?_)
  · replace hM := hM.1 c_1
    refine HW.seq ?_
    refine HW.seq ?_
    refine HW.region ?_
    refine HO.val (v := .pointer (some ⟨b_2, 0, none⟩)) (want_none) rfl (q_fieldAddr fa_44_0 rfl rfl) ?_
    refine HO.val (v := .bool b.1) (want_none) rfl (q_load to_4 rfl (Blk.cell (hS.box 0 rfl) rfl)) ?_
    refine HO.nil (thenQ_normal (?_))
    refine HW.cond b.1 rfl (fun c_2 => ?_) (fun c_2 => ?_)
    · replace hM := hM.1 c_2
      refine HW.seq ?_
      refine HW.region ?_
      refine HO.val (v := .int .i64 (-1)) (want_none) rfl (q_assign rfl) ?_
      refine HO.nil (thenQ_normal (?_))
      refine HW.ret (thenQ_ret (thenQ_ret (?_)))
      refine ⟨.inr rfl, .int .i64 (-1), res1 rfl (rt rfl), ?_⟩
      replace hS : St F (fr) h_2 := hS.perm2 [] 2 rfl rfl
      exact ⟨F, (-1), rfl, hK, hS, hM⟩
    · replace hM := hM.2 c_2
      refine HW.skip (thenQ_normal (?_))
      refine HW.seq ?_
      refine HW.region ?_
      refine HO.val (v := .int .i64 1) (want_none) rfl (q_assign rfl) ?_
      refine HO.nil (thenQ_normal (?_))
      refine HW.ret (thenQ_ret (?_))
      refine ⟨.inr rfl, .int .i64 1, res1 rfl (rt rfl), ?_⟩
      replace hS : St F (fr) h_2 := hS.perm2 [] 2 rfl rfl
      exact ⟨F, 1, rfl, hK, hS, hM⟩
  · replace hM := hM.2 c_1
    refine HW.skip (thenQ_normal (?_))
    refine HW.seq ?_
    refine HW.seq ?_
    refine HW.region ?_
    refine HO.val (v := .int .i64 0) (want_none) rfl (q_assign rfl) ?_
    refine HO.nil (thenQ_normal (?_))
    refine HW.block ?_
    obtain ⟨I_1, m_1, hI_1, hR_1⟩ := hM
    replace hS : St F (Ow.box b_1 44 (e_api_Addr a).toArray :: Ow.box b_2 44 (e_api_Addr b).toArray :: fr) h_2 := hS.perm2 [1, 0] 2 rfl rfl
    refine HW.loop (S := Int) (fun i_1 f h => ∃ (F' : Fz), f 2 = .pointer (some ⟨b_1, 0, none⟩) ∧ f 3 = .pointer (some ⟨b_2, 0, none⟩) ∧ f 4 = .int .i64 0 ∧ f 5 = .int .i64 i_1 ∧ Kp F h0 F' h ∧ St F' (Ow.box b_1 44 (e_api_Addr a).toArray :: Ow.box b_2 44 (e_api_Addr b).toArray :: fr) h ∧ I_1 i_1) m_1 0 ⟨F, rfl, rfl, rfl, rfl, hK, hS, hI_1⟩ ?_
    rintro i_1 f_1 h_3 ⟨F_1, e2, e3, e4, e5, hK, hS, hI0⟩
    obtain ⟨K_1, hKe_1⟩ : ∃ K : Int → Prop, K = fun i_1' => I_1 i_1' ∧ m_1 i_1' < m_1 i_1 := ⟨_, rfl⟩
    have hM : ref03_Cmp_l1 a b Q K_1 i_1 := by rw [hKe_1]; exact hR_1 i_1 hI0
    unfold ref03_Cmp_l1 at hM
    refine HW.fr [(2, .pointer (some ⟨b_1, 0, none⟩)), (3, .pointer (some ⟨b_2, 0, none⟩)), (4, .int .i64 0), (5, .int .i64 i_1)] ⟨e2, e3, e4, e5, trivial⟩ ?_
    refine HW.seq_mid (fun f h => ∃ (F' : Fz), f 2 = .pointer (some ⟨b_1, 0, none⟩) ∧ f 3 = .pointer (some ⟨b_2, 0, none⟩) ∧ f 4 = .int .i64 0 ∧ f 5 = .int .i64 i_1 ∧ Kp F h0 F' h ∧ St F' (Ow.box b_1 44 (e_api_Addr a).toArray :: Ow.box b_2 44 (e_api_Addr b).toArray :: fr) h ∧ ref03_Cmp_j1 a b Q i_1 K_1) ?_ ?_
    · refine HW.seq ?_
      refine HW.region ?_
      refine HO.val (v := .int .i64 i_1) (want_none) rfl (q_move rfl) ?_
      refine HO.val (v := .bool (decide (i_1 < 16))) (want_none) rfl (q_lss rfl rfl) ?_
      refine HO.val (v := .bool (decide (i_1 < 16))) (want_none) rfl (q_move rfl) ?_
      rcases Bool.eq_false_or_eq_true (decide (i_1 < 16)) with c_3 | c_3
      · replace hM := hM.1 (of_decide_eq_true c_3)
        refine HO.val (v := .pointer (some ⟨b_1, 0, none⟩)) (want_by rfl rfl c_3) rfl (q_fieldAddr fa_44_0 rfl rfl) ?_
        refine HO.val (v := .bool a.1) (want_by rfl rfl c_3) rfl (q_load to_4 rfl (Blk.cell (hS.box 0 rfl) rfl)) ?_
        refine HO.val (v := .bool a.1) (want_by rfl rfl c_3) rfl (q_move rfl) ?_
        rcases Bool.eq_false_or_eq_true a.1 with c_4 | c_4
        · replace hM := hM.1 c_4
          refine HO.past (past_by rfl rfl c_4) rfl ?_
          refine HO.past (past_by rfl rfl c_4) rfl ?_
          refine HO.val (v := .bool true) (want_by rfl rfl c_3) rfl (q_pickK true rfl c_4 rfl) ?_
          refine HO.val (v := .bool true) (want_none) rfl (q_pickK true rfl c_3 rfl) ?_
          refine HO.nil (thenQ_normal (?_))
          refine HW.condT rfl ?_
          refine HW.skip (thenQ_normal (?_))
          exact ⟨F_1, rfl, rfl, rfl, rfl, hK, hS, hM⟩
        · replace hM := hM.2 c_4
          refine HO.val (v := .int .i64 i_1) (want_by rfl rfl c_4) rfl (q_move rfl) ?_
          refine HO.val (v := .bool (decide (i_1 < 4))) (want_by rfl rfl c_4) rfl (q_lss rfl rfl) ?_
          refine HO.val (v := .bool (decide (i_1 < 4))) (want_by rfl rfl c_3) rfl (q_pickK false rfl c_4 rfl) ?_
          refine HO.val (v := .bool (decide (i_1 < 4))) (want_none) rfl (q_pickK true rfl c_3 rfl) ?_
          refine HO.nil (thenQ_normal (?_))
          refine HW.cond (decide (i_1 < 4)) rfl (fun c_5 => ?_) (fun c_5 => ?_)
          · replace hM := hM.1 (of_decide_eq_true c_5)
            refine HW.skip (thenQ_normal (?_))
            exact ⟨F_1, rfl, rfl, rfl, rfl, hK, hS, hM⟩
          · replace hM := hM.2 (of_decide_eq_false c_5)
            refine HW.exit (thenQ_exit (thenQ_exit (blockQ_exit (thenQ_normal (?_)))))
            refine HW.seq ?_
            refine HW.region ?_
            refine HO.val (v := .int .i64 0) (want_none) rfl (q_assign rfl) ?_
            refine HO.nil (thenQ_normal (?_))
            refine HW.ret (?_)
            refine ⟨.inr rfl, .int .i64 0, res1 rfl (rt rfl), ?_⟩
            replace hS : St F_1 (fr) h_3 := hS.perm2 [] 2 rfl rfl
            exact ⟨F_1, 0, rfl, hK, hS, hM⟩
      · replace hM := hM.2 (of_decide_eq_false c_3)
        refine HO.past (past_by rfl rfl c_3) rfl ?_
        refine HO.past (past_by rfl rfl c_3) rfl ?_
        refine HO.past (past_by rfl rfl c_3) rfl ?_
        refine HO.past (past_undef rfl rfl) rfl ?_
        refine HO.past (past_undef rfl rfl) rfl ?_
        refine HO.past (past_by rfl rfl c_3) rfl ?_
        refine HO.val (v := .bool false) (want_none) rfl (q_pickK false rfl c_3 rfl) ?_
        refine HO.nil (thenQ_normal (?_))
        refine HW.condF rfl ?_
        refine HW.exit (thenQ_exit (thenQ_exit (blockQ_exit (thenQ_normal (?_)))))
        refine HW.seq ?_
        refine HW.region ?_
        refine HO.val (v := .int .i64 0) (want_none) rfl (q_assign rfl) ?_
        refine HO.nil (thenQ_normal (?_))
        refine HW.ret (?_)
        refine ⟨.inr rfl, .int .i64 0, res1 rfl (rt rfl), ?_⟩
        replace hS : St F_1 (fr) h_3 := hS.perm2 [] 2 rfl rfl
        exact ⟨F_1, 0, rfl, hK, hS, hM⟩
    · rintro f_2 h_4 ⟨F_2, e2, e3, e4, e5, hK, hS, hM⟩
      unfold ref03_Cmp_j1 at hM
      refine HW.fr [(2, .pointer (some ⟨b_1, 0, none⟩)), (3, .pointer (some ⟨b_2, 0, none⟩)), (4, .int .i64 0), (5, .int .i64 i_1)] ⟨e2, e3, e4, e5, trivial⟩ ?_
      refine HW.seq ?_
      refine HW.block ?_
      refine HW.seq ?_
      refine HW.seq ?_
      refine HW.regionA 9 mixed (fun h => (Blk h b_1 (.cells (e_api_Addr a).toArray 44 (0, 0))) ∧ (Blk h b_2 (.cells (e_api_Addr b).toArray 44 (0, 0)))) [] (by kernel_rfl) ?_
      refine HA.val (k := 0) (v := .int .i64 i_1) rfl rfl (by kernel_rfl) (by kernel_rfl) (want_none) rfl (fun _ ⟨c305, c306⟩ => q_move rfl) ?_
      refine HA.val (k := 1) (v := .pointer (some ⟨b_1, 1, none⟩)) rfl rfl (by kernel_rfl) (by kernel_rfl) (want_none) rfl (fun _ ⟨c305, c306⟩ => q_fieldAddr fa_44_1 rfl rfl) ?_
      obtain ⟨ho_1, hM⟩ := hM
      refine HA.val (k := 2) (v := .pointer (some ⟨b_1, 1 + (i_1).toNat, none⟩)) rfl rfl (by kernel_rfl) (by kernel_rfl) (want_none) rfl (fun _ ⟨c305, c306⟩ => q_idxA (o := 1) (t := i_1) tr_42 rfl rfl ho_1) ?_
      refine HA.val (k := 3) (v := .int .u8 (b8 a.2 i_1)) rfl rfl (by kernel_rfl) (by kernel_rfl) (want_none) rfl (fun _ ⟨c305, c306⟩ => q_ldArr (o := 1) (t := i_1) (X := a.2) to_5 rfl c305 rfl ho_1) ?_
      refine HA.val (k := 4) (v := .int .i64 i_1) rfl rfl (by kernel_rfl) (by kernel_rfl) (want_none) rfl (fun _ ⟨c305, c306⟩ => q_move rfl) ?_
      refine HA.val (k := 5) (v := .pointer (some ⟨b_2, 1, none⟩)) rfl rfl (by kernel_rfl) (by kernel_rfl) (want_none) rfl (fun _ ⟨c305, c306⟩ => q_fieldAddr fa_44_1 rfl rfl) ?_
      refine HA.val (k := 6) (v := .pointer (some ⟨b_2, 1 + (i_1).toNat, none⟩)) rfl rfl (by kernel_rfl) (by kernel_rfl) (want_none) rfl (fun _ ⟨c305, c306⟩ => q_idxA (o := 1) (t := i_1) tr_42 rfl rfl ho_1) ?_
      refine HA.val (k := 7) (v := .int .u8 (b8 b.2 i_1)) rfl rfl (by kernel_rfl) (by kernel_rfl) (want_none) rfl (fun _ ⟨c305, c306⟩ => q_ldArr (o := 1) (t := i_1) (X := b.2) to_5 rfl c306 rfl ho_1) ?_
      refine HA.val (k := 8) (v := .bool (decide ((b8 a.2 i_1) < (b8 b.2 i_1)))) rfl rfl (by kernel_rfl) (by kernel_rfl) (want_none) rfl (fun _ ⟨c305, c306⟩ => q_lss rfl rfl) ?_
      refine HA.nil ⟨⟨(hS.box 0 rfl), (hS.box 1 rfl)⟩, (Go.Wk.at_nil _ _)⟩ (by kernel_rfl) (thenQ_normal (?_))
      refine HW.cond (decide ((b8 a.2 i_1) < (b8 b.2 i_1))) rfl (fun c_6 => ?_) (fun c_6 => ?_)
      · replace hM := hM.1 (of_decide_eq_true c_6)
        refine HW.seq ?_
        refine HW.region ?_
        refine HO.val (v := .int .i64 (-1)) (want_none) rfl (q_assign rfl) ?_
        refine HO.nil (thenQ_normal (?_))
        refine HW.ret (thenQ_ret (blockQ_ret (thenQ_ret (thenQ_ret (blockQ_ret (thenQ_ret (?_)))))))
        refine ⟨.inr rfl, .int .i64 (-1), res1 rfl (rt rfl), ?_⟩
        replace hS : St F_2 (fr) h_4 := hS.perm2 [] 2 rfl rfl
        exact ⟨F_2, (-1), rfl, hK, hS, hM⟩
      · replace hM := hM.2 (of_decide_eq_false c_6)
        refine HW.skip (thenQ_normal (?_))
        refine HW.seq ?_
        refine HW.regionA 9 mixed (fun h => (Blk h b_1 (.cells (e_api_Addr a).toArray 44 (0, 0))) ∧ (Blk h b_2 (.cells (e_api_Addr b).toArray 44 (0, 0)))) [] (by kernel_rfl) ?_
        refine HA.val (k := 0) (v := .int .i64 i_1) rfl rfl (by kernel_rfl) (by kernel_rfl) (want_none) rfl (fun _ ⟨c305, c306⟩ => q_move rfl) ?_
        refine HA.val (k := 1) (v := .pointer (some ⟨b_1, 1, none⟩)) rfl rfl (by kernel_rfl) (by kernel_rfl) (want_none) rfl (fun _ ⟨c305, c306⟩ => q_fieldAddr fa_44_1 rfl rfl) ?_
        refine HA.val (k := 2) (v := .pointer (some ⟨b_1, 1 + (i_1).toNat, none⟩)) rfl rfl (by kernel_rfl) (by kernel_rfl) (want_none) rfl (fun _ ⟨c305, c306⟩ => q_idxA (o := 1) (t := i_1) tr_42 rfl rfl ho_1) ?_
        refine HA.val (k := 3) (v := .int .u8 (b8 a.2 i_1)) rfl rfl (by kernel_rfl) (by kernel_rfl) (want_none) rfl (fun _ ⟨c305, c306⟩ => q_ldArr (o := 1) (t := i_1) (X := a.2) to_5 rfl c305 rfl ho_1) ?_
        refine HA.val (k := 4) (v := .int .i64 i_1) rfl rfl (by kernel_rfl) (by kernel_rfl) (want_none) rfl (fun _ ⟨c305, c306⟩ => q_move rfl) ?_
        refine HA.val (k := 5) (v := .pointer (some ⟨b_2, 1, none⟩)) rfl rfl (by kernel_rfl) (by kernel_rfl) (want_none) rfl (fun _ ⟨c305, c306⟩ => q_fieldAddr fa_44_1 rfl rfl) ?_
        refine HA.val (k := 6) (v := .pointer (some ⟨b_2, 1 + (i_1).toNat, none⟩)) rfl rfl (by kernel_rfl) (by kernel_rfl) (want_none) rfl (fun _ ⟨c305, c306⟩ => q_idxA (o := 1) (t := i_1) tr_42 rfl rfl ho_1) ?_
        refine HA.val (k := 7) (v := .int .u8 (b8 b.2 i_1)) rfl rfl (by kernel_rfl) (by kernel_rfl) (want_none) rfl (fun _ ⟨c305, c306⟩ => q_ldArr (o := 1) (t := i_1) (X := b.2) to_5 rfl c306 rfl ho_1) ?_
        refine HA.val (k := 8) (v := .bool (decide ((b8 b.2 i_1) < (b8 a.2 i_1)))) rfl rfl (by kernel_rfl) (by kernel_rfl) (want_none) rfl (fun _ ⟨c305, c306⟩ => q_gtr rfl rfl) ?_
        refine HA.nil ⟨⟨(hS.box 0 rfl), (hS.box 1 rfl)⟩, (Go.Wk.at_nil _ _)⟩ (by kernel_rfl) (thenQ_normal (?_))
        refine HW.cond (decide ((b8 b.2 i_1) < (b8 a.2 i_1))) rfl (fun c_7 => ?_) (fun c_7 => ?_)
        · replace hM := hM.1 (of_decide_eq_true c_7)
          refine HW.seq ?_
          refine HW.region ?_
          refine HO.val (v := .int .i64 1) (want_none) rfl (q_assign rfl) ?_
          refine HO.nil (thenQ_normal (?_))
          refine HW.ret (blockQ_ret (thenQ_ret (thenQ_ret (blockQ_ret (thenQ_ret (?_))))))
          refine ⟨.inr rfl, .int .i64 1, res1 rfl (rt rfl), ?_⟩
          replace hS : St F_2 (fr) h_4 := hS.perm2 [] 2 rfl rfl
          exact ⟨F_2, 1, rfl, hK, hS, hM⟩
        · replace hM := hM.2 (of_decide_eq_false c_7)
          refine HW.skip (blockQ_normal (thenQ_normal (?_)))
          refine HW.region ?_
          refine HO.val (v := .int .i64 i_1) (want_none) rfl (q_move rfl) ?_
          obtain ⟨ho_2, hM⟩ := hM
          refine HO.val (v := .int .i64 (i_1 + 1)) (want_none) rfl (q_addN _ rfl rfl rfl ho_2.1 ho_2.2) ?_
          refine HO.val (v := .int .i64 (i_1 + 1)) (want_none) rfl (q_assign rfl) ?_
          refine HO.nil (thenQ_normal (?_))
          rw [hKe_1] at hM
          exact ⟨i_1 + 1, ⟨F_2, rfl, rfl, rfl, rfl, hK, hS, hM.1⟩, hM.2⟩

def ref11_Add_j2 (l : List T_api_Addr) (a : T_api_Addr) (Q : (List T_api_Addr) → Prop) (n_1 : Int) : Prop :=
  ((0 : Int) ≤ n_1 ∧ n_1 ≤ (l.length : Int)) ∧ (((([] : List T_api_Addr).length + (cut l 0 n_1).length) * 17 ≤ 140737488355328) ∧ ((((([] : List T_api_Addr) ++ (cut l 0 n_1)).length + ([a] : List T_api_Addr).length) * 17 ≤ 140737488355328) ∧ (((((([] : List T_api_Addr) ++ (cut l 0 n_1)) ++ ([a] : List T_api_Addr)).length + (cut l n_1 (l.length : Int)).length) * 17 ≤ 140737488355328) ∧ (Q (((([] : List T_api_Addr) ++ (cut l 0 n_1)) ++ ([a] : List T_api_Addr)) ++ (cut l n_1 (l.length : Int)))))))
def ref11_Add_l1 (l : List T_api_Addr) (a : T_api_Addr) (Q : (List T_api_Addr) → Prop) (K_1 : Int → Prop) (n_2 : Int) : Prop :=
  (n_2 < (l.length : Int) → ((0 : Int) ≤ n_2 ∧ n_2 < (l.length : Int)) ∧ (ref03_Cmp_W (gi l n_2) a (fun r_4 => (r_4 < 0 → (I64 (n_2 + 1)) ∧ (K_1 (n_2 + 1))) ∧ (¬ (r_4 < 0) → ref11_Add_j2 l a Q n_2)))) ∧ (¬ (n_2 < (l.length : Int)) → ref11_Add_j2 l a Q n_2)
def ref11_Add_j1 (l : List T_api_Addr) (a : T_api_Addr) (Q : (List T_api_Addr) → Prop) (b_2 : Bool) : Prop :=
  (b_2 = true → Q l) ∧ (b_2 = false → loopW (fun (K_1 : Int → Prop) (s : Int) => ref11_Add_l1 l a Q K_1 s) 0)
def ref11_Add_W (l : List T_api_Addr) (a : T_api_Addr) (Q : (List T_api_Addr) → Prop) : Prop :=
  ref11_Has_W l a (fun r_2 => (r_2 = true → ref11_Add_j1 l a Q true) ∧ (r_2 = false → ref03_Good_W a (fun r_3 => ref11_Add_j1 l a Q (!r_3))))
set_option maxHeartbeats 40000000 in
set_option maxRecDepth 100000 in
theorem ref11_Add_walk {F : Fz} {fr : List Ow} {h0 : Heap} (l : List T_api_Addr) (a : T_api_Addr) (vl : Value) (hS : St F (fr) h0) (hL_l : SliceF F h0 17 e_api_Addr vl l) {Q : (List T_api_Addr) → Prop} (hM : ref11_Add_W l a Q) :
    HC Tryz.prog 19 #[vl, .agg (e_api_Addr a).toArray] h0 fun u h' => ∃ (F' : Fz) (r_1 : List T_api_Addr) (vr_1 : Value), u = vr_1 ∧ Kp F h0 F' h' ∧ St F' (fr) h' ∧ (SliceF F' h' 17 e_api_Addr vl l) ∧ (SliceF F' h' 17 e_api_Addr vr_1 r_1) ∧ Q r_1 := by
  unfold ref11_Add_W at hM
  have hK := Kp.refl F h0
  refine HC.of_HW (n := 42) Tryz.func19 rfl rfl (Nat.le_of_ble_eq_true rfl) ?_
  refine HW.seq ?_
  refine HW.region ?_
  refine HO.eff (want_none) rfl (st_box (c := (e_api_Addr a).toArray) (k' := 17) hS rfl rfl) ?_
  rintro _ h_1 ⟨b_1, rfl, hS, hk⟩
  replace hK := hK.trans hk
  replace hL_l := hL_l.kp hk
  refine HO.val (v := .slice none 0 0) (want_none) rfl (q_assign rfl) ?_
  refine HO.nil (thenQ_normal (?_))
  refine HW.seq ?_
  refine HW.seq_mid (fun f h => ∃ (F' : Fz) (b_2 : Bool), f 0 = vl ∧ f 3 = .pointer (some ⟨b_1, 0, none⟩) ∧ f 4 = .slice none 0 0 ∧ f 13 = .bool b_2 ∧ Kp F h0 F' h ∧ St F' (Ow.box b_1 44 (e_api_Addr a).toArray :: fr) h ∧ (SliceF F' h 17 e_api_Addr vl l) ∧ ref11_Add_j1 l a Q b_2) ?_ ?_
  · refine HW.region ?_
    refine HO.val (v := vl) (want_none) rfl (q_move rfl) ?_
    refine HO.val (v := .agg (e_api_Addr a).toArray) (want_none) rfl (q_loadAgg (cs := (e_api_Addr a)) ta_44 rfl rfl (Blk.cells (k := 17) (hS.box 0 rfl) rfl)) ?_
    refine HO.call (want_none) rfl (ec en_33 rfl rfl) (ref11_Has_walk (fr := (Ow.box b_1 44 (e_api_Addr a).toArray :: fr)) l a vl hS hL_l hM) ?_
    rintro _ h_2 ⟨F_1, r_2, rfl, hk, hS, _, hM⟩
    replace hK := hK.trans hk
    replace hL_l := hL_l.kp hk
    refine HO.val (v := .bool r_2) (want_none) rfl (q_move rfl) ?_
    rcases Bool.eq_false_or_eq_true r_2 with c_1 | c_1
    · replace hM := hM.1 c_1
      refine HO.past (past_by rfl rfl c_1) rfl ?_
      refine HO.past (past_by rfl rfl c_1) rfl ?_
      refine HO.past (past_by rfl rfl c_1) rfl ?_
      refine HO.val (v := .bool true) (want_none) rfl (q_pickK true rfl c_1 rfl) ?_
      refine HO.nil (thenQ_normal (?_))
      exact ⟨F_1, true, rfl, rfl, rfl, rfl, hK, hS, hL_l, hM⟩
    · replace hM := hM.2 c_1
      refine HO.val (v := .agg (e_api_Addr a).toArray) (want_by rfl rfl c_1) rfl (q_loadAgg (cs := (e_api_Addr a)) ta_44 rfl rfl (Blk.cells (k := 17) (hS.box 0 rfl) rfl)) ?_
      refine HO.call (want_by rfl rfl c_1) rfl (ec en_34 rfl rfl) (ref03_Good_walk (fr := (Ow.box b_1 44 (e_api_Addr a).toArray :: fr)) a hS hM) ?_
      rintro _ h_3 ⟨F_2, r_3, rfl, hk, hS, hM⟩
      replace hK := hK.trans hk
      replace hL_l := hL_l.kp hk
      refine HO.val (v := .bool (!r_3)) (want_by rfl rfl c_1) rfl (q_not rfl) ?_
      refine HO.val (v := .bool (!r_3)) (want_none) rfl (q_pickK false rfl c_1 rfl) ?_
      refine HO.nil (thenQ_normal (?_))
      exact ⟨F_2, !r_3, rfl, rfl, rfl, rfl, hK, hS, hL_l, hM⟩
  · rintro f_1 h_4 ⟨F_3, b_2, e0, e3, e4, e13, hK, hS, hL_l, hM⟩
    unfold ref11_Add_j1 at hM
    refine HW.fr [(0, vl), (3, .pointer (some ⟨b_1, 0, none⟩)), (4, .slice none 0 0), (13, .bool b_2)] ⟨e0, e3, e4, e13, trivial⟩ ?_
    refine HW.cond b_2 rfl (fun c_2 => ?_) (fun c_2 => ?_)
    · replace hM := hM.1 c_2
      refine HW.seq ?_
      refine HW.region ?_
      refine HO.val (v := vl) (want_none) rfl (q_move rfl) ?_
      refine HO.val (v := vl) (want_none) rfl (q_assign rfl) ?_
      refine HO.nil (thenQ_normal (?_))
      refine HW.ret (thenQ_ret (?_))
      refine ⟨.inr rfl, vl, res1 rfl (rt rfl), ?_⟩
      replace hS : St F_3 (fr) h_4 := hS.perm2 [] 1 rfl rfl
      exact ⟨F_3, l, vl, rfl, hK, hS, hL_l, hL_l, hM⟩
    · replace hM := hM.2 c_2
      refine HW.skip (thenQ_normal (?_))
      refine HW.seq ?_
      refine HW.region ?_
      refine HO.val (v := .int .i64 0) (want_none) rfl (q_assign rfl) ?_
      refine HO.nil (thenQ_normal (?_))
      refine HW.seq_mid (fun f h => ∃ (F' : Fz) (n_1 : Int), f 0 = vl ∧ f 3 = .pointer (some ⟨b_1, 0, none⟩) ∧ f 4 = .slice none 0 0 ∧ f 5 = .int .i64 n_1 ∧ Kp F h0 F' h ∧ St F' (Ow.box b_1 44 (e_api_Addr a).toArray :: fr) h ∧ (SliceF F' h 17 e_api_Addr vl l) ∧ ref11_Add_j2 l a Q n_1) ?_ ?_
      · refine HW.block ?_
        obtain ⟨I_1, m_1, hI_1, hR_1⟩ := hM
        refine HW.loop (S := Int) (fun n_2 f h => ∃ (F' : Fz), f 0 = vl ∧ f 3 = .pointer (some ⟨b_1, 0, none⟩) ∧ f 4 = .slice none 0 0 ∧ f 5 = .int .i64 n_2 ∧ Kp F h0 F' h ∧ St F' (Ow.box b_1 44 (e_api_Addr a).toArray :: fr) h ∧ (SliceF F' h 17 e_api_Addr vl l) ∧ I_1 n_2) m_1 0 ⟨F_3, rfl, rfl, rfl, rfl, hK, hS, hL_l, hI_1⟩ ?_
        rintro n_2 f_2 h_5 ⟨F_4, e0, e3, e4, e5, hK, hS, hL_l, hI0⟩
        obtain ⟨K_1, hKe_1⟩ : ∃ K : Int → Prop, K = fun n_2' => I_1 n_2' ∧ m_1 n_2' < m_1 n_2 := ⟨_, rfl⟩
        have hM : ref11_Add_l1 l a Q K_1 n_2 := by rw [hKe_1]; exact hR_1 n_2 hI0
        unfold ref11_Add_l1 at hM
        refine HW.fr [(0, vl), (3, .pointer (some ⟨b_1, 0, none⟩)), (4, .slice none 0 0), (5, .int .i64 n_2)] ⟨e0, e3, e4, e5, trivial⟩ ?_
        refine HW.seq ?_
        refine HW.seq ?_
        refine HW.regionA 13 mixed (fun h => (SliceIs h 17 e_api_Addr vl l) ∧ (Blk h b_1 (.cells (e_api_Addr a).toArray 44 (0, 0)))) [] (by kernel_rfl) ?_
        refine HA.val (k := 0) (v := .int .i64 n_2) rfl rfl (by kernel_rfl) (by kernel_rfl) (want_none) rfl (fun _ ⟨hL_l, c304⟩ => q_move rfl) ?_
        refine HA.val (k := 1) (v := vl) rfl rfl (by kernel_rfl) (by kernel_rfl) (want_none) rfl (fun _ ⟨hL_l, c304⟩ => q_move rfl) ?_
        refine HA.val (k := 2) (v := .int .i64 (l.length : Int)) rfl rfl (by kernel_rfl) (by kernel_rfl) (want_none) rfl (fun _ ⟨hL_l, c304⟩ => q_len ts_22 (shp hL_l) rfl rfl) ?_
        refine HA.val (k := 3) (v := .bool (decide (n_2 < (l.length : Int)))) rfl rfl (by kernel_rfl) (by kernel_rfl) (want_none) rfl (fun _ ⟨hL_l, c304⟩ => q_lss rfl rfl) ?_
        refine HA.val (k := 4) (v := .bool (decide (n_2 < (l.length : Int)))) rfl rfl (by kernel_rfl) (by kernel_rfl) (want_none) rfl (fun _ ⟨hL_l, c304⟩ => q_move rfl) ?_
        rcases Bool.eq_false_or_eq_true (decide (n_2 < (l.length : Int))) with c_3 | c_3
        · replace hM := hM.1 (of_decide_eq_true c_3)
          refine HA.val (k := 5) (v := vl) rfl rfl (by kernel_rfl) (by kernel_rfl) (want_by rfl rfl c_3) rfl (fun _ ⟨hL_l, c304⟩ => q_move rfl) ?_
          refine HA.val (k := 6) (v := .int .i64 n_2) rfl rfl (by kernel_rfl) (by kernel_rfl) (want_by rfl rfl c_3) rfl (fun _ ⟨hL_l, c304⟩ => q_move rfl) ?_
          obtain ⟨ho_1, hM⟩ := hM
          refine HA.val (k := 7) (v := elemPtr 17 vl (n_2).toNat) rfl rfl (by kernel_rfl) (by kernel_rfl) (want_by rfl rfl c_3) rfl (fun _ ⟨hL_l, c304⟩ => q_idx ts_22 hL_l rfl rfl ho_1) ?_
          refine HA.val (k := 8) (v := .agg (e_api_Addr (gi l n_2)).toArray) rfl rfl (by kernel_rfl) (by kernel_rfl) (want_by rfl rfl c_3) rfl (fun _ ⟨hL_l, c304⟩ => q_ldElemAgg (cs := (e_api_Addr (gi l n_2))) ta_44 hL_l rfl ho_1 rfl) ?_
          refine HA.val (k := 9) (v := .agg (e_api_Addr a).toArray) rfl rfl (by kernel_rfl) (by kernel_rfl) (want_by rfl rfl c_3) rfl (fun _ ⟨hL_l, c304⟩ => q_loadAgg (cs := (e_api_Addr a)) ta_44 rfl rfl (Blk.cells (k := 17) c304 rfl)) ?_
          refine HA.one (k := 10) ⟨⟨hL_l.is, (hS.box 0 rfl)⟩, (Go.Wk.at_nil _ _)⟩ (by kernel_rfl) ?_
          refine HS.call rfl (want_by rfl rfl c_3) rfl (ec en_35 rfl rfl) (ref03_Cmp_walk (fr := (Ow.box b_1 44 (e_api_Addr a).toArray :: fr)) (gi l n_2) a hS hM) ?_
          rintro _ h_6 ⟨F_5, r_4, rfl, hk, hS, hM⟩
          replace hK := hK.trans hk
          replace hL_l := hL_l.kp hk
          refine HA.val (k := 11) (v := .bool (decide (r_4 < 0))) rfl rfl (by kernel_rfl) (by kernel_rfl) (want_by rfl rfl c_3) rfl (fun _ ⟨hL_l, c304⟩ => q_lss rfl rfl) ?_
          refine HA.val (k := 12) (v := .bool (decide (r_4 < 0))) rfl rfl (by kernel_rfl) (by kernel_rfl) (want_none) rfl (fun _ ⟨hL_l, c304⟩ => q_pickK true rfl c_3 rfl) ?_
          refine HA.nil ⟨⟨hL_l.is, (hS.box 0 rfl)⟩, (Go.Wk.at_nil _ _)⟩ (by kernel_rfl) (thenQ_normal (?_))
          refine HW.cond (decide (r_4 < 0)) rfl (fun c_4 => ?_) (fun c_4 => ?_)
          · replace hM := hM.1 (of_decide_eq_true c_4)
            refine HW.skip (thenQ_normal (?_))
            refine HW.block ?_
            refine HW.region ?_
            refine HO.val (v := .int .i64 n_2) (want_none) rfl (q_move rfl) ?_
            obtain ⟨ho_2, hM⟩ := hM
            refine HO.val (v := .int .i64 (n_2 + 1)) (want_none) rfl (q_addN _ rfl rfl rfl ho_2.1 ho_2.2) ?_
            refine HO.val (v := .int .i64 (n_2 + 1)) (want_none) rfl (q_assign rfl) ?_
            refine HO.nil (blockQ_normal (thenQ_normal (?_)))
            rw [hKe_1] at hM
            exact ⟨n_2 + 1, ⟨F_5, rfl, rfl, rfl, rfl, hK, hS, hL_l, hM.1⟩, hM.2⟩
          · replace hM := hM.2 (of_decide_eq_false c_4)
            refine HW.exit (thenQ_exit (thenQ_exit (blockQ_exit (thenQ_normal (?_)))))
            exact ⟨F_5, n_2, rfl, rfl, rfl, rfl, hK, hS, hL_l, hM⟩
        · replace hM := hM.2 (of_decide_eq_false c_3)
          refine HA.past (k := 5) rfl rfl (by kernel_rfl) (by kernel_rfl) (past_by rfl rfl c_3) rfl ?_
          refine HA.past (k := 6) rfl rfl (by kernel_rfl) (by kernel_rfl) (past_by rfl rfl c_3) rfl ?_
          refine HA.past (k := 7) rfl rfl (by kernel_rfl) (by kernel_rfl) (past_by rfl rfl c_3) rfl ?_
          refine HA.past (k := 8) rfl rfl (by kernel_rfl) (by kernel_rfl) (past_by rfl rfl c_3) rfl ?_
          refine HA.past (k := 9) rfl rfl (by kernel_rfl) (by kernel_rfl) (past_by rfl rfl c_3) rfl ?_
          refine HA.one (k := 10) ⟨⟨hL_l.is, (hS.box 0 rfl)⟩, (Go.Wk.at_nil _ _)⟩ (by kernel_rfl) ?_
          refine HS.past rfl (past_by rfl rfl c_3) rfl ?_
          refine HA.past (k := 11) rfl rfl (by kernel_rfl) (by kernel_rfl) (past_by rfl rfl c_3) rfl ?_
          refine HA.val (k := 12) (v := .bool false) rfl rfl (by kernel_rfl) (by kernel_rfl) (want_none) rfl (fun _ ⟨hL_l, c304⟩ => q_pickK false rfl c_3 rfl) ?_
          refine HA.nil ⟨⟨hL_l.is, (hS.box 0 rfl)⟩, (Go.Wk.at_nil _ _)⟩ (by kernel_rfl) (thenQ_normal (?_))
          refine HW.condF rfl ?_
          refine HW.exit (thenQ_exit (thenQ_exit (blockQ_exit (thenQ_normal (?_)))))
          exact ⟨F_4, n_2, rfl, rfl, rfl, rfl, hK, hS, hL_l, hM⟩
      · rintro f_3 h_7 ⟨F_6, n_1, e0, e3, e4, e5, hK, hS, hL_l, hM⟩
        unfold ref11_Add_j2 at hM
        refine HW.fr [(0, vl), (3, .pointer (some ⟨b_1, 0, none⟩)), (4, .slice none 0 0), (5, .int .i64 n_1)] ⟨e0, e3, e4, e5, trivial⟩ ?_
        refine HW.seq ?_
        obtain ⟨ho_3, hM⟩ := hM
        obtain ⟨ho_4, hM⟩ := hM
        obtain ⟨ho_5, hM⟩ := hM
        obtain ⟨ho_6, hM⟩ := hM
        refine HW.regionA 13 mixed (fun h => (SliceIs h 17 e_api_Addr vl l) ∧ (Blk h b_1 (.cells (e_api_Addr a).toArray 44 (0, 0)))) [] (by kernel_rfl) ?_
        refine HA.val (k := 1) (v := vl) rfl rfl (by kernel_rfl) (by kernel_rfl) (want_none) rfl (fun _ ⟨hL_l, c203⟩ => q_move rfl) ?_
        refine HA.val (k := 2) (v := .int .i64 n_1) rfl rfl (by kernel_rfl) (by kernel_rfl) (want_none) rfl (fun _ ⟨hL_l, c203⟩ => q_move rfl) ?_
        refine HA.val (k := 3) (v := cutV 17 vl (0 : Int).toNat (n_1).toNat) rfl rfl (by kernel_rfl) (by kernel_rfl) (want_none) rfl (fun _ ⟨hL_l, c203⟩ => q_slH ts_22 hL_l rfl rfl ho_3) ?_
        refine HA.val (k := 5) (v := .agg (e_api_Addr a).toArray) rfl rfl (by kernel_rfl) (by kernel_rfl) (want_none) rfl (fun _ ⟨hL_l, c203⟩ => q_loadAgg (cs := (e_api_Addr a)) ta_44 rfl rfl (Blk.cells (k := 17) c203 rfl)) ?_
        refine HA.val (k := 8) (v := vl) rfl rfl (by kernel_rfl) (by kernel_rfl) (want_none) rfl (fun _ ⟨hL_l, c203⟩ => q_move rfl) ?_
        refine HA.val (k := 9) (v := .int .i64 n_1) rfl rfl (by kernel_rfl) (by kernel_rfl) (want_none) rfl (fun _ ⟨hL_l, c203⟩ => q_move rfl) ?_
        refine HA.val (k := 10) (v := cutV 17 vl (n_1).toNat ((l.length : Int)).toNat) rfl rfl (by kernel_rfl) (by kernel_rfl) (want_none) rfl (fun _ ⟨hL_l, c203⟩ => q_slL ts_22 hL_l rfl rfl ho_3) ?_
        refine HA.two (k := 0) (k' := 6) ⟨⟨hL_l.is, (hS.box 0 rfl)⟩, (Go.Wk.at_nil _ _)⟩ (by kernel_rfl) ?_ ?_
        · refine HS.eff rfl (want_none) rfl (st_litEmpty (α := T_api_Addr) e_api_Addr hS tl_22) ?_
          rintro _ h_8 ⟨b_3, rfl, hS, hk⟩
          replace hK := hK.trans hk
          replace hL_l := hL_l.kp hk
          refine HA.two (k := 4) (k' := 6) ⟨⟨hL_l.is, (hS.box 1 rfl)⟩, (Go.Wk.at_nil _ _)⟩ (by kernel_rfl) ?_ ?_
          · refine HS.eff rfl (want_none) rfl (st_append te_22 hS (i := 0) rfl (cutIs hL_l.is 0 n_1 (Int.le_refl _) ho_3.1 ho_3.2) rfl rfl rfl (by intro a _ u hu; simp [e_api_Addr, encI, encN, encB, encT] at hu; rcases hu with rfl | rfl | rfl | rfl | rfl | rfl | rfl | rfl | rfl | rfl | rfl | rfl | rfl | rfl | rfl | rfl | rfl <;> rfl) ho_4 (by omega)) ?_
            rintro v_1 h_9 ⟨hS, hk⟩
            replace hS : St F_6 (Ow.own 44 17 e_api_Addr v_1 (([] : List T_api_Addr) ++ (cut l 0 n_1)) :: Ow.box b_1 44 (e_api_Addr a).toArray :: fr) h_9 := hS
            replace hK := hK.trans hk
            replace hL_l := hL_l.kp hk
            refine HA.one (k := 6) ⟨⟨hL_l.is, (hS.box 1 rfl)⟩, (Go.Wk.at_nil _ _)⟩ (by kernel_rfl) ?_
            refine HS.eff rfl (want_none) rfl (st_lit (enc := e_api_Addr) (cells := #[.bool a.1, .int .u8 (b8 a.2 0), .int .u8 (b8 a.2 1), .int .u8 (b8 a.2 2), .int .u8 (b8 a.2 3), .int .u8 (b8 a.2 4), .int .u8 (b8 a.2 5), .int .u8 (b8 a.2 6), .int .u8 (b8 a.2 7), .int .u8 (b8 a.2 8), .int .u8 (b8 a.2 9), .int .u8 (b8 a.2 10), .int .u8 (b8 a.2 11), .int .u8 (b8 a.2 12), .int .u8 (b8 a.2 13), .int .u8 (b8 a.2 14), .int .u8 (b8 a.2 15)]) #[.bool false, .int .u8 0, .int .u8 0, .int .u8 0, .int .u8 0, .int .u8 0, .int .u8 0, .int .u8 0, .int .u8 0, .int .u8 0, .int .u8 0, .int .u8 0, .int .u8 0, .int .u8 0, .int .u8 0, .int .u8 0, .int .u8 0] ([a] : List T_api_Addr) hS tl_22 (by decide) (by decide) (by kernel_rfl) (by kernel_rfl) rfl (by intro x hx; rfl) rfl) ?_
            rintro _ h_10 ⟨b_4, rfl, hS, hk⟩
            replace hK := hK.trans hk
            replace hL_l := hL_l.kp hk
            refine HA.one (k := 7) ⟨⟨hL_l.is, (hS.box 2 rfl)⟩, (Go.Wk.at_nil _ _)⟩ (by kernel_rfl) ?_
            refine HS.eff rfl (want_none) rfl (st_append te_22 hS (i := 1) rfl (hS.own 0 rfl).slice rfl rfl rfl (by intro a _ u hu; simp [e_api_Addr, encI, encN, encB, encT] at hu; rcases hu with rfl | rfl | rfl | rfl | rfl | rfl | rfl | rfl | rfl | rfl | rfl | rfl | rfl | rfl | rfl | rfl | rfl <;> rfl) ho_5 (by omega)) ?_
            rintro v_2 h_11 ⟨hS, hk⟩
            replace hS : St F_6 (Ow.own 44 17 e_api_Addr (.slice (some ⟨b_4, 0, none⟩) 1 1) ([a] : List T_api_Addr) :: Ow.own 44 17 e_api_Addr v_2 ((([] : List T_api_Addr) ++ (cut l 0 n_1)) ++ ([a] : List T_api_Addr)) :: Ow.box b_1 44 (e_api_Addr a).toArray :: fr) h_11 := hS
            replace hK := hK.trans hk
            replace hL_l := hL_l.kp hk
            refine HA.one (k := 11) ⟨⟨hL_l.is, (hS.box 2 rfl)⟩, (Go.Wk.at_nil _ _)⟩ (by kernel_rfl) ?_
            refine HS.eff rfl (want_none) rfl (st_append te_22 hS (i := 1) rfl (cutIs hL_l.is n_1 (l.length : Int) ho_3.1 ho_3.2 (Int.le_refl _)) rfl rfl rfl (by intro a _ u hu; simp [e_api_Addr, encI, encN, encB, encT] at hu; rcases hu with rfl | rfl | rfl | rfl | rfl | rfl | rfl | rfl | rfl | rfl | rfl | rfl | rfl | rfl | rfl | rfl | rfl <;> rfl) ho_6 (by omega)) ?_
            rintro v_3 h_12 ⟨hS, hk⟩
            replace hS : St F_6 (Ow.own 44 17 e_api_Addr (.slice (some ⟨b_4, 0, none⟩) 1 1) ([a] : List T_api_Addr) :: Ow.own 44 17 e_api_Addr v_3 (((([] : List T_api_Addr) ++ (cut l 0 n_1)) ++ ([a] : List T_api_Addr)) ++ (cut l n_1 (l.length : Int))) :: Ow.box b_1 44 (e_api_Addr a).toArray :: fr) h_12 := hS
            replace hK := hK.trans hk
            replace hL_l := hL_l.kp hk
            refine HA.val (k := 12) (v := v_3) rfl rfl (by kernel_rfl) (by kernel_rfl) (want_none) rfl (fun _ ⟨hL_l, c203⟩ => q_assign rfl) ?_
            refine HA.nil ⟨⟨hL_l.is, (hS.box 2 rfl)⟩, (Go.Wk.at_nil _ _)⟩ (by kernel_rfl) (thenQ_normal (?_))
            refine HW.ret (?_)
            refine ⟨.inr rfl, v_3, res1 rfl (rt rfl), ?_⟩
            replace hS : St F_6 (Ow.own 44 17 e_api_Addr v_3 (((([] : List T_api_Addr) ++ (cut l 0 n_1)) ++ ([a] : List T_api_Addr)) ++ (cut l n_1 (l.length : Int))) :: Ow.own 44 17 e_api_Addr (.slice (some ⟨b_4, 0, none⟩) 1 1) ([a] : List T_api_Addr) :: Ow.box b_1 44 (e_api_Addr a).toArray :: fr) h_12 := hS.perm2 [1, 0, 2] 3 rfl rfl
            obtain ⟨F_7, hS, hk, hL_2⟩ := hS.freezeOwn
            replace hK := hK.trans hk
            replace hL_l := hL_l.kp hk
            replace hS : St F_7 (fr) h_12 := hS.perm2 [] 2 rfl rfl
            exact ⟨F_7, ((([] : List T_api_Addr) ++ (cut l 0 n_1)) ++ ([a] : List T_api_Addr)) ++ (cut l n_1 (l.length : Int)), v_3, rfl, hK, hS, hL_l, hL_2, hM⟩
          · refine HS.eff rfl (want_none) rfl (st_lit (enc := e_api_Addr) (cells := #[.bool a.1, .int .u8 (b8 a.2 0), .int .u8 (b8 a.2 1), .int .u8 (b8 a.2 2), .int .u8 (b8 a.2 3), .int .u8 (b8 a.2 4), .int .u8 (b8 a.2 5), .int .u8 (b8 a.2 6), .int .u8 (b8 a.2 7), .int .u8 (b8 a.2 8), .int .u8 (b8 a.2 9), .int .u8 (b8 a.2 10), .int .u8 (b8 a.2 11), .int .u8 (b8 a.2 12), .int .u8 (b8 a.2 13), .int .u8 (b8 a.2 14), .int .u8 (b8 a.2 15)]) #[.bool false, .int .u8 0, .int .u8 0, .int .u8 0, .int .u8 0, .int .u8 0, .int .u8 0, .int .u8 0, .int .u8 0, .int .u8 0, .int .u8 0, .int .u8 0, .int .u8 0, .int .u8 0, .int .u8 0, .int .u8 0, .int .u8 0] ([a] : List T_api_Addr) hS tl_22 (by decide) (by decide) (by kernel_rfl) (by kernel_rfl) rfl (by intro x hx; rfl) rfl) ?_
            rintro _ h_9 ⟨b_4, rfl, hS, hk⟩
            replace hK := hK.trans hk
            replace hL_l := hL_l.kp hk
            refine HA.one (k := 4) ⟨⟨hL_l.is, (hS.box 2 rfl)⟩, (Go.Wk.at_nil _ _)⟩ (by kernel_rfl) ?_
            refine HS.eff rfl (want_none) rfl (st_append te_22 hS (i := 1) rfl (cutIs hL_l.is 0 n_1 (Int.le_refl _) ho_3.1 ho_3.2) rfl rfl rfl (by intro a _ u hu; simp [e_api_Addr, encI, encN, encB, encT] at hu; rcases hu with rfl | rfl | rfl | rfl | rfl | rfl | rfl | rfl | rfl | rfl | rfl | rfl | rfl | rfl | rfl | rfl | rfl <;> rfl) ho_4 (by omega)) ?_
            rintro v_1 h_10 ⟨hS, hk⟩
            replace hS : St F_6 (Ow.own 44 17 e_api_Addr (.slice (some ⟨b_4, 0, none⟩) 1 1) ([a] : List T_api_Addr) :: Ow.own 44 17 e_api_Addr v_1 (([] : List T_api_Addr) ++ (cut l 0 n_1)) :: Ow.box b_1 44 (e_api_Addr a).toArray :: fr) h_10 := hS
            replace hK := hK.trans hk
            replace hL_l := hL_l.kp hk
            refine HA.one (k := 7) ⟨⟨hL_l.is, (hS.box 2 rfl)⟩, (Go.Wk.at_nil _ _)⟩ (by kernel_rfl) ?_
            refine HS.eff rfl (want_none) rfl (st_append te_22 hS (i := 1) rfl (hS.own 0 rfl).slice rfl rfl rfl (by intro a _ u hu; simp [e_api_Addr, encI, encN, encB, encT] at hu; rcases hu with rfl | rfl | rfl | rfl | rfl | rfl | rfl | rfl | rfl | rfl | rfl | rfl | rfl | rfl | rfl | rfl | rfl <;> rfl) ho_5 (by omega)) ?_
            rintro v_2 h_11 ⟨hS, hk⟩
            replace hS : St F_6 (Ow.own 44 17 e_api_Addr (.slice (some ⟨b_4, 0, none⟩) 1 1) ([a] : List T_api_Addr) :: Ow.own 44 17 e_api_Addr v_2 ((([] : List T_api_Addr) ++ (cut l 0 n_1)) ++ ([a] : List T_api_Addr)) :: Ow.box b_1 44 (e_api_Addr a).toArray :: fr) h_11 := hS
            replace hK := hK.trans hk
            replace hL_l := hL_l.kp hk
            refine HA.one (k := 11) ⟨⟨hL_l.is, (hS.box 2 rfl)⟩, (Go.Wk.at_nil _ _)⟩ (by kernel_rfl) ?_
            refine HS.eff rfl (want_none) rfl (st_append te_22 hS (i := 1) rfl (cutIs hL_l.is n_1 (l.length : Int) ho_3.1 ho_3.2 (Int.le_refl _)) rfl rfl rfl (by intro a _ u hu; simp [e_api_Addr, encI, encN, encB, encT] at hu; rcases hu with rfl | rfl | rfl | rfl | rfl | rfl | rfl | rfl | rfl | rfl | rfl | rfl | rfl | rfl | rfl | rfl | rfl <;> rfl) ho_6 (by omega)) ?_
            rintro v_3 h_12 ⟨hS, hk⟩
            replace hS : St F_6 (Ow.own 44 17 e_api_Addr (.slice (some ⟨b_4, 0, none⟩) 1 1) ([a] : List T_api_Addr) :: Ow.own 44 17 e_api_Addr v_3 (((([] : List T_api_Addr) ++ (cut l 0 n_1)) ++ ([a] : List T_api_Addr)) ++ (cut l n_1 (l.length : Int))) :: Ow.box b_1 44 (e_api_Addr a).toArray :: fr) h_12 := hS
            replace hK := hK.trans hk
            replace hL_l := hL_l.kp hk
            refine HA.val (k := 12) (v := v_3) rfl rfl (by kernel_rfl) (by kernel_rfl) (want_none) rfl (fun _ ⟨hL_l, c203⟩ => q_assign rfl) ?_
            refine HA.nil ⟨⟨hL_l.is, (hS.box 2 rfl)⟩, (Go.Wk.at_nil _ _)⟩ (by kernel_rfl) (thenQ_normal (?_))
            refine HW.ret (?_)
            refine ⟨.inr rfl, v_3, res1 rfl (rt rfl), ?_⟩
            replace hS : St F_6 (Ow.own 44 17 e_api_Addr v_3 (((([] : List T_api_Addr) ++ (cut l 0 n_1)) ++ ([a] : List T_api_Addr)) ++ (cut l n_1 (l.length : Int))) :: Ow.own 44 17 e_api_Addr (.slice (some ⟨b_4, 0, none⟩) 1 1) ([a] : List T_api_Addr) :: Ow.box b_1 44 (e_api_Addr a).toArray :: fr) h_12 := hS.perm2 [1, 0, 2] 3 rfl rfl
            obtain ⟨F_7, hS, hk, hL_2⟩ := hS.freezeOwn
            replace hK := hK.trans hk
            replace hL_l := hL_l.kp hk
            replace hS : St F_7 (fr) h_12 := hS.perm2 [] 2 rfl rfl
            exact ⟨F_7, ((([] : List T_api_Addr) ++ (cut l 0 n_1)) ++ ([a] : List T_api_Addr)) ++ (cut l n_1 (l.length : Int)), v_3, rfl, hK, hS, hL_l, hL_2, hM⟩
        · refine HS.eff rfl (want_none) rfl (st_lit (enc := e_api_Addr) (cells := #[.bool a.1, .int .u8 (b8 a.2 0), .int .u8 (b8 a.2 1), .int .u8 (b8 a.2 2), .int .u8 (b8 a.2 3), .int .u8 (b8 a.2 4), .int .u8 (b8 a.2 5), .int .u8 (b8 a.2 6), .int .u8 (b8 a.2 7), .int .u8 (b8 a.2 8), .int .u8 (b8 a.2 9), .int .u8 (b8 a.2 10), .int .u8 (b8 a.2 11), .int .u8 (b8 a.2 12), .int .u8 (b8 a.2 13), .int .u8 (b8 a.2 14), .int .u8 (b8 a.2 15)]) #[.bool false, .int .u8 0, .int .u8 0, .int .u8 0, .int .u8 0, .int .u8 0, .int .u8 0, .int .u8 0, .int .u8 0, .int .u8 0, .int .u8 0, .int .u8 0, .int .u8 0, .int .u8 0, .int .u8 0, .int .u8 0, .int .u8 0] ([a] : List T_api_Addr) hS tl_22 (by decide) (by decide) (by kernel_rfl) (by kernel_rfl) rfl (by intro x hx; rfl) rfl) ?_
          rintro _ h_8 ⟨b_3, rfl, hS, hk⟩
          replace hK := hK.trans hk
          replace hL_l := hL_l.kp hk
          refine HA.one (k := 0) ⟨⟨hL_l.is, (hS.box 1 rfl)⟩, (Go.Wk.at_nil _ _)⟩ (by kernel_rfl) ?_
          refine HS.eff rfl (want_none) rfl (st_litEmpty (α := T_api_Addr) e_api_Addr hS tl_22) ?_
          rintro _ h_9 ⟨b_4, rfl, hS, hk⟩
          replace hK := hK.trans hk
          replace hL_l := hL_l.kp hk
          refine HA.one (k := 4) ⟨⟨hL_l.is, (hS.box 2 rfl)⟩, (Go.Wk.at_nil _ _)⟩ (by kernel_rfl) ?_
          refine HS.eff rfl (want_none) rfl (st_append te_22 hS (i := 0) rfl (cutIs hL_l.is 0 n_1 (Int.le_refl _) ho_3.1 ho_3.2) rfl rfl rfl (by intro a _ u hu; simp [e_api_Addr, encI, encN, encB, encT] at hu; rcases hu with rfl | rfl | rfl | rfl | rfl | rfl | rfl | rfl | rfl | rfl | rfl | rfl | rfl | rfl | rfl | rfl | rfl <;> rfl) ho_4 (by omega)) ?_
          rintro v_1 h_10 ⟨hS, hk⟩
          replace hS : St F_6 (Ow.own 44 17 e_api_Addr v_1 (([] : List T_api_Addr) ++ (cut l 0 n_1)) :: Ow.own 44 17 e_api_Addr (.slice (some ⟨b_3, 0, none⟩) 1 1) ([a] : List T_api_Addr) :: Ow.box b_1 44 (e_api_Addr a).toArray :: fr) h_10 := hS
          replace hK := hK.trans hk
          replace hL_l := hL_l.kp hk
          refine HA.one (k := 7) ⟨⟨hL_l.is, (hS.box 2 rfl)⟩, (Go.Wk.at_nil _ _)⟩ (by kernel_rfl) ?_
          refine HS.eff rfl (want_none) rfl (st_append te_22 hS (i := 0) rfl (hS.own 1 rfl).slice rfl rfl rfl (by intro a _ u hu; simp [e_api_Addr, encI, encN, encB, encT] at hu; rcases hu with rfl | rfl | rfl | rfl | rfl | rfl | rfl | rfl | rfl | rfl | rfl | rfl | rfl | rfl | rfl | rfl | rfl <;> rfl) ho_5 (by omega)) ?_
          rintro v_2 h_11 ⟨hS, hk⟩
          replace hS : St F_6 (Ow.own 44 17 e_api_Addr v_2 ((([] : List T_api_Addr) ++ (cut l 0 n_1)) ++ ([a] : List T_api_Addr)) :: Ow.own 44 17 e_api_Addr (.slice (some ⟨b_3, 0, none⟩) 1 1) ([a] : List T_api_Addr) :: Ow.box b_1 44 (e_api_Addr a).toArray :: fr) h_11 := hS
          replace hK := hK.trans hk
          replace hL_l := hL_l.kp hk
          refine HA.one (k := 11) ⟨⟨hL_l.is, (hS.box 2 rfl)⟩, (Go.Wk.at_nil _ _)⟩ (by kernel_rfl) ?_
          refine HS.eff rfl (want_none) rfl (st_append te_22 hS (i := 0) rfl (cutIs hL_l.is n_1 (l.length : Int) ho_3.1 ho_3.2 (Int.le_refl _)) rfl rfl rfl (by intro a _ u hu; simp [e_api_Addr, encI, encN, encB, encT] at hu; rcases hu with rfl | rfl | rfl | rfl | rfl | rfl | rfl | rfl | rfl | rfl | rfl | rfl | rfl | rfl | rfl | rfl | rfl <;> rfl) ho_6 (by omega)) ?_
          rintro v_3 h_12 ⟨hS, hk⟩
          replace hS : St F_6 (Ow.own 44 17 e_api_Addr v_3 (((([] : List T_api_Addr) ++ (cut l 0 n_1)) ++ ([a] : List T_api_Addr)) ++ (cut l n_1 (l.length : Int))) :: Ow.own 44 17 e_api_Addr (.slice (some ⟨b_3, 0, none⟩) 1 1) ([a] : List T_api_Addr) :: Ow.box b_1 44 (e_api_Addr a).toArray :: fr) h_12 := hS
          replace hK := hK.trans hk
          replace hL_l := hL_l.kp hk
          refine HA.val (k := 12) (v := v_3) rfl rfl (by kernel_rfl) (by kernel_rfl) (want_none) rfl (fun _ ⟨hL_l, c203⟩ => q_assign rfl) ?_
          refine HA.nil ⟨⟨hL_l.is, (hS.box 2 rfl)⟩, (Go.Wk.at_nil _ _)⟩ (by kernel_rfl) (thenQ_normal (?_))
          refine HW.ret (?_)
          refine ⟨.inr rfl, v_3, res1 rfl (rt rfl), ?_⟩
          obtain ⟨F_7, hS, hk, hL_2⟩ := hS.freezeOwn
          replace hK := hK.trans hk
          replace hL_l := hL_l.kp hk
          replace hS : St F_7 (fr) h_12 := hS.perm2 [] 2 rfl rfl
          exact ⟨F_7, ((([] : List T_api_Addr) ++ (cut l 0 n_1)) ++ ([a] : List T_api_Addr)) ++ (cut l n_1 (l.length : Int)), v_3, rfl, hK, hS, hL_l, hL_2, hM⟩

def ref11_Of_l1 (l : List T_api_Addr) (Q : (List T_api_Addr) → Prop) (K_1 : (List T_api_Addr) → Int → Prop) (out_1 : List T_api_Addr) (i_1 : Int) : Prop :=
  (i_1 < (l.length : Int) → ((0 : Int) ≤ i_1 ∧ i_1 < (l.length : Int)) ∧ (ref11_Add_W out_1 (gi l i_1) (fun r_2 => (I64 (i_1 + 1)) ∧ (K_1 r_2 (i_1 + 1))))) ∧ (¬ (i_1 < (l.length : Int)) → Q out_1)
def ref11_Of_W (l : List T_api_Addr) (Q : (List T_api_Addr) → Prop) : Prop :=
  loopW (fun (K_1 : (List T_api_Addr × Int) → Prop) (s : List T_api_Addr × Int) => ref11_Of_l1 l Q (fun out_1 i_1 => K_1 (out_1, i_1)) s.1 s.2) ([], 0)
set_option maxHeartbeats 40000000 in
set_option maxRecDepth 100000 in
theorem ref11_Of_walk {F : Fz} {fr : List Ow} {h0 : Heap} (l : List T_api_Addr) (vl : Value) (hS : St F (fr) h0) (hL_l : SliceF F h0 17 e_api_Addr vl l) {Q : (List T_api_Addr) → Prop} (hM : ref11_Of_W l Q) :
    HC Tryz.prog 6 #[vl] h0 fun u h' => ∃ (F' : Fz) (r_1 : List T_api_Addr) (vr_1 : Value), u = vr_1 ∧ Kp F h0 F' h' ∧ St F' (fr) h' ∧ (SliceF F' h' 17 e_api_Addr vl l) ∧ (SliceF F' h' 17 e_api_Addr vr_1 r_1) ∧ Q r_1 := by
  unfold ref11_Of_W at hM
  have hK := Kp.refl F h0
  refine HC.of_HW (n := 19) Tryz.func6 rfl rfl (Nat.le_of_ble_eq_true rfl) ?_
  refine HW.seq ?_
  refine HW.region ?_
  refine HO.val (v := .slice none 0 0) (want_none) rfl (q_assign rfl) ?_
  refine HO.nil (thenQ_normal (?_))
  refine HW.seq ?_
  refine HW.region ?_
  refine HO.eff (want_none) rfl (st_litEmpty (α := T_api_Addr) e_api_Addr hS tl_22) ?_
  rintro _ h_1 ⟨b_1, rfl, hS, hk⟩
  replace hK := hK.trans hk
  replace hL_l := hL_l.kp hk
  refine HO.val (v := .slice (some ⟨b_1, 0, none⟩) 0 0) (want_none) rfl (q_assign rfl) ?_
  refine HO.nil (thenQ_normal (?_))
  refine HW.seq ?_
  refine HW.seq ?_
  refine HW.region ?_
  refine HO.val (v := .int .i64 0) (want_none) rfl (q_assign rfl) ?_
  refine HO.nil (thenQ_normal (?_))
  refine HW.block ?_
  obtain ⟨I_1, m_1, hI_1, hR_1⟩ := hM
  obtain ⟨F_1, hS, hk, hL_3⟩ := hS.freezeOwn
  replace hK := hK.trans hk
  replace hL_l := hL_l.kp hk
  refine HW.loop (S := List T_api_Addr × Int) (fun s f h => match s with | (out_1, i_1) => ∃ (F' : Fz) (vout_1 : Value), f 0 = vl ∧ f 2 = .slice none 0 0 ∧ f 3 = vout_1 ∧ f 4 = .int .i64 i_1 ∧ Kp F h0 F' h ∧ St F' (fr) h ∧ (SliceF F' h 17 e_api_Addr vl l) ∧ (SliceF F' h 17 e_api_Addr vout_1 out_1) ∧ I_1 (out_1, i_1)) m_1 ([], 0) ⟨F_1, .slice (some ⟨b_1, 0, none⟩) 0 0, rfl, rfl, rfl, rfl, hK, hS, hL_l, hL_3, hI_1⟩ ?_
  rintro ⟨out_1, i_1⟩ f_1 h_2 ⟨F_2, vout_1, e0, e2, e3, e4, hK, hS, hL_l, hL_2, hI0⟩
  obtain ⟨K_1, hKe_1⟩ : ∃ K : (List T_api_Addr) → Int → Prop, K = fun out_1' i_1' => I_1 (out_1', i_1') ∧ m_1 (out_1', i_1') < m_1 (out_1, i_1) := ⟨_, rfl⟩
  have hM : ref11_Of_l1 l Q K_1 out_1 i_1 := by rw [hKe_1]; exact hR_1 (out_1, i_1) hI0
  unfold ref11_Of_l1 at hM
  refine HW.fr [(0, vl), (2, .slice none 0 0), (3, vout_1), (4, .int .i64 i_1)] ⟨e0, e2, e3, e4, trivial⟩ ?_
  refine HW.seq ?_
  refine HW.seq ?_
  refine HW.region ?_
  refine HO.val (v := .int .i64 i_1) (want_none) rfl (q_move rfl) ?_
  refine HO.val (v := vl) (want_none) rfl (q_move rfl) ?_
  refine HO.val (v := .int .i64 (l.length : Int)) (want_none) rfl (q_len ts_22 (shp hL_l.is) rfl rfl) ?_
  refine HO.val (v := .bool (decide (i_1 < (l.length : Int)))) (want_none) rfl (q_lss rfl rfl) ?_
  refine HO.nil (thenQ_normal (?_))
  refine HW.cond (decide (i_1 < (l.length : Int))) rfl (fun c_1 => ?_) (fun c_1 => ?_)
  · replace hM := hM.1 (of_decide_eq_true c_1)
    refine HW.skip (thenQ_normal (?_))
    refine HW.seq ?_
    refine HW.block ?_
    refine HW.region ?_
    refine HO.val (v := vout_1) (want_none) rfl (q_move rfl) ?_
    refine HO.val (v := vl) (want_none) rfl (q_move rfl) ?_
    refine HO.val (v := .int .i64 i_1) (want_none) rfl (q_move rfl) ?_
    obtain ⟨ho_1, hM⟩ := hM
    refine HO.val (v := elemPtr 17 vl (i_1).toNat) (want_none) rfl (q_idx ts_22 hL_l.is rfl rfl ho_1) ?_
    refine HO.val (v := .agg (e_api_Addr (gi l i_1)).toArray) (want_none) rfl (q_ldElemAgg (cs := (e_api_Addr (gi l i_1))) ta_44 hL_l.is rfl ho_1 rfl) ?_
    refine HO.call (want_none) rfl (ec en_19 rfl rfl) (ref11_Add_walk (fr := (fr)) out_1 (gi l i_1) vout_1 hS hL_2 hM) ?_
    rintro vr_2 h_3 ⟨F_3, r_2, _, rfl, hk, hS, _, hL_4, hM⟩
    replace hK := hK.trans hk
    replace hL_l := hL_l.kp hk
    refine HO.val (v := vr_2) (want_none) rfl (q_assign rfl) ?_
    refine HO.nil (blockQ_normal (thenQ_normal (?_)))
    refine HW.region ?_
    refine HO.val (v := .int .i64 i_1) (want_none) rfl (q_move rfl) ?_
    obtain ⟨ho_2, hM⟩ := hM
    refine HO.val (v := .int .i64 (i_1 + 1)) (want_none) rfl (q_addN _ rfl rfl rfl ho_2.1 ho_2.2) ?_
    refine HO.val (v := .int .i64 (i_1 + 1)) (want_none) rfl (q_assign rfl) ?_
    refine HO.nil (thenQ_normal (?_))
    rw [hKe_1] at hM
    exact ⟨(r_2, i_1 + 1), ⟨F_3, vr_2, rfl, rfl, rfl, rfl, hK, hS, hL_l, hL_4, hM.1⟩, hM.2⟩
  · replace hM := hM.2 (of_decide_eq_false c_1)
    refine HW.exit (thenQ_exit (thenQ_exit (blockQ_exit (thenQ_normal (?_)))))
    refine HW.seq ?_
    refine HW.region ?_
    refine HO.val (v := vout_1) (want_none) rfl (q_move rfl) ?_
    refine HO.val (v := vout_1) (want_none) rfl (q_assign rfl) ?_
    refine HO.nil (thenQ_normal (?_))
    refine HW.ret (?_)
    refine ⟨.inr rfl, vout_1, res1 rfl (rt rfl), ?_⟩
    exact ⟨F_2, out_1, vout_1, rfl, hK, hS, hL_l, hL_2, hM⟩

def ref19_Own_W (f_Exclude : Bool) (f_Sources : List T_api_Addr) (Q : Bool → (List T_api_Addr) → Prop) : Prop :=
  ref11_Of_W f_Sources (fun r_1 => Q f_Exclude r_1)
set_option maxHeartbeats 40000000 in
set_option maxRecDepth 100000 in
theorem ref19_Own_walk {F : Fz} {fr : List Ow} {h0 : Heap} (f_Exclude : Bool) (f_Sources : List T_api_Addr) (vf_Sources : Value) (hS : St F (fr) h0) (hL_f_Sources : SliceF F h0 17 e_api_Addr vf_Sources f_Sources) {Q : Bool → (List T_api_Addr) → Prop} (hM : ref19_Own_W f_Exclude f_Sources Q) :
    HC Tryz.prog 28 #[.agg #[.bool f_Exclude, vf_Sources]] h0 fun u h' => ∃ (F' : Fz) (r_0_1 : Bool) (r_1_1 : List T_api_Addr) (vr_1_1 : Value), u = .agg #[.bool r_0_1, vr_1_1] ∧ Kp F h0 F' h' ∧ St F' (fr) h' ∧ (SliceF F' h' 17 e_api_Addr vf_Sources f_Sources) ∧ (SliceF F' h' 17 e_api_Addr vr_1_1 r_1_1) ∧ Q r_0_1 r_1_1 := by
  unfold ref19_Own_W at hM
  have hK := Kp.refl F h0
  refine HC.of_HW (n := 9) Tryz.func28 rfl rfl (Nat.le_of_ble_eq_true rfl) ?_
  refine HW.seq ?_
  refine HW.region ?_
  refine HO.eff (want_none) rfl (st_box (c := #[.bool f_Exclude, vf_Sources]) (k' := 2) hS rfl rfl) ?_
  rintro _ h_1 ⟨b_1, rfl, hS, hk⟩
  replace hK := hK.trans hk
  replace hL_f_Sources := hL_f_Sources.kp hk
  refine HO.eff (want_none) rfl (st_alloc (c := #[.bool false, .slice none 0 0]) hS tz_34 rfl) ?_
  rintro _ h_2 ⟨b_2, rfl, hS, hk⟩
  replace hK := hK.trans hk
  replace hL_f_Sources := hL_f_Sources.kp hk
  refine HO.nil (thenQ_normal (?_))
  refine HW.seq ?_
  refine HW.regionA 7 mixed (fun h => (Blk h b_1 (.cells #[.bool f_Exclude, vf_Sources] 34 (0, 0)))) [] (by kernel_rfl) ?_
  refine HA.val (k := 0) (v := .pointer (some ⟨b_1, 0, none⟩)) rfl rfl (by kernel_rfl) (by kernel_rfl) (want_none) rfl (fun _ c201 => q_fieldAddr fa_34_0 rfl rfl) ?_
  refine HA.val (k := 1) (v := .bool f_Exclude) rfl rfl (by kernel_rfl) (by kernel_rfl) (want_none) rfl (fun _ c201 => q_load to_4 rfl (Blk.cell c201 rfl)) ?_
  refine HA.val (k := 2) (v := .pointer (some ⟨b_1, 1, none⟩)) rfl rfl (by kernel_rfl) (by kernel_rfl) (want_none) rfl (fun _ c201 => q_fieldAddr fa_34_1 rfl rfl) ?_
  refine HA.val (k := 3) (v := vf_Sources) rfl rfl (by kernel_rfl) (by kernel_rfl) (want_none) rfl (fun _ c201 => q_load to_22 rfl (Blk.cell c201 rfl)) ?_
  refine HA.one (k := 4) ⟨(hS.box 1 rfl), (Go.Wk.at_nil _ _)⟩ (by kernel_rfl) ?_
  refine HS.call rfl (want_none) rfl (ec en_6 rfl rfl) (ref11_Of_walk (fr := (Ow.box b_2 34 #[.bool false, .slice none 0 0] :: Ow.box b_1 34 #[.bool f_Exclude, vf_Sources] :: fr)) f_Sources vf_Sources hS hL_f_Sources hM) ?_
  rintro vr_1 h_3 ⟨F_1, r_1, _, rfl, hk, hS, _, hL_2, hM⟩
  replace hK := hK.trans hk
  replace hL_f_Sources := hL_f_Sources.kp hk
  refine Go.Wk.HA.re (fun h => (SliceIs h 17 e_api_Addr vr_1 r_1) ∧ (Blk h b_1 (.cells #[.bool f_Exclude, vf_Sources] 34 (0, 0)))) [] (fun L_ h_ hL_ ⟨hL_2, c201⟩ hs_ => ⟨c201, (Go.Wk.at_nil _ _)⟩) ?_
  refine HA.val (k := 5) (v := .agg #[.bool f_Exclude, vr_1]) rfl rfl (by kernel_rfl) (by kernel_rfl) (want_none) rfl (fun _ ⟨hL_2, c201⟩ => q_build tp_34 (fill_cons (cs' := #[.bool f_Exclude, .slice none 0 0]) (vc := #[.bool f_Exclude]) rfl rfl rfl (Nat.le_of_ble_eq_true rfl) rfl (fill_cons (cs' := #[.bool f_Exclude, vr_1]) (vc := #[vr_1]) rfl (shp hL_2).cells rfl (Nat.le_of_ble_eq_true rfl) rfl rfl))) ?_
  refine HA.one (k := 6) ⟨⟨hL_2.is, (hS.box 1 rfl)⟩, (Go.Wk.at_nil _ _)⟩ (by kernel_rfl) ?_
  refine HS.sto rfl (want_none) rfl (st_storeAgg (c' := #[.bool f_Exclude, vr_1]) hS (i := 0) rfl ta_34 rfl rfl rfl (List.forall_mem_cons.2 ⟨rfl, (List.forall_mem_cons.2 ⟨(shp hL_2.is).one, (fun _ h => by cases h)⟩)⟩) (Nat.le_of_ble_eq_true rfl) rfl) ?_
  rintro h_4 ⟨hS, hk⟩
  replace hS : St F_1 (Ow.box b_2 34 #[.bool f_Exclude, vr_1] :: Ow.box b_1 34 #[.bool f_Exclude, vf_Sources] :: fr) h_4 := hS
  replace hK := hK.trans hk
  replace hL_f_Sources := hL_f_Sources.kp hk
  replace hL_2 := hL_2.kp hk
  refine HA.nil ⟨⟨hL_2.is, (hS.box 1 rfl)⟩, (Go.Wk.at_nil _ _)⟩ (by kernel_rfl) (thenQ_normal (?_))
  refine HW.ret (?_)
  refine ⟨.inr rfl, .agg #[.bool f_Exclude, vr_1], res1 rfl (rca (cs := [.bool f_Exclude, vr_1]) ta_34 rfl rfl (Blk.cells (k := 2) (hS.box 0 rfl) rfl)), ?_⟩
  replace hS : St F_1 (fr) h_4 := hS.perm2 [] 2 rfl rfl
  exact ⟨F_1, f_Exclude, r_1, vr_1, rfl, hK, hS, hL_f_Sources, hL_2, hM⟩

def law19_Few_W (f_Exclude : Bool) (f_Sources : List T_api_Addr) (Q : Bool → (List T_api_Addr) → Prop) : Prop :=
  law08_Addrs_W f_Sources 6 (fun r_1 => ref19_Own_W f_Exclude r_1 (fun r_0_2 r_1_2 => Q r_0_2 r_1_2))
set_option maxHeartbeats 40000000 in
set_option maxRecDepth 100000 in
theorem law19_Few_walk {F : Fz} {fr : List Ow} {h0 : Heap} (f_Exclude : Bool) (f_Sources : List T_api_Addr) (vf_Sources : Value) (hS : St F (fr) h0) (hL_f_Sources : SliceF F h0 17 e_api_Addr vf_Sources f_Sources) {Q : Bool → (List T_api_Addr) → Prop} (hM : law19_Few_W f_Exclude f_Sources Q) :
    HC Tryz.prog 13 #[.agg #[.bool f_Exclude, vf_Sources]] h0 fun u h' => ∃ (F' : Fz) (r_0_1 : Bool) (r_1_1 : List T_api_Addr) (vr_1_1 : Value), u = .agg #[.bool r_0_1, vr_1_1] ∧ Kp F h0 F' h' ∧ St F' (fr) h' ∧ (SliceF F' h' 17 e_api_Addr vf_Sources f_Sources) ∧ (SliceF F' h' 17 e_api_Addr vr_1_1 r_1_1) ∧ Q r_0_1 r_1_1 := by
  unfold law19_Few_W at hM
  have hK := Kp.refl F h0
  refine HC.of_HW (n := 10) Tryz.func13 rfl rfl (Nat.le_of_ble_eq_true rfl) ?_
  refine HW.seq ?_
  refine HW.region ?_
  refine HO.eff (want_none) rfl (st_box (c := #[.bool f_Exclude, vf_Sources]) (k' := 2) hS rfl rfl) ?_
  rintro _ h_1 ⟨b_1, rfl, hS, hk⟩
  replace hK := hK.trans hk
  replace hL_f_Sources := hL_f_Sources.kp hk
  refine HO.eff (want_none) rfl (st_alloc (c := #[.bool false, .slice none 0 0]) hS tz_34 rfl) ?_
  rintro _ h_2 ⟨b_2, rfl, hS, hk⟩
  replace hK := hK.trans hk
  replace hL_f_Sources := hL_f_Sources.kp hk
  refine HO.nil (thenQ_normal (?_))
  refine HW.seq ?_
  refine HW.regionA 8 mixed (fun h => (Blk h b_1 (.cells #[.bool f_Exclude, vf_Sources] 34 (0, 0)))) [] (by kernel_rfl) ?_
  refine HA.val (k := 0) (v := .pointer (some ⟨b_1, 0, none⟩)) rfl rfl (by kernel_rfl) (by kernel_rfl) (want_none) rfl (fun _ c201 => q_fieldAddr fa_34_0 rfl rfl) ?_
  refine HA.val (k := 1) (v := .bool f_Exclude) rfl rfl (by kernel_rfl) (by kernel_rfl) (want_none) rfl (fun _ c201 => q_load to_4 rfl (Blk.cell c201 rfl)) ?_
  refine HA.val (k := 2) (v := .pointer (some ⟨b_1, 1, none⟩)) rfl rfl (by kernel_rfl) (by kernel_rfl) (want_none) rfl (fun _ c201 => q_fieldAddr fa_34_1 rfl rfl) ?_
  refine HA.val (k := 3) (v := vf_Sources) rfl rfl (by kernel_rfl) (by kernel_rfl) (want_none) rfl (fun _ c201 => q_load to_22 rfl (Blk.cell c201 rfl)) ?_
  refine HA.one (k := 4) ⟨(hS.box 1 rfl), (Go.Wk.at_nil _ _)⟩ (by kernel_rfl) ?_
  refine HS.call rfl (want_none) rfl (ec en_7 rfl rfl) (law08_Addrs_walk (fr := (Ow.box b_2 34 #[.bool false, .slice none 0 0] :: Ow.box b_1 34 #[.bool f_Exclude, vf_Sources] :: fr)) f_Sources 6 vf_Sources hS hL_f_Sources hM) ?_
  rintro vr_1 h_3 ⟨F_1, r_1, _, rfl, hk, hS, _, hM⟩
  replace hK := hK.trans hk
  replace hL_f_Sources := hL_f_Sources.kp hk
  refine Go.Wk.HA.re (fun h => (Blk h b_1 (.cells #[.bool f_Exclude, vf_Sources] 34 (0, 0)))) [(6, fun h => (OwnIs h 0 44 17 e_api_Addr vr_1 r_1))] (fun L_ h_ hL_ c201 hs_ => ⟨c201, (Go.Wk.at_nil _ _)⟩) ?_
  refine Go.Wk.HA.valN (k := 5) (v := .agg #[.bool f_Exclude, vr_1]) 0 6 (fun h => (OwnIs h 0 44 17 e_api_Addr vr_1 r_1)) rfl rfl (by kernel_rfl) (by kernel_rfl) (want_none) rfl rfl (by kernel_rfl) (fun _ c201 c227 => q_build tp_34 (fill_cons (cs' := #[.bool f_Exclude, .slice none 0 0]) (vc := #[.bool f_Exclude]) rfl rfl rfl (Nat.le_of_ble_eq_true rfl) rfl (fill_cons (cs' := #[.bool f_Exclude, vr_1]) (vc := #[vr_1]) rfl (shp c227.slice).cells rfl (Nat.le_of_ble_eq_true rfl) rfl rfl))) ?_
  refine HA.one (k := 6) ⟨(hS.box 2 rfl), (at_now (hS.own 0 rfl) (Go.Wk.at_nil _ _))⟩ (by kernel_rfl) ?_
  obtain ⟨F_2, hS, hk, hL_2⟩ := hS.freezeOwn
  replace hK := hK.trans hk
  replace hL_f_Sources := hL_f_Sources.kp hk
  refine HS.call rfl (want_none) rfl (ec en_28 rfl rfl) (ref19_Own_walk (fr := (Ow.box b_2 34 #[.bool false, .slice none 0 0] :: Ow.box b_1 34 #[.bool f_Exclude, vf_Sources] :: fr)) f_Exclude r_1 vr_1 hS hL_2 hM) ?_
  rintro _ h_4 ⟨F_3, r_0_2, r_1_2, vr_1_2, rfl, hk, hS, _, hL_3, hM⟩
  replace hK := hK.trans hk
  replace hL_f_Sources := hL_f_Sources.kp hk
  refine HA.one (k := 7) ⟨(hS.box 1 rfl), (at_done (by kernel_rfl) (Go.Wk.at_nil _ _))⟩ (by kernel_rfl) ?_
  refine HS.sto rfl (want_none) rfl (st_storeAgg (c' := #[.bool r_0_2, vr_1_2]) hS (i := 0) rfl ta_34 rfl rfl rfl (List.forall_mem_cons.2 ⟨rfl, (List.forall_mem_cons.2 ⟨(shp hL_3.is).one, (fun _ h => by cases h)⟩)⟩) (Nat.le_of_ble_eq_true rfl) rfl) ?_
  rintro h_5 ⟨hS, hk⟩
  replace hS : St F_3 (Ow.box b_2 34 #[.bool r_0_2, vr_1_2] :: Ow.box b_1 34 #[.bool f_Exclude, vf_Sources] :: fr) h_5 := hS
  replace hK := hK.trans hk
  replace hL_f_Sources := hL_f_Sources.kp hk
  replace hL_3 := hL_3.kp hk
  refine HA.nil ⟨(hS.box 1 rfl), (at_done (by kernel_rfl) (Go.Wk.at_nil _ _))⟩ (by kernel_rfl) (thenQ_normal (?_))
  refine HW.ret (?_)
  refine ⟨.inr rfl, .agg #[.bool r_0_2, vr_1_2], res1 rfl (rca (cs := [.bool r_0_2, vr_1_2]) ta_34 rfl rfl (Blk.cells (k := 2) (hS.box 0 rfl) rfl)), ?_⟩
  replace hS : St F_3 (fr) h_5 := hS.perm2 [] 2 rfl rfl
  exact ⟨F_3, r_0_2, r_1_2, vr_1_2, rfl, hK, hS, hL_f_Sources, hL_3, hM⟩

def law01_Cut_W (s1 : Str) (most : Int) (Q : Str → Prop) : Prop :=
  (most < (s1.length : Int) → ((0 : Int) ≤ most ∧ most ≤ (s1.length : Int)) ∧ (Q (cut s1 0 most))) ∧ (¬ (most < (s1.length : Int)) → Q s1)
set_option maxHeartbeats 40000000 in
set_option maxRecDepth 100000 in
theorem law01_Cut_walk {F : Fz} {fr : List Ow} {h0 : Heap} (s1 : Str) (most : Int) (hS : St F (fr) h0)  {Q : Str → Prop} (hM : law01_Cut_W s1 most Q) :
    HC Tryz.prog 5 #[.string (bs s1), .int .i64 most] h0 fun u h' => ∃ (F' : Fz) (r_1 : Str), u = .string (bs r_1) ∧ Kp F h0 F' h' ∧ St F' (fr) h' ∧ Q r_1 := by
  unfold law01_Cut_W at hM
  have hK := Kp.refl F h0
  refine HC.of_HW (n := 13) Tryz.func5 rfl rfl (Nat.le_of_ble_eq_true rfl) ?_
  refine HW.seq ?_
  refine HW.region ?_
  refine HO.val (v := .string (bs [])) (want_none) rfl (q_assign rfl) ?_
  refine HO.nil (thenQ_normal (?_))
  refine HW.seq ?_
  refine HW.seq ?_
  refine HW.region ?_
  refine HO.val (v := .string (bs s1)) (want_none) rfl (q_move rfl) ?_
  refine HO.val (v := .int .i64 (s1.length : Int)) (want_none) rfl (q_lenT Tryz.underlying9 rfl rfl) ?_
  refine HO.val (v := .int .i64 most) (want_none) rfl (q_move rfl) ?_
  refine HO.val (v := .bool (decide (most < (s1.length : Int)))) (want_none) rfl (q_gtr rfl rfl) ?_
  refine HO.nil (thenQ_normal (?_))
  refine HW.cond (decide (most < (s1.length : Int))) rfl (fun c_1 => ?_) (fun c_1 => ?_)
  · replace hM := hM.1 (of_decide_eq_true c_1)
    refine HW.seq ?_
    refine HW.region ?_
    refine HO.val (v := .string (bs s1)) (want_none) rfl (q_move rfl) ?_
    refine HO.val (v := .int .i64 most) (want_none) rfl (q_move rfl) ?_
    obtain ⟨ho_1, hM⟩ := hM
    refine HO.val (v := .string (bs (cut s1 0 most))) (want_none) rfl (q_strH Tryz.underlying9 rfl rfl ho_1) ?_
    refine HO.val (v := .string (bs (cut s1 0 most))) (want_none) rfl (q_assign rfl) ?_
    refine HO.nil (thenQ_normal (?_))
    refine HW.ret (thenQ_ret (?_))
    refine ⟨.inr rfl, .string (bs (cut s1 0 most)), res1 rfl (rt rfl), ?_⟩
    exact ⟨F, cut s1 0 most, rfl, hK, hS, hM⟩
  · replace hM := hM.2 (of_decide_eq_false c_1)
    refine HW.skip (thenQ_normal (?_))
    refine HW.seq ?_
    refine HW.region ?_
    refine HO.val (v := .string (bs s1)) (want_none) rfl (q_move rfl) ?_
    refine HO.val (v := .string (bs s1)) (want_none) rfl (q_assign rfl) ?_
    refine HO.nil (thenQ_normal (?_))
    refine HW.ret (?_)
    refine ⟨.inr rfl, .string (bs s1), res1 rfl (rt rfl), ?_⟩
    exact ⟨F, s1, rfl, hK, hS, hM⟩

def ref01_Sign_W (n : Int) (Q : Str → Prop) : Prop :=
  ((0 : Int) ≤ n ∧ n ≤ ((u8w (n + 1)).toNat : Int) ∧ ((u8w (n + 1)).toNat : Int) ≤ ((([48, 49, 50, 51, 52, 53, 54, 55, 56, 57, 97, 98, 99, 100, 101, 102] : Str)).length : Int)) ∧ (Q (cut ([48, 49, 50, 51, 52, 53, 54, 55, 56, 57, 97, 98, 99, 100, 101, 102] : Str) n ((u8w (n + 1)).toNat : Int)))
set_option maxHeartbeats 40000000 in
set_option maxRecDepth 100000 in
theorem ref01_Sign_walk {F : Fz} {fr : List Ow} {h0 : Heap} (n : Int) (hS : St F (fr) h0)  {Q : Str → Prop} (hM : ref01_Sign_W n Q) :
    HC Tryz.prog 68 #[.int .u8 n] h0 fun u h' => ∃ (F' : Fz) (r_1 : Str), u = .string (bs r_1) ∧ Kp F h0 F' h' ∧ St F' (fr) h' ∧ Q r_1 := by
  unfold ref01_Sign_W at hM
  have hK := Kp.refl F h0
  refine HC.of_HW (n := 7) Tryz.func68 rfl rfl (Nat.le_of_ble_eq_true rfl) ?_
  refine HW.seq ?_
  refine HW.region ?_
  refine HO.val (v := .string (bs [])) (want_none) rfl (q_assign rfl) ?_
  refine HO.nil (thenQ_normal (?_))
  refine HW.seq ?_
  refine HW.region ?_
  refine HO.val (v := .int .u8 n) (want_none) rfl (q_move rfl) ?_
  refine HO.val (v := .int .u8 n) (want_none) rfl (q_move rfl) ?_
  refine HO.val (v := .int .u8 ((u8w (n + 1)).toNat : Int)) (want_none) rfl ((q_add rfl rfl).of_eq (u8w_v _)) ?_
  obtain ⟨ho_1, hM⟩ := hM
  refine HO.val (v := .string (bs (cut ([48, 49, 50, 51, 52, 53, 54, 55, 56, 57, 97, 98, 99, 100, 101, 102] : Str) n ((u8w (n + 1)).toNat : Int)))) (want_none) rfl (q_strLH Tryz.underlying9 rfl rfl rfl ho_1) ?_
  refine HO.val (v := .string (bs (cut ([48, 49, 50, 51, 52, 53, 54, 55, 56, 57, 97, 98, 99, 100, 101, 102] : Str) n ((u8w (n + 1)).toNat : Int)))) (want_none) rfl (q_assign rfl) ?_
  refine HO.nil (thenQ_normal (?_))
  refine HW.ret (?_)
  refine ⟨.inr rfl, .string (bs (cut ([48, 49, 50, 51, 52, 53, 54, 55, 56, 57, 97, 98, 99, 100, 101, 102] : Str) n ((u8w (n + 1)).toNat : Int))), res1 rfl (rt rfl), ?_⟩
  exact ⟨F, cut ([48, 49, 50, 51, 52, 53, 54, 55, 56, 57, 97, 98, 99, 100, 101, 102] : Str) n ((u8w (n + 1)).toNat : Int), rfl, hK, hS, hM⟩

def ref03_Num_j1 (base : Int) (n_1 : Int) (s_1 : Str) (K_1 : Int → Str → Prop) : Prop :=
  (base ≠ 0) ∧ (ref01_Sign_W ((u8w (n_1.tmod base)).toNat : Int) (fun r_2 => ((r_2.length : Int) + (s_1.length : Int) ≤ 9223372036854775807) ∧ ((I64 (n_1.tdiv base)) ∧ (K_1 (n_1.tdiv base) (r_2 ++ s_1)))))
def ref03_Num_l1 (base : Int) (Q : Str → Prop) (K_1 : Int → Str → Prop) (n_1 : Int) (s_1 : Str) : Prop :=
  ((s_1 : Str) = [] → ref03_Num_j1 base n_1 s_1 K_1) ∧ (¬ ((s_1 : Str) = []) → (0 < n_1 → ref03_Num_j1 base n_1 s_1 K_1) ∧ (¬ (0 < n_1) → Q s_1))
def ref03_Num_W (n : Int) (base : Int) (Q : Str → Prop) : Prop :=
  loopW (fun (K_1 : (Int × Str) → Prop) (s : Int × Str) => ref03_Num_l1 base Q (fun n_1 s_1 => K_1 (n_1, s_1)) s.1 s.2) (n, [])
set_option maxHeartbeats 40000000 in
set_option maxRecDepth 100000 in
theorem ref03_Num_walk {F : Fz} {fr : List Ow} {h0 : Heap} (n : Int) (base : Int) (hS : St F (fr) h0)  {Q : Str → Prop} (hM : ref03_Num_W n base Q) :
    HC Tryz.prog 44 #[.int .i64 n, .int .i64 base] h0 fun u h' => ∃ (F' : Fz) (r_1 : Str), u = .string (bs r_1) ∧ Kp F h0 F' h' ∧ St F' (fr) h' ∧ Q r_1 := by
  unfold ref03_Num_W at hM
  have hK := Kp.refl F h0
  refine HC.of_HW (n := 23) Tryz.func44 rfl rfl (Nat.le_of_ble_eq_true rfl) ?_
  refine HW.seq ?_
  refine HW.region ?_
  refine HO.val (v := .string (bs [])) (want_none) rfl (q_assign rfl) ?_
  refine HO.nil (thenQ_normal (?_))
  refine HW.seq ?_
  refine HW.region ?_
  refine HO.val (v := .string (bs [])) (want_none) rfl (q_assign rfl) ?_
  refine HO.nil (thenQ_normal (?_))
  refine HW.seq ?_
  refine HW.block ?_
  obtain ⟨I_1, m_1, hI_1, hR_1⟩ := hM
  refine HW.loop (S := Int × Str) (fun s f h => match s with | (n_1, s_1) => ∃ (F' : Fz), f 0 = .int .i64 n_1 ∧ f 1 = .int .i64 base ∧ f 4 = .string (bs []) ∧ f 5 = .string (bs s_1) ∧ Kp F h0 F' h ∧ St F' (fr) h ∧ I_1 (n_1, s_1)) m_1 (n, []) ⟨F, rfl, rfl, rfl, rfl, hK, hS, hI_1⟩ ?_
  rintro ⟨n_1, s_1⟩ f_1 h_1 ⟨F_1, e0, e1, e4, e5, hK, hS, hI0⟩
  obtain ⟨K_1, hKe_1⟩ : ∃ K : Int → Str → Prop, K = fun n_1' s_1' => I_1 (n_1', s_1') ∧ m_1 (n_1', s_1') < m_1 (n_1, s_1) := ⟨_, rfl⟩
  have hM : ref03_Num_l1 base Q K_1 n_1 s_1 := by rw [hKe_1]; exact hR_1 (n_1, s_1) hI0
  unfold ref03_Num_l1 at hM
  refine HW.fr [(0, .int .i64 n_1), (1, .int .i64 base), (4, .string (bs [])), (5, .string (bs s_1))] ⟨e0, e1, e4, e5, trivial⟩ ?_
  refine HW.seq_mid (fun f h => ∃ (F' : Fz), f 0 = .int .i64 n_1 ∧ f 1 = .int .i64 base ∧ f 4 = .string (bs []) ∧ f 5 = .string (bs s_1) ∧ Kp F h0 F' h ∧ St F' (fr) h ∧ ref03_Num_j1 base n_1 s_1 K_1) ?_ ?_
  · refine HW.seq ?_
    refine HW.region ?_
    refine HO.val (v := .string (bs s_1)) (want_none) rfl (q_move rfl) ?_
    refine HO.val (v := .bool (decide ((s_1 : Str) = []))) (want_none) rfl (q_eqlT rfl rfl) ?_
    refine HO.val (v := .bool (decide ((s_1 : Str) = []))) (want_none) rfl (q_move rfl) ?_
    rcases Bool.eq_false_or_eq_true (decide ((s_1 : Str) = [])) with c_1 | c_1
    · replace hM := hM.1 (of_decide_eq_true c_1)
      refine HO.past (past_by rfl rfl c_1) rfl ?_
      refine HO.past (past_by rfl rfl c_1) rfl ?_
      refine HO.val (v := .bool true) (want_none) rfl (q_pickK true rfl c_1 rfl) ?_
      refine HO.nil (thenQ_normal (?_))
      refine HW.condT rfl ?_
      refine HW.skip (thenQ_normal (?_))
      exact ⟨F_1, rfl, rfl, rfl, rfl, hK, hS, hM⟩
    · replace hM := hM.2 (of_decide_eq_false c_1)
      refine HO.val (v := .int .i64 n_1) (want_by rfl rfl c_1) rfl (q_move rfl) ?_
      refine HO.val (v := .bool (decide (0 < n_1))) (want_by rfl rfl c_1) rfl (q_gtr rfl rfl) ?_
      refine HO.val (v := .bool (decide (0 < n_1))) (want_none) rfl (q_pickK false rfl c_1 rfl) ?_
      refine HO.nil (thenQ_normal (?_))
      refine HW.cond (decide (0 < n_1)) rfl (fun c_2 => ?_) (fun c_2 => ?_)
      · replace hM := hM.1 (of_decide_eq_true c_2)
        refine HW.skip (thenQ_normal (?_))
        exact ⟨F_1, rfl, rfl, rfl, rfl, hK, hS, hM⟩
      · replace hM := hM.2 (of_decide_eq_false c_2)
        refine HW.exit (thenQ_exit (thenQ_exit (blockQ_exit (thenQ_normal (?_)))))
        refine HW.seq ?_
        refine HW.region ?_
        refine HO.val (v := .string (bs s_1)) (want_none) rfl (q_move rfl) ?_
        refine HO.val (v := .string (bs s_1)) (want_none) rfl (q_assign rfl) ?_
        refine HO.nil (thenQ_normal (?_))
        refine HW.ret (?_)
        refine ⟨.inr rfl, .string (bs s_1), res1 rfl (rt rfl), ?_⟩
        exact ⟨F_1, s_1, rfl, hK, hS, hM⟩
  · rintro f_2 h_2 ⟨F_2, e0, e1, e4, e5, hK, hS, hM⟩
    unfold ref03_Num_j1 at hM
    refine HW.fr [(0, .int .i64 n_1), (1, .int .i64 base), (4, .string (bs [])), (5, .string (bs s_1))] ⟨e0, e1, e4, e5, trivial⟩ ?_
    refine HW.block ?_
    refine HW.seq ?_
    refine HW.region ?_
    refine HO.val (v := .int .i64 n_1) (want_none) rfl (q_move rfl) ?_
    refine HO.val (v := .int .i64 base) (want_none) rfl (q_move rfl) ?_
    obtain ⟨ho_1, hM⟩ := hM
    refine HO.val (v := .int .i64 (n_1.tmod base)) (want_none) rfl (q_rem rfl rfl ho_1) ?_
    refine HO.val (v := .int .u8 ((u8w (n_1.tmod base)).toNat : Int)) (want_none) rfl ((q_convInt (n := n_1.tmod base) Tryz.underlying3 Tryz.underlying5 rfl rfl).of_eq (u8w_v _)) ?_
    refine HO.call (want_none) rfl (ec en_68 rfl rfl) (ref01_Sign_walk (fr := (fr)) ((u8w (n_1.tmod base)).toNat : Int) hS hM) ?_
    rintro _ h_3 ⟨F_3, r_2, rfl, hk, hS, hM⟩
    replace hK := hK.trans hk
    refine HO.val (v := .string (bs s_1)) (want_none) rfl (q_move rfl) ?_
    obtain ⟨ho_2, hM⟩ := hM
    refine HO.val (v := .string (bs (r_2 ++ s_1))) (want_none) rfl (q_addT rfl rfl ho_2) ?_
    refine HO.val (v := .string (bs (r_2 ++ s_1))) (want_none) rfl (q_assign rfl) ?_
    refine HO.nil (thenQ_normal (?_))
    refine HW.region ?_
    refine HO.val (v := .int .i64 n_1) (want_none) rfl (q_move rfl) ?_
    refine HO.val (v := .int .i64 base) (want_none) rfl (q_move rfl) ?_
    obtain ⟨ho_3, hM⟩ := hM
    refine HO.val (v := .int .i64 (n_1.tdiv base)) (want_none) rfl (q_quoN _ rfl rfl ho_1 rfl ho_3.1 ho_3.2) ?_
    refine HO.val (v := .int .i64 (n_1.tdiv base)) (want_none) rfl (q_assign rfl) ?_
    refine HO.nil (blockQ_normal (thenQ_normal (?_)))
    rw [hKe_1] at hM
    exact ⟨(n_1.tdiv base, r_2 ++ s_1), ⟨F_3, rfl, rfl, rfl, rfl, hK, hS, hM.1⟩, hM.2⟩

def ref03_Print_j1 (a : T_api_Addr) (i_1 : Int) (K_1 : Str → Int → Prop) (s_2 : Str) : Prop :=
  ((0 : Int) ≤ i_1 ∧ i_1 < 16) ∧ ((I64 (b8 a.2 i_1)) ∧ (ref03_Num_W (b8 a.2 i_1) 10 (fun r_2 => ((s_2.length : Int) + (r_2.length : Int) ≤ 9223372036854775807) ∧ ((I64 (i_1 + 1)) ∧ (K_1 (s_2 ++ r_2) (i_1 + 1))))))
def ref03_Print_l1 (a : T_api_Addr) (Q : Str → Prop) (K_1 : Str → Int → Prop) (s_1 : Str) (i_1 : Int) : Prop :=
  (i_1 < 4 → (0 < i_1 → ((s_1.length : Int) + ((([46] : Str)).length : Int) ≤ 9223372036854775807) ∧ (ref03_Print_j1 a i_1 K_1 (s_1 ++ ([46] : Str)))) ∧ (¬ (0 < i_1) → ref03_Print_j1 a i_1 K_1 s_1)) ∧ (¬ (i_1 < 4) → Q s_1)
def ref03_Print_j2 (n_1 : Int) (n_2 : Int) (i_2 : Int) (K_2 : Int → Int → Int → Prop) (k_1 : Int) : Prop :=
  (n_2 < k_1 → (I64 (i_2 + 1)) ∧ (K_2 i_2 k_1 (i_2 + 1))) ∧ (¬ (n_2 < k_1) → (I64 (i_2 + 1)) ∧ (K_2 n_1 n_2 (i_2 + 1)))
def ref03_Print_l3 (a : T_api_Addr) (n_1 : Int) (n_2 : Int) (i_2 : Int) (K_2 : Int → Int → Int → Prop) (K_3 : Int → Prop) (k_2 : Int) : Prop :=
  (I64 (i_2 + k_2)) ∧ (((i_2 + k_2) < 8 → (I64 (2 * (i_2 + k_2))) ∧ (((0 : Int) ≤ 2 * (i_2 + k_2) ∧ 2 * (i_2 + k_2) < 16) ∧ (((b8 a.2 (2 * (i_2 + k_2))) = 0 → (I64 ((2 * (i_2 + k_2)) + 1)) ∧ (((0 : Int) ≤ (2 * (i_2 + k_2)) + 1 ∧ (2 * (i_2 + k_2)) + 1 < 16) ∧ (((b8 a.2 ((2 * (i_2 + k_2)) + 1)) = 0 → (I64 (k_2 + 1)) ∧ (K_3 (k_2 + 1))) ∧ (¬ ((b8 a.2 ((2 * (i_2 + k_2)) + 1)) = 0) → ref03_Print_j2 n_1 n_2 i_2 K_2 k_2)))) ∧ (¬ ((b8 a.2 (2 * (i_2 + k_2))) = 0) → ref03_Print_j2 n_1 n_2 i_2 K_2 k_2)))) ∧ (¬ ((i_2 + k_2) < 8) → ref03_Print_j2 n_1 n_2 i_2 K_2 k_2))
def ref03_Print_j3 (a : T_api_Addr) (i_3 : Int) (K_4 : Str → Int → Prop) (s_4 : Str) : Prop :=
  (I64 (2 * i_3)) ∧ (((0 : Int) ≤ 2 * i_3 ∧ 2 * i_3 < 16) ∧ ((I64 (b8 a.2 (2 * i_3))) ∧ ((I64 (256 * (b8 a.2 (2 * i_3)))) ∧ ((I64 ((2 * i_3) + 1)) ∧ (((0 : Int) ≤ (2 * i_3) + 1 ∧ (2 * i_3) + 1 < 16) ∧ ((I64 (b8 a.2 ((2 * i_3) + 1))) ∧ ((I64 ((256 * (b8 a.2 (2 * i_3))) + (b8 a.2 ((2 * i_3) + 1)))) ∧ (ref03_Num_W ((256 * (b8 a.2 (2 * i_3))) + (b8 a.2 ((2 * i_3) + 1))) 16 (fun r_3 => ((s_4.length : Int) + (r_3.length : Int) ≤ 9223372036854775807) ∧ ((I64 (i_3 + 1)) ∧ (K_4 (s_4 ++ r_3) (i_3 + 1))))))))))))
def ref03_Print_l4 (a : T_api_Addr) (Q : Str → Prop) (n_1 : Int) (n_2 : Int) (K_4 : Str → Int → Prop) (s_3 : Str) (i_3 : Int) : Prop :=
  (i_3 < 8 → (i_3 = n_1 → ((s_3.length : Int) + ((([58, 58] : Str)).length : Int) ≤ 9223372036854775807) ∧ ((I64 (i_3 + n_2)) ∧ ((I64 ((i_3 + n_2) - 1)) ∧ ((I64 (((i_3 + n_2) - 1) + 1)) ∧ (K_4 (s_3 ++ ([58, 58] : Str)) (((i_3 + n_2) - 1) + 1)))))) ∧ (¬ (i_3 = n_1) → (¬ ((s_3 : Str) = []) → (I64 ((s_3.length : Int) - 1)) ∧ (((0 : Int) ≤ (s_3.length : Int) - 1 ∧ (s_3.length : Int) - 1 < (s_3.length : Int)) ∧ ((¬ (((gi s_3 ((s_3.length : Int) - 1)).toNat : Int) = 58) → ((s_3.length : Int) + ((([58] : Str)).length : Int) ≤ 9223372036854775807) ∧ (ref03_Print_j3 a i_3 K_4 (s_3 ++ ([58] : Str)))) ∧ (((gi s_3 ((s_3.length : Int) - 1)).toNat : Int) = 58 → ref03_Print_j3 a i_3 K_4 s_3)))) ∧ ((s_3 : Str) = [] → ref03_Print_j3 a i_3 K_4 s_3))) ∧ (¬ (i_3 < 8) → Q s_3)
def ref03_Print_l2 (a : T_api_Addr) (Q : Str → Prop) (K_2 : Int → Int → Int → Prop) (n_1 : Int) (n_2 : Int) (i_2 : Int) : Prop :=
  (i_2 < 8 → loopW (fun (K_3 : Int → Prop) (s : Int) => ref03_Print_l3 a n_1 n_2 i_2 K_2 K_3 s) 0) ∧ (¬ (i_2 < 8) → loopW (fun (K_4 : (Str × Int) → Prop) (s : Str × Int) => ref03_Print_l4 a Q n_1 n_2 (fun s_3 i_3 => K_4 (s_3, i_3)) s.1 s.2) ([], 0))
def ref03_Print_W (a : T_api_Addr) (Q : Str → Prop) : Prop :=
  ((!a.1) = true → loopW (fun (K_1 : (Str × Int) → Prop) (s : Str × Int) => ref03_Print_l1 a Q (fun s_1 i_1 => K_1 (s_1, i_1)) s.1 s.2) ([], 0)) ∧ ((!a.1) = false → loopW (fun (K_2 : (Int × Int × Int) → Prop) (s : Int × Int × Int) => ref03_Print_l2 a Q (fun n_1 n_2 i_2 => K_2 (n_1, n_2, i_2)) s.1 s.2.1 s.2.2) ((-1), 1, 0))
set_option maxHeartbeats 40000000 in
set_option maxRecDepth 100000 in
theorem ref03_Print_walk {F : Fz} {fr : List Ow} {h0 : Heap} (a : T_api_Addr) (hS : St F (fr) h0)  {Q : Str → Prop} (hM : ref03_Print_W a Q) :
    HC Tryz.prog 23 #[.agg (e_api_Addr a).toArray] h0 fun u h' => ∃ (F' : Fz) (r_1 : Str), u = .string (bs r_1) ∧ Kp F h0 F' h' ∧ St F' (fr) h' ∧ Q r_1 := by
  unfold ref03_Print_W at hM
  have hK := Kp.refl F h0
  refine HC.of_HW (n := 110) Tryz.func23 rfl rfl (Nat.le_of_ble_eq_true rfl) ?_
  refine HW.seq ?_
  refine HW.region ?_
  refine HO.eff (want_none) rfl (st_box (c := (e_api_Addr a).toArray) (k' := 17) hS rfl rfl) ?_
  rintro _ h_1 ⟨b_1, rfl, hS, hk⟩
  replace hK := hK.trans hk
  refine HO.val (v := .string (bs [])) (want_none) rfl (q_assign rfl) ?_
  refine HO.nil (thenQ_normal (?_))
  refine HW.seq ?_
  refine HW.region ?_
  refine HO.val (v := .string (bs [])) (want_none) rfl (q_assign rfl) ?_
  refine HO.nil (thenQ_normal (?_))
  refine HW.seq ?_
  refine HW.seq ?_
  refine HW.region ?_
  refine HO.val (v := .pointer (some ⟨b_1, 0, none⟩)) (want_none) rfl (q_fieldAddr fa_44_0 rfl rfl) ?_
  refine HO.val (v := .bool a.1) (want_none) rfl (q_load to_4 rfl (Blk.cell (hS.box 0 rfl) rfl)) ?_
  refine HO.val (v := .bool (!a.1)) (want_none) rfl (q_not rfl) ?_
  refine HO.nil (thenQ_normal (?_))
  refine HW.cond (!a.1) rfl (fun c_1 => ?_) (fun c_1 => ?_)
  · replace hM := hM.1 c_1
    refine HW.seq ?_
    refine HW.seq ?_
    refine HW.region ?_
    refine HO.val (v := .int .i64 0) (want_none) rfl (q_assign rfl) ?_
    refine HO.nil (thenQ_normal (?_))
    refine HW.block ?_
    obtain ⟨I_1, m_1, hI_1, hR_1⟩ := hM
    refine HW.loop (S := Str × Int) (fun s f h => match s with | (s_1, i_1) => ∃ (F' : Fz), f 1 = .pointer (some ⟨b_1, 0, none⟩) ∧ f 2 = .string (bs []) ∧ f 3 = .string (bs s_1) ∧ f 4 = .int .i64 i_1 ∧ Kp F h0 F' h ∧ St F' (Ow.box b_1 44 (e_api_Addr a).toArray :: fr) h ∧ I_1 (s_1, i_1)) m_1 ([], 0) ⟨F, rfl, rfl, rfl, rfl, hK, hS, hI_1⟩ ?_
    rintro ⟨s_1, i_1⟩ f_1 h_2 ⟨F_1, e1, e2, e3, e4, hK, hS, hI0⟩
    obtain ⟨K_1, hKe_1⟩ : ∃ K : Str → Int → Prop, K = fun s_1' i_1' => I_1 (s_1', i_1') ∧ m_1 (s_1', i_1') < m_1 (s_1, i_1) := ⟨_, rfl⟩
    have hM : ref03_Print_l1 a Q K_1 s_1 i_1 := by rw [hKe_1]; exact hR_1 (s_1, i_1) hI0
    unfold ref03_Print_l1 at hM
    refine HW.fr [(1, .pointer (some ⟨b_1, 0, none⟩)), (2, .string (bs [])), (3, .string (bs s_1)), (4, .int .i64 i_1)] ⟨e1, e2, e3, e4, trivial⟩ ?_
    refine HW.seq ?_
    refine HW.seq ?_
    refine HW.region ?_
    refine HO.val (v := .int .i64 i_1) (want_none) rfl (q_move rfl) ?_
    refine HO.val (v := .bool (decide (i_1 < 4))) (want_none) rfl (q_lss rfl rfl) ?_
    refine HO.nil (thenQ_normal (?_))
    refine HW.cond (decide (i_1 < 4)) rfl (fun c_2 => ?_) (fun c_2 => ?_)
    · replace hM := hM.1 (of_decide_eq_true c_2)
      refine HW.skip (thenQ_normal (?_))
      refine HW.seq ?_
      refine HW.block ?_
      refine HW.seq_mid (fun f h => ∃ (F' : Fz) (s_2 : Str), f 1 = .pointer (some ⟨b_1, 0, none⟩) ∧ f 2 = .string (bs []) ∧ f 3 = .string (bs s_2) ∧ f 4 = .int .i64 i_1 ∧ Kp F h0 F' h ∧ St F' (Ow.box b_1 44 (e_api_Addr a).toArray :: fr) h ∧ ref03_Print_j1 a i_1 K_1 s_2) ?_ ?_
      · refine HW.seq ?_
        refine HW.region ?_
        refine HO.val (v := .int .i64 i_1) (want_none) rfl (q_move rfl) ?_
        refine HO.val (v := .bool (decide (0 < i_1))) (want_none) rfl (q_gtr rfl rfl) ?_
        refine HO.nil (thenQ_normal (?_))
        refine HW.cond (decide (0 < i_1)) rfl (fun c_3 => ?_) (fun c_3 => ?_)
        · replace hM := hM.1 (of_decide_eq_true c_3)
          refine HW.region ?_
          refine HO.val (v := .string (bs s_1)) (want_none) rfl (q_move rfl) ?_
          obtain ⟨ho_1, hM⟩ := hM
          refine HO.val (v := .string (bs (s_1 ++ ([46] : Str)))) (want_none) rfl (q_addT rfl rfl ho_1) ?_
          refine HO.val (v := .string (bs (s_1 ++ ([46] : Str)))) (want_none) rfl (q_assign rfl) ?_
          refine HO.nil (thenQ_normal (?_))
          exact ⟨F_1, s_1 ++ ([46] : Str), rfl, rfl, rfl, rfl, hK, hS, hM⟩
        · replace hM := hM.2 (of_decide_eq_false c_3)
          refine HW.skip (thenQ_normal (?_))
          exact ⟨F_1, s_1, rfl, rfl, rfl, rfl, hK, hS, hM⟩
      · rintro f_2 h_3 ⟨F_2, s_2, e1, e2, e3, e4, hK, hS, hM⟩
        unfold ref03_Print_j1 at hM
        refine HW.fr [(1, .pointer (some ⟨b_1, 0, none⟩)), (2, .string (bs [])), (3, .string (bs s_2)), (4, .int .i64 i_1)] ⟨e1, e2, e3, e4, trivial⟩ ?_
        refine HW.region ?_
        refine HO.val (v := .string (bs s_2)) (want_none) rfl (q_move rfl) ?_
        refine HO.val (v := .int .i64 i_1) (want_none) rfl (q_move rfl) ?_
        refine HO.val (v := .pointer (some ⟨b_1, 1, none⟩)) (want_none) rfl (q_fieldAddr fa_44_1 rfl rfl) ?_
        obtain ⟨ho_2, hM⟩ := hM
        refine HO.val (v := .pointer (some ⟨b_1, 1 + (i_1).toNat, none⟩)) (want_none) rfl (q_idxA (o := 1) (t := i_1) tr_42 rfl rfl ho_2) ?_
        refine HO.val (v := .int .u8 (b8 a.2 i_1)) (want_none) rfl (q_ldArr (o := 1) (t := i_1) (X := a.2) to_5 rfl (hS.box 0 rfl) rfl ho_2) ?_
        obtain ⟨ho_3, hM⟩ := hM
        refine HO.val (v := .int .i64 (b8 a.2 i_1)) (want_none) rfl (q_convInt Tryz.underlying5 Tryz.underlying3 rfl (wrap_i64 ho_3.1 ho_3.2)) ?_
        refine HO.call (want_none) rfl (ec en_44 rfl rfl) (ref03_Num_walk (fr := (Ow.box b_1 44 (e_api_Addr a).toArray :: fr)) (b8 a.2 i_1) 10 hS hM) ?_
        rintro _ h_4 ⟨F_3, r_2, rfl, hk, hS, hM⟩
        replace hK := hK.trans hk
        obtain ⟨ho_4, hM⟩ := hM
        refine HO.val (v := .string (bs (s_2 ++ r_2))) (want_none) rfl (q_addT rfl rfl ho_4) ?_
        refine HO.val (v := .string (bs (s_2 ++ r_2))) (want_none) rfl (q_assign rfl) ?_
        refine HO.nil (blockQ_normal (thenQ_normal (?_)))
        refine HW.region ?_
        refine HO.val (v := .int .i64 i_1) (want_none) rfl (q_move rfl) ?_
        obtain ⟨ho_5, hM⟩ := hM
        refine HO.val (v := .int .i64 (i_1 + 1)) (want_none) rfl (q_addN _ rfl rfl rfl ho_5.1 ho_5.2) ?_
        refine HO.val (v := .int .i64 (i_1 + 1)) (want_none) rfl (q_assign rfl) ?_
        refine HO.nil (thenQ_normal (?_))
        rw [hKe_1] at hM
        exact ⟨(s_2 ++ r_2, i_1 + 1), ⟨F_3, rfl, rfl, rfl, rfl, hK, hS, hM.1⟩, hM.2⟩
    · replace hM := hM.2 (of_decide_eq_false c_2)
      refine HW.exit (thenQ_exit (thenQ_exit (blockQ_exit (thenQ_normal (?_)))))
      refine HW.seq ?_
      refine HW.region ?_
      refine HO.val (v := .string (bs s_1)) (want_none) rfl (q_move rfl) ?_
      refine HO.val (v := .string (bs s_1)) (want_none) rfl (q_assign rfl) ?_
      refine HO.nil (thenQ_normal (?_))
      refine HW.ret (thenQ_ret (?_))
      refine ⟨.inr rfl, .string (bs s_1), res1 rfl (rt rfl), ?_⟩
      replace hS : St F_1 (fr) h_2 := hS.perm2 [] 1 rfl rfl
      exact ⟨F_1, s_1, rfl, hK, hS, hM⟩
  · replace hM := hM.2 c_1
    refine HW.skip (thenQ_normal (?_))
    refine HW.seq ?_
    refine HW.region ?_
    refine HO.val (v := .int .i64 (-1)) (want_none) rfl (q_assign rfl) ?_
    refine HO.val (v := .int .i64 1) (want_none) rfl (q_assign rfl) ?_
    refine HO.nil (thenQ_normal (?_))
    refine HW.seq ?_
    refine HW.seq ?_
    refine HW.region ?_
    refine HO.val (v := .int .i64 0) (want_none) rfl (q_assign rfl) ?_
    refine HO.nil (thenQ_normal (?_))
    refine HW.block ?_
    obtain ⟨I_2, m_2, hI_2, hR_2⟩ := hM
    refine HW.loop (S := Int × Int × Int) (fun s f h => match s with | (n_1, n_2, i_2) => ∃ (F' : Fz), f 1 = .pointer (some ⟨b_1, 0, none⟩) ∧ f 2 = .string (bs []) ∧ f 3 = .string (bs []) ∧ f 5 = .int .i64 n_1 ∧ f 6 = .int .i64 n_2 ∧ f 7 = .int .i64 i_2 ∧ Kp F h0 F' h ∧ St F' (Ow.box b_1 44 (e_api_Addr a).toArray :: fr) h ∧ I_2 (n_1, n_2, i_2)) m_2 ((-1), 1, 0) ⟨F, rfl, rfl, rfl, rfl, rfl, rfl, hK, hS, hI_2⟩ ?_
    rintro ⟨n_1, n_2, i_2⟩ f_3 h_5 ⟨F_4, e1, e2, e3, e5, e6, e7, hK, hS, hI0⟩
    obtain ⟨K_2, hKe_2⟩ : ∃ K : Int → Int → Int → Prop, K = fun n_1' n_2' i_2' => I_2 (n_1', n_2', i_2') ∧ m_2 (n_1', n_2', i_2') < m_2 (n_1, n_2, i_2) := ⟨_, rfl⟩
    have hM : ref03_Print_l2 a Q K_2 n_1 n_2 i_2 := by rw [hKe_2]; exact hR_2 (n_1, n_2, i_2) hI0
    unfold ref03_Print_l2 at hM
    refine HW.fr [(1, .pointer (some ⟨b_1, 0, none⟩)), (2, .string (bs [])), (3, .string (bs [])), (5, .int .i64 n_1), (6, .int .i64 n_2), (7, .int .i64 i_2)] ⟨e1, e2, e3, e5, e6, e7, trivial⟩ ?_
    refine HW.seq ?_
    refine HW.seq ?_
    refine HW.region ?_
    refine HO.val (v := .int .i64 i_2) (want_none) rfl (q_move rfl) ?_
    refine HO.val (v := .bool (decide (i_2 < 8))) (want_none) rfl (q_lss rfl rfl) ?_
    refine HO.nil (thenQ_normal (?_))
    refine HW.cond (decide (i_2 < 8)) rfl (fun c_4 => ?_) (fun c_4 => ?_)
    · replace hM := hM.1 (of_decide_eq_true c_4)
      refine HW.skip (thenQ_normal (?_))
      refine HW.seq ?_
      refine HW.block ?_
      refine HW.seq ?_
      refine HW.region ?_
      refine HO.val (v := .int .i64 0) (want_none) rfl (q_assign rfl) ?_
      refine HO.nil (thenQ_normal (?_))
      refine HW.seq_mid (fun f h => ∃ (F' : Fz) (k_1 : Int), f 1 = .pointer (some ⟨b_1, 0, none⟩) ∧ f 2 = .string (bs []) ∧ f 3 = .string (bs []) ∧ f 5 = .int .i64 n_1 ∧ f 6 = .int .i64 n_2 ∧ f 7 = .int .i64 i_2 ∧ f 8 = .int .i64 k_1 ∧ Kp F h0 F' h ∧ St F' (Ow.box b_1 44 (e_api_Addr a).toArray :: fr) h ∧ ref03_Print_j2 n_1 n_2 i_2 K_2 k_1) ?_ ?_
      · refine HW.block ?_
        obtain ⟨I_3, m_3, hI_3, hR_3⟩ := hM
        refine HW.loop (S := Int) (fun k_2 f h => ∃ (F' : Fz), f 1 = .pointer (some ⟨b_1, 0, none⟩) ∧ f 2 = .string (bs []) ∧ f 3 = .string (bs []) ∧ f 5 = .int .i64 n_1 ∧ f 6 = .int .i64 n_2 ∧ f 7 = .int .i64 i_2 ∧ f 8 = .int .i64 k_2 ∧ Kp F h0 F' h ∧ St F' (Ow.box b_1 44 (e_api_Addr a).toArray :: fr) h ∧ I_3 k_2) m_3 0 ⟨F_4, rfl, rfl, rfl, rfl, rfl, rfl, rfl, hK, hS, hI_3⟩ ?_
        rintro k_2 f_4 h_6 ⟨F_5, e1, e2, e3, e5, e6, e7, e8, hK, hS, hI0⟩
        obtain ⟨K_3, hKe_3⟩ : ∃ K : Int → Prop, K = fun k_2' => I_3 k_2' ∧ m_3 k_2' < m_3 k_2 := ⟨_, rfl⟩
        have hM : ref03_Print_l3 a n_1 n_2 i_2 K_2 K_3 k_2 := by rw [hKe_3]; exact hR_3 k_2 hI0
        unfold ref03_Print_l3 at hM
        refine HW.fr [(1, .pointer (some ⟨b_1, 0, none⟩)), (2, .string (bs [])), (3, .string (bs [])), (5, .int .i64 n_1), (6, .int .i64 n_2), (7, .int .i64 i_2), (8, .int .i64 k_2)] ⟨e1, e2, e3, e5, e6, e7, e8, trivial⟩ ?_
        refine HW.seq ?_
        refine HW.seq ?_
        refine HW.region ?_
        refine HO.val (v := .int .i64 i_2) (want_none) rfl (q_move rfl) ?_
        refine HO.val (v := .int .i64 k_2) (want_none) rfl (q_move rfl) ?_
        obtain ⟨ho_6, hM⟩ := hM
        refine HO.val (v := .int .i64 (i_2 + k_2)) (want_none) rfl (q_addN _ rfl rfl rfl ho_6.1 ho_6.2) ?_
        refine HO.val (v := .bool (decide ((i_2 + k_2) < 8))) (want_none) rfl (q_lss rfl rfl) ?_
        refine HO.val (v := .bool (decide ((i_2 + k_2) < 8))) (want_none) rfl (q_move rfl) ?_
        rcases Bool.eq_false_or_eq_true (decide ((i_2 + k_2) < 8)) with c_5 | c_5
        · replace hM := hM.1 (of_decide_eq_true c_5)
          refine HO.val (v := .int .i64 i_2) (want_by rfl rfl c_5) rfl (q_move rfl) ?_
          refine HO.val (v := .int .i64 k_2) (want_by rfl rfl c_5) rfl (q_move rfl) ?_
          refine HO.val (v := .int .i64 (i_2 + k_2)) (want_by rfl rfl c_5) rfl (q_addN _ rfl rfl rfl ho_6.1 ho_6.2) ?_
          obtain ⟨ho_7, hM⟩ := hM
          refine HO.val (v := .int .i64 (2 * (i_2 + k_2))) (want_by rfl rfl c_5) rfl (q_mulN _ rfl rfl rfl ho_7.1 ho_7.2) ?_
          refine HO.val (v := .pointer (some ⟨b_1, 1, none⟩)) (want_by rfl rfl c_5) rfl (q_fieldAddr fa_44_1 rfl rfl) ?_
          obtain ⟨ho_8, hM⟩ := hM
          refine HO.val (v := .pointer (some ⟨b_1, 1 + (2 * (i_2 + k_2)).toNat, none⟩)) (want_by rfl rfl c_5) rfl (q_idxA (o := 1) (t := 2 * (i_2 + k_2)) tr_42 rfl rfl ho_8) ?_
          refine HO.val (v := .int .u8 (b8 a.2 (2 * (i_2 + k_2)))) (want_by rfl rfl c_5) rfl (q_ldArr (o := 1) (t := 2 * (i_2 + k_2)) (X := a.2) to_5 rfl (hS.box 0 rfl) rfl ho_8) ?_
          refine HO.val (v := .bool (decide ((b8 a.2 (2 * (i_2 + k_2))) = 0))) (want_by rfl rfl c_5) rfl (q_eql rfl rfl) ?_
          refine HO.val (v := .bool (decide ((b8 a.2 (2 * (i_2 + k_2))) = 0))) (want_none) rfl (q_pickK true rfl c_5 rfl) ?_
          refine HO.val (v := .bool (decide ((b8 a.2 (2 * (i_2 + k_2))) = 0))) (want_none) rfl (q_move rfl) ?_
          rcases Bool.eq_false_or_eq_true (decide ((b8 a.2 (2 * (i_2 + k_2))) = 0)) with c_6 | c_6
          · replace hM := hM.1 (of_decide_eq_true c_6)
            refine HO.val (v := .int .i64 i_2) (want_by rfl rfl c_6) rfl (q_move rfl) ?_
            refine HO.val (v := .int .i64 k_2) (want_by rfl rfl c_6) rfl (q_move rfl) ?_
            refine HO.val (v := .int .i64 (i_2 + k_2)) (want_by rfl rfl c_6) rfl (q_addN _ rfl rfl rfl ho_6.1 ho_6.2) ?_
            refine HO.val (v := .int .i64 (2 * (i_2 + k_2))) (want_by rfl rfl c_6) rfl (q_mulN _ rfl rfl rfl ho_7.1 ho_7.2) ?_
            obtain ⟨ho_9, hM⟩ := hM
            refine HO.val (v := .int .i64 ((2 * (i_2 + k_2)) + 1)) (want_by rfl rfl c_6) rfl (q_addN _ rfl rfl rfl ho_9.1 ho_9.2) ?_
            refine HO.val (v := .pointer (some ⟨b_1, 1, none⟩)) (want_by rfl rfl c_6) rfl (q_fieldAddr fa_44_1 rfl rfl) ?_
            obtain ⟨ho_10, hM⟩ := hM
            refine HO.val (v := .pointer (some ⟨b_1, 1 + ((2 * (i_2 + k_2)) + 1).toNat, none⟩)) (want_by rfl rfl c_6) rfl (q_idxA (o := 1) (t := (2 * (i_2 + k_2)) + 1) tr_42 rfl rfl ho_10) ?_
            refine HO.val (v := .int .u8 (b8 a.2 ((2 * (i_2 + k_2)) + 1))) (want_by rfl rfl c_6) rfl (q_ldArr (o := 1) (t := (2 * (i_2 + k_2)) + 1) (X := a.2) to_5 rfl (hS.box 0 rfl) rfl ho_10) ?_
            refine HO.val (v := .bool (decide ((b8 a.2 ((2 * (i_2 + k_2)) + 1)) = 0))) (want_by rfl rfl c_6) rfl (q_eql rfl rfl) ?_
            refine HO.val (v := .bool (decide ((b8 a.2 ((2 * (i_2 + k_2)) + 1)) = 0))) (want_none) rfl (q_pickK true rfl c_6 rfl) ?_
            refine HO.nil (thenQ_normal (?_))
            refine HW.cond (decide ((b8 a.2 ((2 * (i_2 + k_2)) + 1)) = 0)) rfl (fun c_7 => ?_) (fun c_7 => ?_)
            · replace hM := hM.1 (of_decide_eq_true c_7)
              refine HW.skip (thenQ_normal (?_))
              refine HW.block ?_
              refine HW.region ?_
              refine HO.val (v := .int .i64 k_2) (want_none) rfl (q_move rfl) ?_
              obtain ⟨ho_11, hM⟩ := hM
              refine HO.val (v := .int .i64 (k_2 + 1)) (want_none) rfl (q_addN _ rfl rfl rfl ho_11.1 ho_11.2) ?_
              refine HO.val (v := .int .i64 (k_2 + 1)) (want_none) rfl (q_assign rfl) ?_
              refine HO.nil (blockQ_normal (thenQ_normal (?_)))
              rw [hKe_3] at hM
              exact ⟨k_2 + 1, ⟨F_5, rfl, rfl, rfl, rfl, rfl, rfl, rfl, hK, hS, hM.1⟩, hM.2⟩
            · replace hM := hM.2 (of_decide_eq_false c_7)
              refine HW.exit (thenQ_exit (thenQ_exit (blockQ_exit (thenQ_normal (?_)))))
              exact ⟨F_5, k_2, rfl, rfl, rfl, rfl, rfl, rfl, rfl, hK, hS, hM⟩
          · replace hM := hM.2 (of_decide_eq_false c_6)
            refine HO.past (past_by rfl rfl c_6) rfl ?_
            refine HO.past (past_by rfl rfl c_6) rfl ?_
            refine HO.past (past_by rfl rfl c_6) rfl ?_
            refine HO.past (past_by rfl rfl c_6) rfl ?_
            refine HO.past (past_by rfl rfl c_6) rfl ?_
            refine HO.past (past_by rfl rfl c_6) rfl ?_
            refine HO.past (past_by rfl rfl c_6) rfl ?_
            refine HO.past (past_by rfl rfl c_6) rfl ?_
            refine HO.past (past_by rfl rfl c_6) rfl ?_
            refine HO.val (v := .bool false) (want_none) rfl (q_pickK false rfl c_6 rfl) ?_
            refine HO.nil (thenQ_normal (?_))
            refine HW.condF rfl ?_
            refine HW.exit (thenQ_exit (thenQ_exit (blockQ_exit (thenQ_normal (?_)))))
            exact ⟨F_5, k_2, rfl, rfl, rfl, rfl, rfl, rfl, rfl, hK, hS, hM⟩
        · replace hM := hM.2 (of_decide_eq_false c_5)
          refine HO.past (past_by rfl rfl c_5) rfl ?_
          refine HO.past (past_by rfl rfl c_5) rfl ?_
          refine HO.past (past_by rfl rfl c_5) rfl ?_
          refine HO.past (past_by rfl rfl c_5) rfl ?_
          refine HO.past (past_by rfl rfl c_5) rfl ?_
          refine HO.past (past_by rfl rfl c_5) rfl ?_
          refine HO.past (past_by rfl rfl c_5) rfl ?_
          refine HO.past (past_by rfl rfl c_5) rfl ?_
          refine HO.val (v := .bool false) (want_none) rfl (q_pickK false rfl c_5 rfl) ?_
          refine HO.val (v := .bool false) (want_none) rfl (q_move rfl) ?_
          refine HO.past (past_some rfl rfl) rfl ?_
          refine HO.past (past_some rfl rfl) rfl ?_
          refine HO.past (past_some rfl rfl) rfl ?_
          refine HO.past (past_some rfl rfl) rfl ?_
          refine HO.past (past_some rfl rfl) rfl ?_
          refine HO.past (past_some rfl rfl) rfl ?_
          refine HO.past (past_some rfl rfl) rfl ?_
          refine HO.past (past_some rfl rfl) rfl ?_
          refine HO.past (past_some rfl rfl) rfl ?_
          refine HO.val (v := .bool false) (want_none) rfl (q_pick rfl rfl) ?_
          refine HO.nil (thenQ_normal (?_))
          refine HW.condF rfl ?_
          refine HW.exit (thenQ_exit (thenQ_exit (blockQ_exit (thenQ_normal (?_)))))
          exact ⟨F_5, k_2, rfl, rfl, rfl, rfl, rfl, rfl, rfl, hK, hS, hM⟩
      · rintro f_5 h_7 ⟨F_6, k_1, e1, e2, e3, e5, e6, e7, e8, hK, hS, hM⟩
        unfold ref03_Print_j2 at hM
        refine HW.fr [(1, .pointer (some ⟨b_1, 0, none⟩)), (2, .string (bs [])), (3, .string (bs [])), (5, .int .i64 n_1), (6, .int .i64 n_2), (7, .int .i64 i_2), (8, .int .i64 k_1)] ⟨e1, e2, e3, e5, e6, e7, e8, trivial⟩ ?_
        refine HW.seq ?_
        refine HW.region ?_
        refine HO.val (v := .int .i64 k_1) (want_none) rfl (q_move rfl) ?_
        refine HO.val (v := .int .i64 n_2) (want_none) rfl (q_move rfl) ?_
        refine HO.val (v := .bool (decide (n_2 < k_1))) (want_none) rfl (q_gtr rfl rfl) ?_
        refine HO.nil (thenQ_normal (?_))
        refine HW.cond (decide (n_2 < k_1)) rfl (fun c_8 => ?_) (fun c_8 => ?_)
        · replace hM := hM.1 (of_decide_eq_true c_8)
          refine HW.region ?_
          refine HO.val (v := .int .i64 i_2) (want_none) rfl (q_move rfl) ?_
          refine HO.val (v := .int .i64 k_1) (want_none) rfl (q_move rfl) ?_
          refine HO.val (v := .int .i64 i_2) (want_none) rfl (q_assign rfl) ?_
          refine HO.val (v := .int .i64 k_1) (want_none) rfl (q_assign rfl) ?_
          refine HO.nil (blockQ_normal (thenQ_normal (?_)))
          refine HW.region ?_
          refine HO.val (v := .int .i64 i_2) (want_none) rfl (q_move rfl) ?_
          obtain ⟨ho_12, hM⟩ := hM
          refine HO.val (v := .int .i64 (i_2 + 1)) (want_none) rfl (q_addN _ rfl rfl rfl ho_12.1 ho_12.2) ?_
          refine HO.val (v := .int .i64 (i_2 + 1)) (want_none) rfl (q_assign rfl) ?_
          refine HO.nil (thenQ_normal (?_))
          rw [hKe_2] at hM
          exact ⟨(i_2, k_1, i_2 + 1), ⟨F_6, rfl, rfl, rfl, rfl, rfl, rfl, hK, hS, hM.1⟩, hM.2⟩
        · replace hM := hM.2 (of_decide_eq_false c_8)
          refine HW.skip (blockQ_normal (thenQ_normal (?_)))
          refine HW.region ?_
          refine HO.val (v := .int .i64 i_2) (want_none) rfl (q_move rfl) ?_
          obtain ⟨ho_13, hM⟩ := hM
          refine HO.val (v := .int .i64 (i_2 + 1)) (want_none) rfl (q_addN _ rfl rfl rfl ho_13.1 ho_13.2) ?_
          refine HO.val (v := .int .i64 (i_2 + 1)) (want_none) rfl (q_assign rfl) ?_
          refine HO.nil (thenQ_normal (?_))
          rw [hKe_2] at hM
          exact ⟨(n_1, n_2, i_2 + 1), ⟨F_6, rfl, rfl, rfl, rfl, rfl, rfl, hK, hS, hM.1⟩, hM.2⟩
    · replace hM := hM.2 (of_decide_eq_false c_4)
      refine HW.exit (thenQ_exit (thenQ_exit (blockQ_exit (thenQ_normal (?_)))))
      refine HW.seq ?_
      refine HW.seq ?_
      refine HW.region ?_
      refine HO.val (v := .int .i64 0) (want_none) rfl (q_assign rfl) ?_
      refine HO.nil (thenQ_normal (?_))
      refine HW.block ?_
      obtain ⟨I_4, m_4, hI_4, hR_4⟩ := hM
      refine HW.loop (S := Str × Int) (fun s f h => match s with | (s_3, i_3) => ∃ (F' : Fz), f 1 = .pointer (some ⟨b_1, 0, none⟩) ∧ f 2 = .string (bs []) ∧ f 3 = .string (bs s_3) ∧ f 5 = .int .i64 n_1 ∧ f 6 = .int .i64 n_2 ∧ f 9 = .int .i64 i_3 ∧ Kp F h0 F' h ∧ St F' (Ow.box b_1 44 (e_api_Addr a).toArray :: fr) h ∧ I_4 (s_3, i_3)) m_4 ([], 0) ⟨F_4, rfl, rfl, rfl, rfl, rfl, rfl, hK, hS, hI_4⟩ ?_
      rintro ⟨s_3, i_3⟩ f_6 h_8 ⟨F_7, e1, e2, e3, e5, e6, e9, hK, hS, hI0⟩
      obtain ⟨K_4, hKe_4⟩ : ∃ K : Str → Int → Prop, K = fun s_3' i_3' => I_4 (s_3', i_3') ∧ m_4 (s_3', i_3') < m_4 (s_3, i_3) := ⟨_, rfl⟩
      have hM : ref03_Print_l4 a Q n_1 n_2 K_4 s_3 i_3 := by rw [hKe_4]; exact hR_4 (s_3, i_3) hI0
      unfold ref03_Print_l4 at hM
      refine HW.fr [(1, .pointer (some ⟨b_1, 0, none⟩)), (2, .string (bs [])), (3, .string (bs s_3)), (5, .int .i64 n_1), (6, .int .i64 n_2), (9, .int .i64 i_3)] ⟨e1, e2, e3, e5, e6, e9, trivial⟩ ?_
      refine HW.seq ?_
      refine HW.seq ?_
      refine HW.region ?_
      refine HO.val (v := .int .i64 i_3) (want_none) rfl (q_move rfl) ?_
      refine HO.val (v := .bool (decide (i_3 < 8))) (want_none) rfl (q_lss rfl rfl) ?_
      refine HO.nil (thenQ_normal (?_))
      refine HW.cond (decide (i_3 < 8)) rfl (fun c_9 => ?_) (fun c_9 => ?_)
      · replace hM := hM.1 (of_decide_eq_true c_9)
        refine HW.skip (thenQ_normal (?_))
        refine HW.seq ?_
        refine HW.block ?_
        refine HW.seq ?_
        refine HW.seq ?_
        refine HW.region ?_
        refine HO.val (v := .int .i64 i_3) (want_none) rfl (q_move rfl) ?_
        refine HO.val (v := .int .i64 n_1) (want_none) rfl (q_move rfl) ?_
        refine HO.val (v := .bool (decide (i_3 = n_1))) (want_none) rfl (q_eql rfl rfl) ?_
        refine HO.nil (thenQ_normal (?_))
        refine HW.cond (decide (i_3 = n_1)) rfl (fun c_10 => ?_) (fun c_10 => ?_)
        · replace hM := hM.1 (of_decide_eq_true c_10)
          refine HW.seq ?_
          refine HW.region ?_
          refine HO.val (v := .string (bs s_3)) (want_none) rfl (q_move rfl) ?_
          obtain ⟨ho_14, hM⟩ := hM
          refine HO.val (v := .string (bs (s_3 ++ ([58, 58] : Str)))) (want_none) rfl (q_addT rfl rfl ho_14) ?_
          refine HO.val (v := .string (bs (s_3 ++ ([58, 58] : Str)))) (want_none) rfl (q_assign rfl) ?_
          refine HO.nil (thenQ_normal (?_))
          refine HW.seq ?_
          refine HW.region ?_
          refine HO.val (v := .int .i64 i_3) (want_none) rfl (q_move rfl) ?_
          refine HO.val (v := .int .i64 n_2) (want_none) rfl (q_move rfl) ?_
          obtain ⟨ho_15, hM⟩ := hM
          refine HO.val (v := .int .i64 (i_3 + n_2)) (want_none) rfl (q_addN _ rfl rfl rfl ho_15.1 ho_15.2) ?_
          obtain ⟨ho_16, hM⟩ := hM
          refine HO.val (v := .int .i64 ((i_3 + n_2) - 1)) (want_none) rfl (q_subN _ rfl rfl rfl ho_16.1 ho_16.2) ?_
          refine HO.val (v := .int .i64 ((i_3 + n_2) - 1)) (want_none) rfl (q_assign rfl) ?_
          refine HO.nil (thenQ_normal (?_))
          refine HW.exit (thenQ_exit (blockQ_exit (thenQ_normal (?_))))
          refine HW.region ?_
          refine HO.val (v := .int .i64 ((i_3 + n_2) - 1)) (want_none) rfl (q_move rfl) ?_
          obtain ⟨ho_17, hM⟩ := hM
          refine HO.val (v := .int .i64 (((i_3 + n_2) - 1) + 1)) (want_none) rfl (q_addN _ rfl rfl rfl ho_17.1 ho_17.2) ?_
          refine HO.val (v := .int .i64 (((i_3 + n_2) - 1) + 1)) (want_none) rfl (q_assign rfl) ?_
          refine HO.nil (thenQ_normal (?_))
          rw [hKe_4] at hM
          exact ⟨(s_3 ++ ([58, 58] : Str), ((i_3 + n_2) - 1) + 1), ⟨F_7, rfl, rfl, rfl, rfl, rfl, rfl, hK, hS, hM.1⟩, hM.2⟩
        · replace hM := hM.2 (of_decide_eq_false c_10)
          refine HW.skip (thenQ_normal (?_))
          refine HW.seq_mid (fun f h => ∃ (F' : Fz) (s_4 : Str), f 1 = .pointer (some ⟨b_1, 0, none⟩) ∧ f 2 = .string (bs []) ∧ f 3 = .string (bs s_4) ∧ f 5 = .int .i64 n_1 ∧ f 6 = .int .i64 n_2 ∧ f 9 = .int .i64 i_3 ∧ Kp F h0 F' h ∧ St F' (Ow.box b_1 44 (e_api_Addr a).toArray :: fr) h ∧ ref03_Print_j3 a i_3 K_4 s_4) ?_ ?_
          · refine HW.seq ?_
            refine HW.region ?_
            refine HO.val (v := .string (bs s_3)) (want_none) rfl (q_move rfl) ?_
            refine HO.val (v := .bool (!decide ((s_3 : Str) = []))) (want_none) rfl (q_neqT rfl rfl) ?_
            refine HO.val (v := .bool (!decide ((s_3 : Str) = []))) (want_none) rfl (q_move rfl) ?_
            rcases Bool.eq_false_or_eq_true (!decide ((s_3 : Str) = [])) with c_11 | c_11
            · replace hM := hM.1 (nd_true c_11)
              refine HO.val (v := .string (bs s_3)) (want_by rfl rfl c_11) rfl (q_move rfl) ?_
              refine HO.val (v := .string (bs s_3)) (want_by rfl rfl c_11) rfl (q_move rfl) ?_
              refine HO.val (v := .int .i64 (s_3.length : Int)) (want_by rfl rfl c_11) rfl (q_lenT Tryz.underlying9 rfl rfl) ?_
              obtain ⟨ho_18, hM⟩ := hM
              refine HO.val (v := .int .i64 ((s_3.length : Int) - 1)) (want_by rfl rfl c_11) rfl (q_subN _ rfl rfl rfl ho_18.1 ho_18.2) ?_
              obtain ⟨ho_19, hM⟩ := hM
              refine HO.val (v := .int .u8 ((gi s_3 ((s_3.length : Int) - 1)).toNat : Int)) (want_by rfl rfl c_11) rfl (q_idxT Tryz.underlying9 rfl rfl ho_19) ?_
              refine HO.val (v := .bool (!decide (((gi s_3 ((s_3.length : Int) - 1)).toNat : Int) = 58))) (want_by rfl rfl c_11) rfl (q_neq rfl rfl) ?_
              refine HO.val (v := .bool (!decide (((gi s_3 ((s_3.length : Int) - 1)).toNat : Int) = 58))) (want_none) rfl (q_pickK true rfl c_11 rfl) ?_
              refine HO.nil (thenQ_normal (?_))
              refine HW.cond (!decide (((gi s_3 ((s_3.length : Int) - 1)).toNat : Int) = 58)) rfl (fun c_12 => ?_) (fun c_12 => ?_)
              · replace hM := hM.1 (nd_true c_12)
                refine HW.region ?_
                refine HO.val (v := .string (bs s_3)) (want_none) rfl (q_move rfl) ?_
                obtain ⟨ho_20, hM⟩ := hM
                refine HO.val (v := .string (bs (s_3 ++ ([58] : Str)))) (want_none) rfl (q_addT rfl rfl ho_20) ?_
                refine HO.val (v := .string (bs (s_3 ++ ([58] : Str)))) (want_none) rfl (q_assign rfl) ?_
                refine HO.nil (thenQ_normal (?_))
                exact ⟨F_7, s_3 ++ ([58] : Str), rfl, rfl, rfl, rfl, rfl, rfl, hK, hS, hM⟩
              · replace hM := hM.2 (nd_false c_12)
                refine HW.skip (thenQ_normal (?_))
                exact ⟨F_7, s_3, rfl, rfl, rfl, rfl, rfl, rfl, hK, hS, hM⟩
            · replace hM := hM.2 (nd_false c_11)
              refine HO.past (past_by rfl rfl c_11) rfl ?_
              refine HO.past (past_by rfl rfl c_11) rfl ?_
              refine HO.past (past_by rfl rfl c_11) rfl ?_
              refine HO.past (past_by rfl rfl c_11) rfl ?_
              refine HO.past (past_by rfl rfl c_11) rfl ?_
              refine HO.past (past_by rfl rfl c_11) rfl ?_
              refine HO.val (v := .bool false) (want_none) rfl (q_pickK false rfl c_11 rfl) ?_
              refine HO.nil (thenQ_normal (?_))
              refine HW.condF rfl ?_
              refine HW.skip (thenQ_normal (?_))
              exact ⟨F_7, s_3, rfl, rfl, rfl, rfl, rfl, rfl, hK, hS, hM⟩
          · rintro f_7 h_9 ⟨F_8, s_4, e1, e2, e3, e5, e6, e9, hK, hS, hM⟩
            unfold ref03_Print_j3 at hM
            refine HW.fr [(1, .pointer (some ⟨b_1, 0, none⟩)), (2, .string (bs [])), (3, .string (bs s_4)), (5, .int .i64 n_1), (6, .int .i64 n_2), (9, .int .i64 i_3)] ⟨e1, e2, e3, e5, e6, e9, trivial⟩ ?_
            refine HW.regionA 19 mixed (fun h => (Blk h b_1 (.cells (e_api_Addr a).toArray 44 (0, 0)))) [] (by kernel_rfl) ?_
            refine HA.val (k := 0) (v := .string (bs s_4)) rfl rfl (by kernel_rfl) (by kernel_rfl) (want_none) rfl (fun _ c404 => q_move rfl) ?_
            refine HA.val (k := 1) (v := .int .i64 i_3) rfl rfl (by kernel_rfl) (by kernel_rfl) (want_none) rfl (fun _ c404 => q_move rfl) ?_
            obtain ⟨ho_21, hM⟩ := hM
            refine HA.val (k := 2) (v := .int .i64 (2 * i_3)) rfl rfl (by kernel_rfl) (by kernel_rfl) (want_none) rfl (fun _ c404 => q_mulN _ rfl rfl rfl ho_21.1 ho_21.2) ?_
            refine HA.val (k := 3) (v := .pointer (some ⟨b_1, 1, none⟩)) rfl rfl (by kernel_rfl) (by kernel_rfl) (want_none) rfl (fun _ c404 => q_fieldAddr fa_44_1 rfl rfl) ?_
            obtain ⟨ho_22, hM⟩ := hM
            refine HA.val (k := 4) (v := .pointer (some ⟨b_1, 1 + (2 * i_3).toNat, none⟩)) rfl rfl (by kernel_rfl) (by kernel_rfl) (want_none) rfl (fun _ c404 => q_idxA (o := 1) (t := 2 * i_3) tr_42 rfl rfl ho_22) ?_
            refine HA.val (k := 5) (v := .int .u8 (b8 a.2 (2 * i_3))) rfl rfl (by kernel_rfl) (by kernel_rfl) (want_none) rfl (fun _ c404 => q_ldArr (o := 1) (t := 2 * i_3) (X := a.2) to_5 rfl c404 rfl ho_22) ?_
            obtain ⟨ho_23, hM⟩ := hM
            refine HA.val (k := 6) (v := .int .i64 (b8 a.2 (2 * i_3))) rfl rfl (by kernel_rfl) (by kernel_rfl) (want_none) rfl (fun _ c404 => q_convInt Tryz.underlying5 Tryz.underlying3 rfl (wrap_i64 ho_23.1 ho_23.2)) ?_
            obtain ⟨ho_24, hM⟩ := hM
            refine HA.val (k := 7) (v := .int .i64 (256 * (b8 a.2 (2 * i_3)))) rfl rfl (by kernel_rfl) (by kernel_rfl) (want_none) rfl (fun _ c404 => q_mulN _ rfl rfl rfl ho_24.1 ho_24.2) ?_
            refine HA.val (k := 8) (v := .int .i64 i_3) rfl rfl (by kernel_rfl) (by kernel_rfl) (want_none) rfl (fun _ c404 => q_move rfl) ?_
            refine HA.val (k := 9) (v := .int .i64 (2 * i_3)) rfl rfl (by kernel_rfl) (by kernel_rfl) (want_none) rfl (fun _ c404 => q_mulN _ rfl rfl rfl ho_21.1 ho_21.2) ?_
            obtain ⟨ho_25, hM⟩ := hM
            refine HA.val (k := 10) (v := .int .i64 ((2 * i_3) + 1)) rfl rfl (by kernel_rfl) (by kernel_rfl) (want_none) rfl (fun _ c404 => q_addN _ rfl rfl rfl ho_25.1 ho_25.2) ?_
            refine HA.val (k := 11) (v := .pointer (some ⟨b_1, 1, none⟩)) rfl rfl (by kernel_rfl) (by kernel_rfl) (want_none) rfl (fun _ c404 => q_fieldAddr fa_44_1 rfl rfl) ?_
            obtain ⟨ho_26, hM⟩ := hM
            refine HA.val (k := 12) (v := .pointer (some ⟨b_1, 1 + ((2 * i_3) + 1).toNat, none⟩)) rfl rfl (by kernel_rfl) (by kernel_rfl) (want_none) rfl (fun _ c404 => q_idxA (o := 1) (t := (2 * i_3) + 1) tr_42 rfl rfl ho_26) ?_
            refine HA.val (k := 13) (v := .int .u8 (b8 a.2 ((2 * i_3) + 1))) rfl rfl (by kernel_rfl) (by kernel_rfl) (want_none) rfl (fun _ c404 => q_ldArr (o := 1) (t := (2 * i_3) + 1) (X := a.2) to_5 rfl c404 rfl ho_26) ?_
            obtain ⟨ho_27, hM⟩ := hM
            refine HA.val (k := 14) (v := .int .i64 (b8 a.2 ((2 * i_3) + 1))) rfl rfl (by kernel_rfl) (by kernel_rfl) (want_none) rfl (fun _ c404 => q_convInt Tryz.underlying5 Tryz.underlying3 rfl (wrap_i64 ho_27.1 ho_27.2)) ?_
            obtain ⟨ho_28, hM⟩ := hM
            refine HA.val (k := 15) (v := .int .i64 ((256 * (b8 a.2 (2 * i_3))) + (b8 a.2 ((2 * i_3) + 1)))) rfl rfl (by kernel_rfl) (by kernel_rfl) (want_none) rfl (fun _ c404 => q_addN _ rfl rfl rfl ho_28.1 ho_28.2) ?_
            refine HA.one (k := 16) ⟨(hS.box 0 rfl), (Go.Wk.at_nil _ _)⟩ (by kernel_rfl) ?_
            refine HS.call rfl (want_none) rfl (ec en_44 rfl rfl) (ref03_Num_walk (fr := (Ow.box b_1 44 (e_api_Addr a).toArray :: fr)) ((256 * (b8 a.2 (2 * i_3))) + (b8 a.2 ((2 * i_3) + 1))) 16 hS hM) ?_
            rintro _ h_10 ⟨F_9, r_3, rfl, hk, hS, hM⟩
            replace hK := hK.trans hk
            obtain ⟨ho_29, hM⟩ := hM
            refine HA.val (k := 17) (v := .string (bs (s_4 ++ r_3))) rfl rfl (by kernel_rfl) (by kernel_rfl) (want_none) rfl (fun _ c404 => q_addT rfl rfl ho_29) ?_
            refine HA.val (k := 18) (v := .string (bs (s_4 ++ r_3))) rfl rfl (by kernel_rfl) (by kernel_rfl) (want_none) rfl (fun _ c404 => q_assign rfl) ?_
            refine HA.nil ⟨(hS.box 0 rfl), (Go.Wk.at_nil _ _)⟩ (by kernel_rfl) (blockQ_normal (thenQ_normal (?_)))
            refine HW.region ?_
            refine HO.val (v := .int .i64 i_3) (want_none) rfl (q_move rfl) ?_
            obtain ⟨ho_30, hM⟩ := hM
            refine HO.val (v := .int .i64 (i_3 + 1)) (want_none) rfl (q_addN _ rfl rfl rfl ho_30.1 ho_30.2) ?_
            refine HO.val (v := .int .i64 (i_3 + 1)) (want_none) rfl (q_assign rfl) ?_
            refine HO.nil (thenQ_normal (?_))
            rw [hKe_4] at hM
            exact ⟨(s_4 ++ r_3, i_3 + 1), ⟨F_9, rfl, rfl, rfl, rfl, rfl, rfl, hK, hS, hM.1⟩, hM.2⟩
      · replace hM := hM.2 (of_decide_eq_false c_9)
        refine HW.exit (thenQ_exit (thenQ_exit (blockQ_exit (thenQ_normal (?_)))))
        refine HW.seq ?_
        refine HW.region ?_
        refine HO.val (v := .string (bs s_3)) (want_none) rfl (q_move rfl) ?_
        refine HO.val (v := .string (bs s_3)) (want_none) rfl (q_assign rfl) ?_
        refine HO.nil (thenQ_normal (?_))
        refine HW.ret (?_)
        refine ⟨.inr rfl, .string (bs s_3), res1 rfl (rt rfl), ?_⟩
        replace hS : St F_7 (fr) h_8 := hS.perm2 [] 1 rfl rfl
        exact ⟨F_7, s_3, rfl, hK, hS, hM⟩

def ref11_Print_j1 (l : List T_api_Addr) (i_1 : Int) (K_1 : Str → Int → Prop) (s_2 : Str) : Prop :=
  ((0 : Int) ≤ i_1 ∧ i_1 < (l.length : Int)) ∧ (ref03_Print_W (gi l i_1) (fun r_2 => ((s_2.length : Int) + (r_2.length : Int) ≤ 9223372036854775807) ∧ ((I64 (i_1 + 1)) ∧ (K_1 (s_2 ++ r_2) (i_1 + 1)))))
def ref11_Print_l1 (l : List T_api_Addr) (Q : Str → Prop) (K_1 : Str → Int → Prop) (s_1 : Str) (i_1 : Int) : Prop :=
  (i_1 < (l.length : Int) → (0 < i_1 → ((s_1.length : Int) + ((([44] : Str)).length : Int) ≤ 9223372036854775807) ∧ (ref11_Print_j1 l i_1 K_1 (s_1 ++ ([44] : Str)))) ∧ (¬ (0 < i_1) → ref11_Print_j1 l i_1 K_1 s_1)) ∧ (¬ (i_1 < (l.length : Int)) → Q s_1)
def ref11_Print_W (l : List T_api_Addr) (Q : Str → Prop) : Prop :=
  ((l.length : Int) = 0 → Q [45]) ∧ (¬ ((l.length : Int) = 0) → loopW (fun (K_1 : (Str × Int) → Prop) (s : Str × Int) => ref11_Print_l1 l Q (fun s_1 i_1 => K_1 (s_1, i_1)) s.1 s.2) ([], 0))
set_option maxHeartbeats 40000000 in
set_option maxRecDepth 100000 in
theorem ref11_Print_walk {F : Fz} {fr : List Ow} {h0 : Heap} (l : List T_api_Addr) (vl : Value) (hS : St F (fr) h0) (hL_l : SliceF F h0 17 e_api_Addr vl l) {Q : Str → Prop} (hM : ref11_Print_W l Q) :
    HC Tryz.prog 9 #[vl] h0 fun u h' => ∃ (F' : Fz) (r_1 : Str), u = .string (bs r_1) ∧ Kp F h0 F' h' ∧ St F' (fr) h' ∧ (SliceF F' h' 17 e_api_Addr vl l) ∧ Q r_1 := by
  unfold ref11_Print_W at hM
  have hK := Kp.refl F h0
  refine HC.of_HW (n := 26) Tryz.func9 rfl rfl (Nat.le_of_ble_eq_true rfl) ?_
  refine HW.seq ?_
  refine HW.region ?_
  refine HO.val (v := .string (bs [])) (want_none) rfl (q_assign rfl) ?_
  refine HO.nil (thenQ_normal (?_))
  refine HW.seq ?_
  refine HW.seq ?_
  refine HW.region ?_
  refine HO.val (v := vl) (want_none) rfl (q_move rfl) ?_
  refine HO.val (v := .int .i64 (l.length : Int)) (want_none) rfl (q_len ts_22 (shp hL_l.is) rfl rfl) ?_
  refine HO.val (v := .bool (decide ((l.length : Int) = 0))) (want_none) rfl (q_eql rfl rfl) ?_
  refine HO.nil (thenQ_normal (?_))
  refine HW.cond (decide ((l.length : Int) = 0)) rfl (fun c_1 => ?_) (fun c_1 => ?_)
  · replace hM := hM.1 (of_decide_eq_true c_1)
    refine HW.seq ?_
    refine HW.region ?_
    refine HO.val (v := .string (bs [45])) (want_none) rfl (q_assign rfl) ?_
    refine HO.nil (thenQ_normal (?_))
    refine HW.ret (thenQ_ret (?_))
    refine ⟨.inr rfl, .string (bs [45]), res1 rfl (rt rfl), ?_⟩
    exact ⟨F, [45], rfl, hK, hS, hL_l, hM⟩
  · replace hM := hM.2 (of_decide_eq_false c_1)
    refine HW.skip (thenQ_normal (?_))
    refine HW.seq ?_
    refine HW.region ?_
    refine HO.val (v := .string (bs [])) (want_none) rfl (q_assign rfl) ?_
    refine HO.nil (thenQ_normal (?_))
    refine HW.seq ?_
    refine HW.seq ?_
    refine HW.region ?_
    refine HO.val (v := .int .i64 0) (want_none) rfl (q_assign rfl) ?_
    refine HO.nil (thenQ_normal (?_))
    refine HW.block ?_
    obtain ⟨I_1, m_1, hI_1, hR_1⟩ := hM
    refine HW.loop (S := Str × Int) (fun s f h => match s with | (s_1, i_1) => ∃ (F' : Fz), f 0 = vl ∧ f 2 = .string (bs []) ∧ f 3 = .string (bs s_1) ∧ f 4 = .int .i64 i_1 ∧ Kp F h0 F' h ∧ St F' (fr) h ∧ (SliceF F' h 17 e_api_Addr vl l) ∧ I_1 (s_1, i_1)) m_1 ([], 0) ⟨F, rfl, rfl, rfl, rfl, hK, hS, hL_l, hI_1⟩ ?_
    rintro ⟨s_1, i_1⟩ f_1 h_1 ⟨F_1, e0, e2, e3, e4, hK, hS, hL_l, hI0⟩
    obtain ⟨K_1, hKe_1⟩ : ∃ K : Str → Int → Prop, K = fun s_1' i_1' => I_1 (s_1', i_1') ∧ m_1 (s_1', i_1') < m_1 (s_1, i_1) := ⟨_, rfl⟩
    have hM : ref11_Print_l1 l Q K_1 s_1 i_1 := by rw [hKe_1]; exact hR_1 (s_1, i_1) hI0
    unfold ref11_Print_l1 at hM
    refine HW.fr [(0, vl), (2, .string (bs [])), (3, .string (bs s_1)), (4, .int .i64 i_1)] ⟨e0, e2, e3, e4, trivial⟩ ?_
    refine HW.seq ?_
    refine HW.seq ?_
    refine HW.region ?_
    refine HO.val (v := .int .i64 i_1) (want_none) rfl (q_move rfl) ?_
    refine HO.val (v := vl) (want_none) rfl (q_move rfl) ?_
    refine HO.val (v := .int .i64 (l.length : Int)) (want_none) rfl (q_len ts_22 (shp hL_l.is) rfl rfl) ?_
    refine HO.val (v := .bool (decide (i_1 < (l.length : Int)))) (want_none) rfl (q_lss rfl rfl) ?_
    refine HO.nil (thenQ_normal (?_))
    refine HW.cond (decide (i_1 < (l.length : Int))) rfl (fun c_2 => ?_) (fun c_2 => ?_)
    · replace hM := hM.1 (of_decide_eq_true c_2)
      refine HW.skip (thenQ_normal (?_))
      refine HW.seq ?_
      refine HW.block ?_
      refine HW.seq_mid (fun f h => ∃ (F' : Fz) (s_2 : Str), f 0 = vl ∧ f 2 = .string (bs []) ∧ f 3 = .string (bs s_2) ∧ f 4 = .int .i64 i_1 ∧ Kp F h0 F' h ∧ St F' (fr) h ∧ (SliceF F' h 17 e_api_Addr vl l) ∧ ref11_Print_j1 l i_1 K_1 s_2) ?_ ?_
      · refine HW.seq ?_
        refine HW.region ?_
        refine HO.val (v := .int .i64 i_1) (want_none) rfl (q_move rfl) ?_
        refine HO.val (v := .bool (decide (0 < i_1))) (want_none) rfl (q_gtr rfl rfl) ?_
        refine HO.nil (thenQ_normal (?_))
        refine HW.cond (decide (0 < i_1)) rfl (fun c_3 => ?_) (fun c_3 => ?_)
        · replace hM := hM.1 (of_decide_eq_true c_3)
          refine HW.region ?_
          refine HO.val (v := .string (bs s_1)) (want_none) rfl (q_move rfl) ?_
          obtain ⟨ho_1, hM⟩ := hM
          refine HO.val (v := .string (bs (s_1 ++ ([44] : Str)))) (want_none) rfl (q_addT rfl rfl ho_1) ?_
          refine HO.val (v := .string (bs (s_1 ++ ([44] : Str)))) (want_none) rfl (q_assign rfl) ?_
          refine HO.nil (thenQ_normal (?_))
          exact ⟨F_1, s_1 ++ ([44] : Str), rfl, rfl, rfl, rfl, hK, hS, hL_l, hM⟩
        · replace hM := hM.2 (of_decide_eq_false c_3)
          refine HW.skip (thenQ_normal (?_))
          exact ⟨F_1, s_1, rfl, rfl, rfl, rfl, hK, hS, hL_l, hM⟩
      · rintro f_2 h_2 ⟨F_2, s_2, e0, e2, e3, e4, hK, hS, hL_l, hM⟩
        unfold ref11_Print_j1 at hM
        refine HW.fr [(0, vl), (2, .string (bs [])), (3, .string (bs s_2)), (4, .int .i64 i_1)] ⟨e0, e2, e3, e4, trivial⟩ ?_
        refine HW.region ?_
        refine HO.val (v := .string (bs s_2)) (want_none) rfl (q_move rfl) ?_
        refine HO.val (v := vl) (want_none) rfl (q_move rfl) ?_
        refine HO.val (v := .int .i64 i_1) (want_none) rfl (q_move rfl) ?_
        obtain ⟨ho_2, hM⟩ := hM
        refine HO.val (v := elemPtr 17 vl (i_1).toNat) (want_none) rfl (q_idx ts_22 hL_l.is rfl rfl ho_2) ?_
        refine HO.val (v := .agg (e_api_Addr (gi l i_1)).toArray) (want_none) rfl (q_ldElemAgg (cs := (e_api_Addr (gi l i_1))) ta_44 hL_l.is rfl ho_2 rfl) ?_
        refine HO.call (want_none) rfl (ec en_23 rfl rfl) (ref03_Print_walk (fr := (fr)) (gi l i_1) hS hM) ?_
        rintro _ h_3 ⟨F_3, r_2, rfl, hk, hS, hM⟩
        replace hK := hK.trans hk
        replace hL_l := hL_l.kp hk
        obtain ⟨ho_3, hM⟩ := hM
        refine HO.val (v := .string (bs (s_2 ++ r_2))) (want_none) rfl (q_addT rfl rfl ho_3) ?_
        refine HO.val (v := .string (bs (s_2 ++ r_2))) (want_none) rfl (q_assign rfl) ?_
        refine HO.nil (blockQ_normal (thenQ_normal (?_)))
        refine HW.region ?_
        refine HO.val (v := .int .i64 i_1) (want_none) rfl (q_move rfl) ?_
        obtain ⟨ho_4, hM⟩ := hM
        refine HO.val (v := .int .i64 (i_1 + 1)) (want_none) rfl (q_addN _ rfl rfl rfl ho_4.1 ho_4.2) ?_
        refine HO.val (v := .int .i64 (i_1 + 1)) (want_none) rfl (q_assign rfl) ?_
        refine HO.nil (thenQ_normal (?_))
        rw [hKe_1] at hM
        exact ⟨(s_2 ++ r_2, i_1 + 1), ⟨F_3, rfl, rfl, rfl, rfl, hK, hS, hL_l, hM.1⟩, hM.2⟩
    · replace hM := hM.2 (of_decide_eq_false c_2)
      refine HW.exit (thenQ_exit (thenQ_exit (blockQ_exit (thenQ_normal (?_)))))
      refine HW.seq ?_
      refine HW.region ?_
      refine HO.val (v := .string (bs s_1)) (want_none) rfl (q_move rfl) ?_
      refine HO.val (v := .string (bs s_1)) (want_none) rfl (q_assign rfl) ?_
      refine HO.nil (thenQ_normal (?_))
      refine HW.ret (?_)
      refine ⟨.inr rfl, .string (bs s_1), res1 rfl (rt rfl), ?_⟩
      exact ⟨F_1, s_1, rfl, hK, hS, hL_l, hM⟩

def ref19_Print_W (f_Exclude : Bool) (f_Sources : List T_api_Addr) (Q : Str → Prop) : Prop :=
  (f_Exclude = true → ref11_Print_W f_Sources (fun r_2 => (((([101, 120, 32] : Str)).length : Int) + (r_2.length : Int) ≤ 9223372036854775807) ∧ (Q (([101, 120, 32] : Str) ++ r_2)))) ∧ (f_Exclude = false → ref11_Print_W f_Sources (fun r_3 => (((([105, 110, 32] : Str)).length : Int) + (r_3.length : Int) ≤ 9223372036854775807) ∧ (Q (([105, 110, 32] : Str) ++ r_3))))
set_option maxHeartbeats 40000000 in
set_option maxRecDepth 100000 in
theorem ref19_Print_walk {F : Fz} {fr : List Ow} {h0 : Heap} (f_Exclude : Bool) (f_Sources : List T_api_Addr) (vf_Sources : Value) (hS : St F (fr) h0) (hL_f_Sources : SliceF F h0 17 e_api_Addr vf_Sources f_Sources) {Q : Str → Prop} (hM : ref19_Print_W f_Exclude f_Sources Q) :
    HC Tryz.prog 15 #[.agg #[.bool f_Exclude, vf_Sources]] h0 fun u h' => ∃ (F' : Fz) (r_1 : Str), u = .string (bs r_1) ∧ Kp F h0 F' h' ∧ St F' (fr) h' ∧ (SliceF F' h' 17 e_api_Addr vf_Sources f_Sources) ∧ Q r_1 := by
  unfold ref19_Print_W at hM
  have hK := Kp.refl F h0
  refine HC.of_HW (n := 13) Tryz.func15 rfl rfl (Nat.le_of_ble_eq_true rfl) ?_
  refine HW.seq ?_
  refine HW.region ?_
  refine HO.eff (want_none) rfl (st_box (c := #[.bool f_Exclude, vf_Sources]) (k' := 2) hS rfl rfl) ?_
  rintro _ h_1 ⟨b_1, rfl, hS, hk⟩
  replace hK := hK.trans hk
  replace hL_f_Sources := hL_f_Sources.kp hk
  refine HO.val (v := .string (bs [])) (want_none) rfl (q_assign rfl) ?_
  refine HO.nil (thenQ_normal (?_))
  refine HW.seq ?_
  refine HW.seq ?_
  refine HW.region ?_
  refine HO.val (v := .pointer (some ⟨b_1, 0, none⟩)) (want_none) rfl (q_fieldAddr fa_34_0 rfl rfl) ?_
  refine HO.val (v := .bool f_Exclude) (want_none) rfl (q_load to_4 rfl (Blk.cell (hS.box 0 rfl) rfl)) ?_
  refine HO.nil (thenQ_normal (?_))
  refine HW.cond f_Exclude rfl (fun c_1 => ?_) (fun c_1 => ?_)
  · replace hM := hM.1 c_1
    refine HW.seq ?_
    refine HW.region ?_
    refine HO.val (v := .pointer (some ⟨b_1, 1, none⟩)) (want_none) rfl (q_fieldAddr fa_34_1 rfl rfl) ?_
    refine HO.val (v := vf_Sources) (want_none) rfl (q_load to_22 rfl (Blk.cell (hS.box 0 rfl) rfl)) ?_
    refine HO.call (want_none) rfl (ec en_9 rfl rfl) (ref11_Print_walk (fr := (Ow.box b_1 34 #[.bool f_Exclude, vf_Sources] :: fr)) f_Sources vf_Sources hS hL_f_Sources hM) ?_
    rintro _ h_2 ⟨F_1, r_2, rfl, hk, hS, _, hM⟩
    replace hK := hK.trans hk
    replace hL_f_Sources := hL_f_Sources.kp hk
    obtain ⟨ho_1, hM⟩ := hM
    refine HO.val (v := .string (bs (([101, 120, 32] : Str) ++ r_2))) (want_none) rfl (q_addT rfl rfl ho_1) ?_
    refine HO.val (v := .string (bs (([101, 120, 32] : Str) ++ r_2))) (want_none) rfl (q_assign rfl) ?_
    refine HO.nil (thenQ_normal (?_))
    refine HW.ret (thenQ_ret (?_))
    refine ⟨.inr rfl, .string (bs (([101, 120, 32] : Str) ++ r_2)), res1 rfl (rt rfl), ?_⟩
    replace hS : St F_1 (fr) h_2 := hS.perm2 [] 1 rfl rfl
    exact ⟨F_1, ([101, 120, 32] : Str) ++ r_2, rfl, hK, hS, hL_f_Sources, hM⟩
  · replace hM := hM.2 c_1
    refine HW.skip (thenQ_normal (?_))
    refine HW.seq ?_
    refine HW.region ?_
    refine HO.val (v := .pointer (some ⟨b_1, 1, none⟩)) (want_none) rfl (q_fieldAddr fa_34_1 rfl rfl) ?_
    refine HO.val (v := vf_Sources) (want_none) rfl (q_load to_22 rfl (Blk.cell (hS.box 0 rfl) rfl)) ?_
    refine HO.call (want_none) rfl (ec en_9 rfl rfl) (ref11_Print_walk (fr := (Ow.box b_1 34 #[.bool f_Exclude, vf_Sources] :: fr)) f_Sources vf_Sources hS hL_f_Sources hM) ?_
    rintro _ h_3 ⟨F_2, r_3, rfl, hk, hS, _, hM⟩
    replace hK := hK.trans hk
    replace hL_f_Sources := hL_f_Sources.kp hk
    obtain ⟨ho_2, hM⟩ := hM
    refine HO.val (v := .string (bs (([105, 110, 32] : Str) ++ r_3))) (want_none) rfl (q_addT rfl rfl ho_2) ?_
    refine HO.val (v := .string (bs (([105, 110, 32] : Str) ++ r_3))) (want_none) rfl (q_assign rfl) ?_
    refine HO.nil (thenQ_normal (?_))
    refine HW.ret (?_)
    refine ⟨.inr rfl, .string (bs (([105, 110, 32] : Str) ++ r_3)), res1 rfl (rt rfl), ?_⟩
    replace hS : St F_2 (fr) h_3 := hS.perm2 [] 1 rfl rfl
    exact ⟨F_2, ([105, 110, 32] : Str) ++ r_3, rfl, hK, hS, hL_f_Sources, hM⟩

def internal_strconv_lower_W (c : Int) (Q : Int → Prop) : Prop :=
  ((0 : Int) ≤ (bits .or .u8 c 32) ∧ (bits .or .u8 c 32) < 256) ∧ (Q ((u8w (bits .or .u8 c 32)).toNat : Int))
set_option maxHeartbeats 40000000 in
set_option maxRecDepth 100000 in
theorem internal_strconv_lower_walk {F : Fz} {fr : List Ow} {h0 : Heap} (c : Int) (hS : St F (fr) h0)  {Q : Int → Prop} (hM : internal_strconv_lower_W c Q) :
    HC Tryz.prog 110 #[.int .u8 c] h0 fun u h' => ∃ (F' : Fz) (r_1 : Int), u = .int .u8 r_1 ∧ Kp F h0 F' h' ∧ St F' (fr) h' ∧ Q r_1 := by
  unfold internal_strconv_lower_W at hM
  have hK := Kp.refl F h0
  refine HC.of_HW (n := 5) Tryz.func110 rfl rfl (Nat.le_of_ble_eq_true rfl) ?_
  refine HW.seq ?_
  refine HW.region ?_
  refine HO.val (v := .int .u8 0) (want_none) rfl (q_assign rfl) ?_
  refine HO.nil (thenQ_normal (?_))
  refine HW.seq ?_
  refine HW.region ?_
  refine HO.val (v := .int .u8 c) (want_none) rfl (q_move rfl) ?_
  obtain ⟨ho_1, hM⟩ := hM
  refine HO.val (v := .int .u8 ((u8w (bits .or .u8 c 32)).toNat : Int)) (want_none) rfl ((q_bits (by simp) rfl rfl).of_eq (u8r_v ho_1)) ?_
  refine HO.val (v := .int .u8 ((u8w (bits .or .u8 c 32)).toNat : Int)) (want_none) rfl (q_assign rfl) ?_
  refine HO.nil (thenQ_normal (?_))
  refine HW.ret (?_)
  refine ⟨.inr rfl, .int .u8 ((u8w (bits .or .u8 c 32)).toNat : Int), res1 rfl (rt rfl), ?_⟩
  exact ⟨F, ((u8w (bits .or .u8 c 32)).toNat : Int), rfl, hK, hS, hM⟩

def internal_strconv_underscoreOK_j4 (Q : Bool → Prop) (s_1 : Str) (saw_2 : Int) (i_2 : Int) (K_1 : Int → Int → Prop) : Prop :=
  ((0 : Int) ≤ i_2 ∧ i_2 < (s_1.length : Int)) ∧ ((((gi s_1 i_2).toNat : Int) = 95 → (¬ (saw_2 = 48) → Q false) ∧ (saw_2 = 48 → (I64 (i_2 + 1)) ∧ (K_1 95 (i_2 + 1)))) ∧ (¬ (((gi s_1 i_2).toNat : Int) = 95) → (saw_2 = 95 → Q false) ∧ (¬ (saw_2 = 95) → (I64 (i_2 + 1)) ∧ (K_1 33 (i_2 + 1)))))
def internal_strconv_underscoreOK_l1 (Q : Bool → Prop) (s_1 : Str) (hex_1 : Bool) (K_1 : Int → Int → Prop) (saw_2 : Int) (i_2 : Int) : Prop :=
  (i_2 < (s_1.length : Int) → ((0 : Int) ≤ i_2 ∧ i_2 < (s_1.length : Int)) ∧ ((48 ≤ ((gi s_1 i_2).toNat : Int) → (((gi s_1 i_2).toNat : Int) ≤ 57 → (I64 (i_2 + 1)) ∧ (K_1 48 (i_2 + 1))) ∧ (¬ (((gi s_1 i_2).toNat : Int) ≤ 57) → (hex_1 = true → internal_strconv_lower_W ((gi s_1 i_2).toNat : Int) (fun r_6 => (97 ≤ r_6 → internal_strconv_lower_W ((gi s_1 i_2).toNat : Int) (fun r_7 => (r_7 ≤ 102 → (I64 (i_2 + 1)) ∧ (K_1 48 (i_2 + 1))) ∧ (¬ (r_7 ≤ 102) → internal_strconv_underscoreOK_j4 Q s_1 saw_2 i_2 K_1))) ∧ (¬ (97 ≤ r_6) → internal_strconv_underscoreOK_j4 Q s_1 saw_2 i_2 K_1))) ∧ (hex_1 = false → internal_strconv_underscoreOK_j4 Q s_1 saw_2 i_2 K_1))) ∧ (¬ (48 ≤ ((gi s_1 i_2).toNat : Int)) → (hex_1 = true → internal_strconv_lower_W ((gi s_1 i_2).toNat : Int) (fun r_8 => (97 ≤ r_8 → internal_strconv_lower_W ((gi s_1 i_2).toNat : Int) (fun r_9 => (r_9 ≤ 102 → (I64 (i_2 + 1)) ∧ (K_1 48 (i_2 + 1))) ∧ (¬ (r_9 ≤ 102) → internal_strconv_underscoreOK_j4 Q s_1 saw_2 i_2 K_1))) ∧ (¬ (97 ≤ r_8) → internal_strconv_underscoreOK_j4 Q s_1 saw_2 i_2 K_1))) ∧ (hex_1 = false → internal_strconv_underscoreOK_j4 Q s_1 saw_2 i_2 K_1)))) ∧ (¬ (i_2 < (s_1.length : Int)) → Q (!decide (saw_2 = 95)))
def internal_strconv_underscoreOK_j2 (Q : Bool → Prop) (s_1 : Str) (saw_1 : Int) (i_1 : Int) (hex_1 : Bool) : Prop :=
  loopW (fun (K_1 : (Int × Int) → Prop) (s : Int × Int) => internal_strconv_underscoreOK_l1 Q s_1 hex_1 (fun saw_2 i_2 => K_1 (saw_2, i_2)) s.1 s.2) (saw_1, i_1)
def internal_strconv_underscoreOK_j3 (Q : Bool → Prop) (s_1 : Str) (b_1 : Bool) : Prop :=
  (b_1 = true → ((0 : Int) ≤ 1 ∧ 1 < (s_1.length : Int)) ∧ (internal_strconv_lower_W ((gi s_1 1).toNat : Int) (fun r_5 => internal_strconv_underscoreOK_j2 Q s_1 48 2 (decide (r_5 = 120))))) ∧ (b_1 = false → internal_strconv_underscoreOK_j2 Q s_1 94 0 false)
def internal_strconv_underscoreOK_j1 (Q : Bool → Prop) (s_1 : Str) : Prop :=
  (2 ≤ (s_1.length : Int) → ((0 : Int) ≤ 0 ∧ 0 < (s_1.length : Int)) ∧ ((((gi s_1 0).toNat : Int) = 48 → ((0 : Int) ≤ 1 ∧ 1 < (s_1.length : Int)) ∧ (internal_strconv_lower_W ((gi s_1 1).toNat : Int) (fun r_2 => (r_2 = 98 → internal_strconv_underscoreOK_j3 Q s_1 true) ∧ (¬ (r_2 = 98) → internal_strconv_lower_W ((gi s_1 1).toNat : Int) (fun r_3 => (r_3 = 111 → internal_strconv_underscoreOK_j3 Q s_1 true) ∧ (¬ (r_3 = 111) → internal_strconv_lower_W ((gi s_1 1).toNat : Int) (fun r_4 => internal_strconv_underscoreOK_j3 Q s_1 (decide (r_4 = 120))))))))) ∧ (¬ (((gi s_1 0).toNat : Int) = 48) → internal_strconv_underscoreOK_j3 Q s_1 false))) ∧ (¬ (2 ≤ (s_1.length : Int)) → internal_strconv_underscoreOK_j3 Q s_1 false)
def internal_strconv_underscoreOK_W (s1 : Str) (Q : Bool → Prop) : Prop :=
  (1 ≤ (s1.length : Int) → ((0 : Int) ≤ 0 ∧ 0 < (s1.length : Int)) ∧ ((((gi s1 0).toNat : Int) = 45 → ((0 : Int) ≤ 1 ∧ 1 ≤ (s1.length : Int)) ∧ (internal_strconv_underscoreOK_j1 Q (cut s1 1 (s1.length : Int)))) ∧ (¬ (((gi s1 0).toNat : Int) = 45) → (((gi s1 0).toNat : Int) = 43 → ((0 : Int) ≤ 1 ∧ 1 ≤ (s1.length : Int)) ∧ (internal_strconv_underscoreOK_j1 Q (cut s1 1 (s1.length : Int)))) ∧ (¬ (((gi s1 0).toNat : Int) = 43) → internal_strconv_underscoreOK_j1 Q s1)))) ∧ (¬ (1 ≤ (s1.length : Int)) → internal_strconv_underscoreOK_j1 Q s1)
set_option maxHeartbeats 40000000 in
set_option maxRecDepth 100000 in
theorem internal_strconv_underscoreOK_walk {F : Fz} {fr : List Ow} {h0 : Heap} (s1 : Str) (hS : St F (fr) h0)  {Q : Bool → Prop} (hM : internal_strconv_underscoreOK_W s1 Q) :
    HC Tryz.prog 111 #[.string (bs s1)] h0 fun u h' => ∃ (F' : Fz) (r_1 : Bool), u = .bool r_1 ∧ Kp F h0 F' h' ∧ St F' (fr) h' ∧ Q r_1 := by
  unfold internal_strconv_underscoreOK_W at hM
  have hK := Kp.refl F h0
  refine HC.of_HW (n := 94) Tryz.func111 rfl rfl (Nat.le_of_ble_eq_true rfl) ?_
  refine HW.seq ?_
  refine HW.region ?_
  refine HO.val (v := .bool false) (want_none) rfl (q_assign rfl) ?_
  refine HO.nil (thenQ_normal (?_))
  refine HW.seq ?_
  refine HW.region ?_
  refine HO.val (v := .int .i32 94) (want_none) rfl (q_assign rfl) ?_
  refine HO.nil (thenQ_normal (?_))
  refine HW.seq ?_
  refine HW.region ?_
  refine HO.val (v := .int .i64 0) (want_none) rfl (q_assign rfl) ?_
  refine HO.nil (thenQ_normal (?_))
  refine HW.seq_mid (fun f h => ∃ (F' : Fz) (s_1 : Str), f 0 = .string (bs s_1) ∧ f 2 = .bool false ∧ f 3 = .int .i32 94 ∧ f 4 = .int .i64 0 ∧ Kp F h0 F' h ∧ St F' (fr) h ∧ internal_strconv_underscoreOK_j1 Q s_1) ?_ ?_
  · refine HW.seq ?_
    refine HW.region ?_
    refine HO.val (v := .string (bs s1)) (want_none) rfl (q_move rfl) ?_
    refine HO.val (v := .int .i64 (s1.length : Int)) (want_none) rfl (q_lenT Tryz.underlying9 rfl rfl) ?_
    refine HO.val (v := .bool (decide (1 ≤ (s1.length : Int)))) (want_none) rfl (q_geq rfl rfl) ?_
    refine HO.val (v := .bool (decide (1 ≤ (s1.length : Int)))) (want_none) rfl (q_move rfl) ?_
    rcases Bool.eq_false_or_eq_true (decide (1 ≤ (s1.length : Int))) with c_1 | c_1
    · replace hM := hM.1 (of_decide_eq_true c_1)
      refine HO.val (v := .string (bs s1)) (want_by rfl rfl c_1) rfl (q_move rfl) ?_
      obtain ⟨ho_1, hM⟩ := hM
      refine HO.val (v := .int .u8 ((gi s1 0).toNat : Int)) (want_by rfl rfl c_1) rfl (q_idxT Tryz.underlying9 rfl rfl ho_1) ?_
      refine HO.val (v := .bool (decide (((gi s1 0).toNat : Int) = 45))) (want_by rfl rfl c_1) rfl (q_eql rfl rfl) ?_
      refine HO.val (v := .bool (decide (((gi s1 0).toNat : Int) = 45))) (want_by rfl rfl c_1) rfl (q_move rfl) ?_
      rcases Bool.eq_false_or_eq_true (decide (((gi s1 0).toNat : Int) = 45)) with c_2 | c_2
      · replace hM := hM.1 (of_decide_eq_true c_2)
        refine HO.past (past_by rfl rfl c_2) rfl ?_
        refine HO.past (past_by rfl rfl c_2) rfl ?_
        refine HO.past (past_by rfl rfl c_2) rfl ?_
        refine HO.val (v := .bool true) (want_by rfl rfl c_1) rfl (q_pickK true rfl c_2 rfl) ?_
        refine HO.val (v := .bool true) (want_none) rfl (q_pickK true rfl c_1 rfl) ?_
        refine HO.nil (thenQ_normal (?_))
        refine HW.condT rfl ?_
        refine HW.region ?_
        refine HO.val (v := .string (bs s1)) (want_none) rfl (q_move rfl) ?_
        obtain ⟨ho_2, hM⟩ := hM
        refine HO.val (v := .string (bs (cut s1 1 (s1.length : Int)))) (want_none) rfl (q_strL Tryz.underlying9 rfl rfl ho_2) ?_
        refine HO.val (v := .string (bs (cut s1 1 (s1.length : Int)))) (want_none) rfl (q_assign rfl) ?_
        refine HO.nil (thenQ_normal (?_))
        exact ⟨F, cut s1 1 (s1.length : Int), rfl, rfl, rfl, rfl, hK, hS, hM⟩
      · replace hM := hM.2 (of_decide_eq_false c_2)
        refine HO.val (v := .string (bs s1)) (want_by rfl rfl c_2) rfl (q_move rfl) ?_
        refine HO.val (v := .int .u8 ((gi s1 0).toNat : Int)) (want_by rfl rfl c_2) rfl (q_idxT Tryz.underlying9 rfl rfl ho_1) ?_
        refine HO.val (v := .bool (decide (((gi s1 0).toNat : Int) = 43))) (want_by rfl rfl c_2) rfl (q_eql rfl rfl) ?_
        refine HO.val (v := .bool (decide (((gi s1 0).toNat : Int) = 43))) (want_by rfl rfl c_1) rfl (q_pickK false rfl c_2 rfl) ?_
        refine HO.val (v := .bool (decide (((gi s1 0).toNat : Int) = 43))) (want_none) rfl (q_pickK true rfl c_1 rfl) ?_
        refine HO.nil (thenQ_normal (?_))
        refine HW.cond (decide (((gi s1 0).toNat : Int) = 43)) rfl (fun c_3 => ?_) (fun c_3 => ?_)
        · replace hM := hM.1 (of_decide_eq_true c_3)
          refine HW.region ?_
          refine HO.val (v := .string (bs s1)) (want_none) rfl (q_move rfl) ?_
          obtain ⟨ho_3, hM⟩ := hM
          refine HO.val (v := .string (bs (cut s1 1 (s1.length : Int)))) (want_none) rfl (q_strL Tryz.underlying9 rfl rfl ho_3) ?_
          refine HO.val (v := .string (bs (cut s1 1 (s1.length : Int)))) (want_none) rfl (q_assign rfl) ?_
          refine HO.nil (thenQ_normal (?_))
          exact ⟨F, cut s1 1 (s1.length : Int), rfl, rfl, rfl, rfl, hK, hS, hM⟩
        · replace hM := hM.2 (of_decide_eq_false c_3)
          refine HW.skip (thenQ_normal (?_))
          exact ⟨F, s1, rfl, rfl, rfl, rfl, hK, hS, hM⟩
    · replace hM := hM.2 (of_decide_eq_false c_1)
      refine HO.past (past_by rfl rfl c_1) rfl ?_
      refine HO.past (past_by rfl rfl c_1) rfl ?_
      refine HO.past (past_by rfl rfl c_1) rfl ?_
      refine HO.past (past_by rfl rfl c_1) rfl ?_
      refine HO.past (past_undef rfl rfl) rfl ?_
      refine HO.past (past_undef rfl rfl) rfl ?_
      refine HO.past (past_undef rfl rfl) rfl ?_
      refine HO.past (past_by rfl rfl c_1) rfl ?_
      refine HO.val (v := .bool false) (want_none) rfl (q_pickK false rfl c_1 rfl) ?_
      refine HO.nil (thenQ_normal (?_))
      refine HW.condF rfl ?_
      refine HW.skip (thenQ_normal (?_))
      exact ⟨F, s1, rfl, rfl, rfl, rfl, hK, hS, hM⟩
  · rintro f_1 h_1 ⟨F_1, s_1, e0, e2, e3, e4, hK, hS, hM⟩
    unfold internal_strconv_underscoreOK_j1 at hM
    refine HW.fr [(0, .string (bs s_1)), (2, .bool false), (3, .int .i32 94), (4, .int .i64 0)] ⟨e0, e2, e3, e4, trivial⟩ ?_
    refine HW.seq ?_
    refine HW.region ?_
    refine HO.val (v := .bool false) (want_none) rfl (q_assign rfl) ?_
    refine HO.nil (thenQ_normal (?_))
    refine HW.seq_mid (fun f h => ∃ (F' : Fz) (saw_1 : Int) (i_1 : Int) (hex_1 : Bool), f 0 = .string (bs s_1) ∧ f 2 = .bool false ∧ f 3 = .int .i32 saw_1 ∧ f 4 = .int .i64 i_1 ∧ f 5 = .bool hex_1 ∧ Kp F h0 F' h ∧ St F' (fr) h ∧ internal_strconv_underscoreOK_j2 Q s_1 saw_1 i_1 hex_1) ?_ ?_
    · refine HW.seq_mid (fun f h => ∃ (F' : Fz) (b_1 : Bool), f 0 = .string (bs s_1) ∧ f 2 = .bool false ∧ f 3 = .int .i32 94 ∧ f 4 = .int .i64 0 ∧ f 5 = .bool false ∧ f 46 = .bool b_1 ∧ Kp F h0 F' h ∧ St F' (fr) h ∧ internal_strconv_underscoreOK_j3 Q s_1 b_1) ?_ ?_
      · refine HW.region ?_
        refine HO.val (v := .string (bs s_1)) (want_none) rfl (q_move rfl) ?_
        refine HO.val (v := .int .i64 (s_1.length : Int)) (want_none) rfl (q_lenT Tryz.underlying9 rfl rfl) ?_
        refine HO.val (v := .bool (decide (2 ≤ (s_1.length : Int)))) (want_none) rfl (q_geq rfl rfl) ?_
        refine HO.val (v := .bool (decide (2 ≤ (s_1.length : Int)))) (want_none) rfl (q_move rfl) ?_
        rcases Bool.eq_false_or_eq_true (decide (2 ≤ (s_1.length : Int))) with c_4 | c_4
        · replace hM := hM.1 (of_decide_eq_true c_4)
          refine HO.val (v := .string (bs s_1)) (want_by rfl rfl c_4) rfl (q_move rfl) ?_
          obtain ⟨ho_4, hM⟩ := hM
          refine HO.val (v := .int .u8 ((gi s_1 0).toNat : Int)) (want_by rfl rfl c_4) rfl (q_idxT Tryz.underlying9 rfl rfl ho_4) ?_
          refine HO.val (v := .bool (decide (((gi s_1 0).toNat : Int) = 48))) (want_by rfl rfl c_4) rfl (q_eql rfl rfl) ?_
          refine HO.val (v := .bool (decide (((gi s_1 0).toNat : Int) = 48))) (want_none) rfl (q_pickK true rfl c_4 rfl) ?_
          refine HO.val (v := .bool (decide (((gi s_1 0).toNat : Int) = 48))) (want_none) rfl (q_move rfl) ?_
          rcases Bool.eq_false_or_eq_true (decide (((gi s_1 0).toNat : Int) = 48)) with c_5 | c_5
          · replace hM := hM.1 (of_decide_eq_true c_5)
            refine HO.val (v := .string (bs s_1)) (want_by rfl rfl c_5) rfl (q_move rfl) ?_
            obtain ⟨ho_5, hM⟩ := hM
            refine HO.val (v := .int .u8 ((gi s_1 1).toNat : Int)) (want_by rfl rfl c_5) rfl (q_idxT Tryz.underlying9 rfl rfl ho_5) ?_
            refine HO.call (want_by rfl rfl c_5) rfl (ec en_110 rfl rfl) (internal_strconv_lower_walk (fr := (fr)) ((gi s_1 1).toNat : Int) hS hM) ?_
            rintro _ h_2 ⟨F_2, r_2, rfl, hk, hS, hM⟩
            replace hK := hK.trans hk
            refine HO.val (v := .bool (decide (r_2 = 98))) (want_by rfl rfl c_5) rfl (q_eql rfl rfl) ?_
            refine HO.val (v := .bool (decide (r_2 = 98))) (want_by rfl rfl c_5) rfl (q_move rfl) ?_
            rcases Bool.eq_false_or_eq_true (decide (r_2 = 98)) with c_6 | c_6
            · replace hM := hM.1 (of_decide_eq_true c_6)
              refine HO.past (past_by rfl rfl c_6) rfl ?_
              refine HO.past (past_by rfl rfl c_6) rfl ?_
              refine HO.past (past_by rfl rfl c_6) rfl ?_
              refine HO.past (past_by rfl rfl c_6) rfl ?_
              refine HO.val (v := .bool true) (want_by rfl rfl c_5) rfl (q_pickK true rfl c_6 rfl) ?_
              refine HO.val (v := .bool true) (want_by rfl rfl c_5) rfl (q_move rfl) ?_
              refine HO.past (past_some rfl rfl) rfl ?_
              refine HO.past (past_some rfl rfl) rfl ?_
              refine HO.past (past_some rfl rfl) rfl ?_
              refine HO.past (past_some rfl rfl) rfl ?_
              refine HO.val (v := .bool true) (want_by rfl rfl c_5) rfl (q_pick rfl rfl) ?_
              refine HO.val (v := .bool true) (want_none) rfl (q_pickK true rfl c_5 rfl) ?_
              refine HO.nil (thenQ_normal (?_))
              exact ⟨F_2, true, rfl, rfl, rfl, rfl, rfl, rfl, hK, hS, hM⟩
            · replace hM := hM.2 (of_decide_eq_false c_6)
              refine HO.val (v := .string (bs s_1)) (want_by rfl rfl c_6) rfl (q_move rfl) ?_
              refine HO.val (v := .int .u8 ((gi s_1 1).toNat : Int)) (want_by rfl rfl c_6) rfl (q_idxT Tryz.underlying9 rfl rfl ho_5) ?_
              refine HO.call (want_by rfl rfl c_6) rfl (ec en_110 rfl rfl) (internal_strconv_lower_walk (fr := (fr)) ((gi s_1 1).toNat : Int) hS hM) ?_
              rintro _ h_3 ⟨F_3, r_3, rfl, hk, hS, hM⟩
              replace hK := hK.trans hk
              refine HO.val (v := .bool (decide (r_3 = 111))) (want_by rfl rfl c_6) rfl (q_eql rfl rfl) ?_
              refine HO.val (v := .bool (decide (r_3 = 111))) (want_by rfl rfl c_5) rfl (q_pickK false rfl c_6 rfl) ?_
              refine HO.val (v := .bool (decide (r_3 = 111))) (want_by rfl rfl c_5) rfl (q_move rfl) ?_
              rcases Bool.eq_false_or_eq_true (decide (r_3 = 111)) with c_7 | c_7
              · replace hM := hM.1 (of_decide_eq_true c_7)
                refine HO.past (past_by rfl rfl c_7) rfl ?_
                refine HO.past (past_by rfl rfl c_7) rfl ?_
                refine HO.past (past_by rfl rfl c_7) rfl ?_
                refine HO.past (past_by rfl rfl c_7) rfl ?_
                refine HO.val (v := .bool true) (want_by rfl rfl c_5) rfl (q_pickK true rfl c_7 rfl) ?_
                refine HO.val (v := .bool true) (want_none) rfl (q_pickK true rfl c_5 rfl) ?_
                refine HO.nil (thenQ_normal (?_))
                exact ⟨F_3, true, rfl, rfl, rfl, rfl, rfl, rfl, hK, hS, hM⟩
              · replace hM := hM.2 (of_decide_eq_false c_7)
                refine HO.val (v := .string (bs s_1)) (want_by rfl rfl c_7) rfl (q_move rfl) ?_
                refine HO.val (v := .int .u8 ((gi s_1 1).toNat : Int)) (want_by rfl rfl c_7) rfl (q_idxT Tryz.underlying9 rfl rfl ho_5) ?_
                refine HO.call (want_by rfl rfl c_7) rfl (ec en_110 rfl rfl) (internal_strconv_lower_walk (fr := (fr)) ((gi s_1 1).toNat : Int) hS hM) ?_
                rintro _ h_4 ⟨F_4, r_4, rfl, hk, hS, hM⟩
                replace hK := hK.trans hk
                refine HO.val (v := .bool (decide (r_4 = 120))) (want_by rfl rfl c_7) rfl (q_eql rfl rfl) ?_
                refine HO.val (v := .bool (decide (r_4 = 120))) (want_by rfl rfl c_5) rfl (q_pickK false rfl c_7 rfl) ?_
                refine HO.val (v := .bool (decide (r_4 = 120))) (want_none) rfl (q_pickK true rfl c_5 rfl) ?_
                refine HO.nil (thenQ_normal (?_))
                exact ⟨F_4, decide (r_4 = 120), rfl, rfl, rfl, rfl, rfl, rfl, hK, hS, hM⟩
          · replace hM := hM.2 (of_decide_eq_false c_5)
            refine HO.past (past_by rfl rfl c_5) rfl ?_
            refine HO.past (past_by rfl rfl c_5) rfl ?_
            refine HO.past (past_by rfl rfl c_5) rfl ?_
            refine HO.past (past_by rfl rfl c_5) rfl ?_
            refine HO.past (past_by rfl rfl c_5) rfl ?_
            refine HO.past (past_undef rfl rfl) rfl ?_
            refine HO.past (past_undef rfl rfl) rfl ?_
            refine HO.past (past_undef rfl rfl) rfl ?_
            refine HO.past (past_undef rfl rfl) rfl ?_
            refine HO.past (past_by rfl rfl c_5) rfl ?_
            refine HO.past (past_by rfl rfl c_5) rfl ?_
            refine HO.past (past_undef rfl rfl) rfl ?_
            refine HO.past (past_undef rfl rfl) rfl ?_
            refine HO.past (past_undef rfl rfl) rfl ?_
            refine HO.past (past_undef rfl rfl) rfl ?_
            refine HO.past (past_by rfl rfl c_5) rfl ?_
            refine HO.val (v := .bool false) (want_none) rfl (q_pickK false rfl c_5 rfl) ?_
            refine HO.nil (thenQ_normal (?_))
            exact ⟨F_1, false, rfl, rfl, rfl, rfl, rfl, rfl, hK, hS, hM⟩
        · replace hM := hM.2 (of_decide_eq_false c_4)
          refine HO.past (past_by rfl rfl c_4) rfl ?_
          refine HO.past (past_by rfl rfl c_4) rfl ?_
          refine HO.past (past_by rfl rfl c_4) rfl ?_
          refine HO.val (v := .bool false) (want_none) rfl (q_pickK false rfl c_4 rfl) ?_
          refine HO.val (v := .bool false) (want_none) rfl (q_move rfl) ?_
          refine HO.past (past_some rfl rfl) rfl ?_
          refine HO.past (past_some rfl rfl) rfl ?_
          refine HO.past (past_some rfl rfl) rfl ?_
          refine HO.past (past_some rfl rfl) rfl ?_
          refine HO.past (past_some rfl rfl) rfl ?_
          refine HO.past (past_undef rfl rfl) rfl ?_
          refine HO.past (past_undef rfl rfl) rfl ?_
          refine HO.past (past_undef rfl rfl) rfl ?_
          refine HO.past (past_undef rfl rfl) rfl ?_
          refine HO.past (past_some rfl rfl) rfl ?_
          refine HO.past (past_some rfl rfl) rfl ?_
          refine HO.past (past_undef rfl rfl) rfl ?_
          refine HO.past (past_undef rfl rfl) rfl ?_
          refine HO.past (past_undef rfl rfl) rfl ?_
          refine HO.past (past_undef rfl rfl) rfl ?_
          refine HO.past (past_some rfl rfl) rfl ?_
          refine HO.val (v := .bool false) (want_none) rfl (q_pick rfl rfl) ?_
          refine HO.nil (thenQ_normal (?_))
          exact ⟨F_1, false, rfl, rfl, rfl, rfl, rfl, rfl, hK, hS, hM⟩
      · rintro f_2 h_5 ⟨F_5, b_1, e0, e2, e3, e4, e5, e46, hK, hS, hM⟩
        unfold internal_strconv_underscoreOK_j3 at hM
        refine HW.fr [(0, .string (bs s_1)), (2, .bool false), (3, .int .i32 94), (4, .int .i64 0), (5, .bool false), (46, .bool b_1)] ⟨e0, e2, e3, e4, e5, e46, trivial⟩ ?_
        refine HW.cond b_1 rfl (fun c_8 => ?_) (fun c_8 => ?_)
        · replace hM := hM.1 c_8
          refine HW.seq ?_
          refine HW.region ?_
          refine HO.val (v := .int .i64 2) (want_none) rfl (q_assign rfl) ?_
          refine HO.nil (thenQ_normal (?_))
          refine HW.seq ?_
          refine HW.region ?_
          refine HO.val (v := .int .i32 48) (want_none) rfl (q_assign rfl) ?_
          refine HO.nil (thenQ_normal (?_))
          refine HW.region ?_
          refine HO.val (v := .string (bs s_1)) (want_none) rfl (q_move rfl) ?_
          obtain ⟨ho_6, hM⟩ := hM
          refine HO.val (v := .int .u8 ((gi s_1 1).toNat : Int)) (want_none) rfl (q_idxT Tryz.underlying9 rfl rfl ho_6) ?_
          refine HO.call (want_none) rfl (ec en_110 rfl rfl) (internal_strconv_lower_walk (fr := (fr)) ((gi s_1 1).toNat : Int) hS hM) ?_
          rintro _ h_6 ⟨F_6, r_5, rfl, hk, hS, hM⟩
          replace hK := hK.trans hk
          refine HO.val (v := .bool (decide (r_5 = 120))) (want_none) rfl (q_eql rfl rfl) ?_
          refine HO.val (v := .bool (decide (r_5 = 120))) (want_none) rfl (q_assign rfl) ?_
          refine HO.nil (thenQ_normal (?_))
          exact ⟨F_6, 48, 2, decide (r_5 = 120), rfl, rfl, rfl, rfl, rfl, hK, hS, hM⟩
        · replace hM := hM.2 c_8
          refine HW.skip (thenQ_normal (?_))
          exact ⟨F_5, 94, 0, false, rfl, rfl, rfl, rfl, rfl, hK, hS, hM⟩
    · rintro f_3 h_7 ⟨F_7, saw_1, i_1, hex_1, e0, e2, e3, e4, e5, hK, hS, hM⟩
      unfold internal_strconv_underscoreOK_j2 at hM
      refine HW.fr [(0, .string (bs s_1)), (2, .bool false), (3, .int .i32 saw_1), (4, .int .i64 i_1), (5, .bool hex_1)] ⟨e0, e2, e3, e4, e5, trivial⟩ ?_
      refine HW.seq ?_
      refine HW.block ?_
      obtain ⟨I_1, m_1, hI_1, hR_1⟩ := hM
      refine HW.loop (S := Int × Int) (fun s f h => match s with | (saw_2, i_2) => ∃ (F' : Fz), f 0 = .string (bs s_1) ∧ f 2 = .bool false ∧ f 3 = .int .i32 saw_2 ∧ f 4 = .int .i64 i_2 ∧ f 5 = .bool hex_1 ∧ Kp F h0 F' h ∧ St F' (fr) h ∧ I_1 (saw_2, i_2)) m_1 (saw_1, i_1) ⟨F_7, rfl, rfl, rfl, rfl, rfl, hK, hS, hI_1⟩ ?_
      rintro ⟨saw_2, i_2⟩ f_4 h_8 ⟨F_8, e0, e2, e3, e4, e5, hK, hS, hI0⟩
      obtain ⟨K_1, hKe_1⟩ : ∃ K : Int → Int → Prop, K = fun saw_2' i_2' => I_1 (saw_2', i_2') ∧ m_1 (saw_2', i_2') < m_1 (saw_2, i_2) := ⟨_, rfl⟩
      have hM : internal_strconv_underscoreOK_l1 Q s_1 hex_1 K_1 saw_2 i_2 := by rw [hKe_1]; exact hR_1 (saw_2, i_2) hI0
      unfold internal_strconv_underscoreOK_l1 at hM
      refine HW.fr [(0, .string (bs s_1)), (2, .bool false), (3, .int .i32 saw_2), (4, .int .i64 i_2), (5, .bool hex_1)] ⟨e0, e2, e3, e4, e5, trivial⟩ ?_
      refine HW.seq ?_
      refine HW.seq ?_
      refine HW.region ?_
      refine HO.val (v := .int .i64 i_2) (want_none) rfl (q_move rfl) ?_
      refine HO.val (v := .string (bs s_1)) (want_none) rfl (q_move rfl) ?_
      refine HO.val (v := .int .i64 (s_1.length : Int)) (want_none) rfl (q_lenT Tryz.underlying9 rfl rfl) ?_
      refine HO.val (v := .bool (decide (i_2 < (s_1.length : Int)))) (want_none) rfl (q_lss rfl rfl) ?_
      refine HO.nil (thenQ_normal (?_))
      refine HW.cond (decide (i_2 < (s_1.length : Int))) rfl (fun c_9 => ?_) (fun c_9 => ?_)
      · replace hM := hM.1 (of_decide_eq_true c_9)
        refine HW.skip (thenQ_normal (?_))
        refine HW.seq ?_
        refine HW.block ?_
        refine HW.seq_mid (fun f h => ∃ (F' : Fz), f 0 = .string (bs s_1) ∧ f 2 = .bool false ∧ f 3 = .int .i32 saw_2 ∧ f 4 = .int .i64 i_2 ∧ f 5 = .bool hex_1 ∧ Kp F h0 F' h ∧ St F' (fr) h ∧ internal_strconv_underscoreOK_j4 Q s_1 saw_2 i_2 K_1) ?_ ?_
        · refine HW.seq ?_
          refine HW.region ?_
          refine HO.val (v := .string (bs s_1)) (want_none) rfl (q_move rfl) ?_
          refine HO.val (v := .int .i64 i_2) (want_none) rfl (q_move rfl) ?_
          obtain ⟨ho_7, hM⟩ := hM
          refine HO.val (v := .int .u8 ((gi s_1 i_2).toNat : Int)) (want_none) rfl (q_idxT Tryz.underlying9 rfl rfl ho_7) ?_
          refine HO.val (v := .bool (decide (48 ≤ ((gi s_1 i_2).toNat : Int)))) (want_none) rfl (q_leq rfl rfl) ?_
          refine HO.val (v := .bool (decide (48 ≤ ((gi s_1 i_2).toNat : Int)))) (want_none) rfl (q_move rfl) ?_
          rcases Bool.eq_false_or_eq_true (decide (48 ≤ ((gi s_1 i_2).toNat : Int))) with c_10 | c_10
          · replace hM := hM.1 (of_decide_eq_true c_10)
            refine HO.val (v := .string (bs s_1)) (want_by rfl rfl c_10) rfl (q_move rfl) ?_
            refine HO.val (v := .int .i64 i_2) (want_by rfl rfl c_10) rfl (q_move rfl) ?_
            refine HO.val (v := .int .u8 ((gi s_1 i_2).toNat : Int)) (want_by rfl rfl c_10) rfl (q_idxT Tryz.underlying9 rfl rfl ho_7) ?_
            refine HO.val (v := .bool (decide (((gi s_1 i_2).toNat : Int) ≤ 57))) (want_by rfl rfl c_10) rfl (q_leq rfl rfl) ?_
            refine HO.val (v := .bool (decide (((gi s_1 i_2).toNat : Int) ≤ 57))) (want_none) rfl (q_pickK true rfl c_10 rfl) ?_
            refine HO.val (v := .bool (decide (((gi s_1 i_2).toNat : Int) ≤ 57))) (want_none) rfl (q_move rfl) ?_
            rcases Bool.eq_false_or_eq_true (decide (((gi s_1 i_2).toNat : Int) ≤ 57)) with c_11 | c_11
            · replace hM := hM.1 (of_decide_eq_true c_11)
              refine HO.past (past_by rfl rfl c_11) rfl ?_
              refine HO.past (past_by rfl rfl c_11) rfl ?_
              refine HO.past (past_undef rfl rfl) rfl ?_
              refine HO.past (past_undef rfl rfl) rfl ?_
              refine HO.past (past_undef rfl rfl) rfl ?_
              refine HO.past (past_undef rfl rfl) rfl ?_
              refine HO.past (past_undef rfl rfl) rfl ?_
              refine HO.past (past_by rfl rfl c_11) rfl ?_
              refine HO.past (past_by rfl rfl c_11) rfl ?_
              refine HO.past (past_undef rfl rfl) rfl ?_
              refine HO.past (past_undef rfl rfl) rfl ?_
              refine HO.past (past_undef rfl rfl) rfl ?_
              refine HO.past (past_undef rfl rfl) rfl ?_
              refine HO.past (past_undef rfl rfl) rfl ?_
              refine HO.past (past_by rfl rfl c_11) rfl ?_
              refine HO.val (v := .bool true) (want_none) rfl (q_pickK true rfl c_11 rfl) ?_
              refine HO.nil (thenQ_normal (?_))
              refine HW.condT rfl ?_
              refine HW.seq ?_
              refine HW.region ?_
              refine HO.val (v := .int .i32 48) (want_none) rfl (q_assign rfl) ?_
              refine HO.nil (thenQ_normal (?_))
              refine HW.exit (thenQ_exit (blockQ_exit (thenQ_normal (?_))))
              refine HW.region ?_
              refine HO.val (v := .int .i64 i_2) (want_none) rfl (q_move rfl) ?_
              obtain ⟨ho_8, hM⟩ := hM
              refine HO.val (v := .int .i64 (i_2 + 1)) (want_none) rfl (q_addN _ rfl rfl rfl ho_8.1 ho_8.2) ?_
              refine HO.val (v := .int .i64 (i_2 + 1)) (want_none) rfl (q_assign rfl) ?_
              refine HO.nil (thenQ_normal (?_))
              rw [hKe_1] at hM
              exact ⟨(48, i_2 + 1), ⟨F_8, rfl, rfl, rfl, rfl, rfl, hK, hS, hM.1⟩, hM.2⟩
            · replace hM := hM.2 (of_decide_eq_false c_11)
              refine HO.val (v := .bool hex_1) (want_by rfl rfl c_11) rfl (q_move rfl) ?_
              refine HO.val (v := .bool hex_1) (want_by rfl rfl c_11) rfl (q_move rfl) ?_
              rcases Bool.eq_false_or_eq_true hex_1 with c_12 | c_12
              · replace hM := hM.1 c_12
                refine HO.val (v := .string (bs s_1)) (want_by rfl rfl c_12) rfl (q_move rfl) ?_
                refine HO.val (v := .int .i64 i_2) (want_by rfl rfl c_12) rfl (q_move rfl) ?_
                refine HO.val (v := .int .u8 ((gi s_1 i_2).toNat : Int)) (want_by rfl rfl c_12) rfl (q_idxT Tryz.underlying9 rfl rfl ho_7) ?_
                refine HO.call (want_by rfl rfl c_12) rfl (ec en_110 rfl rfl) (internal_strconv_lower_walk (fr := (fr)) ((gi s_1 i_2).toNat : Int) hS hM) ?_
                rintro _ h_9 ⟨F_9, r_6, rfl, hk, hS, hM⟩
                replace hK := hK.trans hk
                refine HO.val (v := .bool (decide (97 ≤ r_6))) (want_by rfl rfl c_12) rfl (q_leq rfl rfl) ?_
                refine HO.val (v := .bool (decide (97 ≤ r_6))) (want_by rfl rfl c_11) rfl (q_pickK true rfl c_12 rfl) ?_
                refine HO.val (v := .bool (decide (97 ≤ r_6))) (want_by rfl rfl c_11) rfl (q_move rfl) ?_
                rcases Bool.eq_false_or_eq_true (decide (97 ≤ r_6)) with c_13 | c_13
                · replace hM := hM.1 (of_decide_eq_true c_13)
                  refine HO.val (v := .string (bs s_1)) (want_by rfl rfl c_13) rfl (q_move rfl) ?_
                  refine HO.val (v := .int .i64 i_2) (want_by rfl rfl c_13) rfl (q_move rfl) ?_
                  refine HO.val (v := .int .u8 ((gi s_1 i_2).toNat : Int)) (want_by rfl rfl c_13) rfl (q_idxT Tryz.underlying9 rfl rfl ho_7) ?_
                  refine HO.call (want_by rfl rfl c_13) rfl (ec en_110 rfl rfl) (internal_strconv_lower_walk (fr := (fr)) ((gi s_1 i_2).toNat : Int) hS hM) ?_
                  rintro _ h_10 ⟨F_10, r_7, rfl, hk, hS, hM⟩
                  replace hK := hK.trans hk
                  refine HO.val (v := .bool (decide (r_7 ≤ 102))) (want_by rfl rfl c_13) rfl (q_leq rfl rfl) ?_
                  refine HO.val (v := .bool (decide (r_7 ≤ 102))) (want_by rfl rfl c_11) rfl (q_pickK true rfl c_13 rfl) ?_
                  refine HO.val (v := .bool (decide (r_7 ≤ 102))) (want_none) rfl (q_pickK false rfl c_11 rfl) ?_
                  refine HO.nil (thenQ_normal (?_))
                  refine HW.cond (decide (r_7 ≤ 102)) rfl (fun c_14 => ?_) (fun c_14 => ?_)
                  · replace hM := hM.1 (of_decide_eq_true c_14)
                    refine HW.seq ?_
                    refine HW.region ?_
                    refine HO.val (v := .int .i32 48) (want_none) rfl (q_assign rfl) ?_
                    refine HO.nil (thenQ_normal (?_))
                    refine HW.exit (thenQ_exit (blockQ_exit (thenQ_normal (?_))))
                    refine HW.region ?_
                    refine HO.val (v := .int .i64 i_2) (want_none) rfl (q_move rfl) ?_
                    obtain ⟨ho_9, hM⟩ := hM
                    refine HO.val (v := .int .i64 (i_2 + 1)) (want_none) rfl (q_addN _ rfl rfl rfl ho_9.1 ho_9.2) ?_
                    refine HO.val (v := .int .i64 (i_2 + 1)) (want_none) rfl (q_assign rfl) ?_
                    refine HO.nil (thenQ_normal (?_))
                    rw [hKe_1] at hM
                    exact ⟨(48, i_2 + 1), ⟨F_10, rfl, rfl, rfl, rfl, rfl, hK, hS, hM.1⟩, hM.2⟩
                  · replace hM := hM.2 (of_decide_eq_false c_14)
                    refine HW.skip (thenQ_normal (?_))
                    exact ⟨F_10, rfl, rfl, rfl, rfl, rfl, hK, hS, hM⟩
                · replace hM := hM.2 (of_decide_eq_false c_13)
                  refine HO.past (past_by rfl rfl c_13) rfl ?_
                  refine HO.past (past_by rfl rfl c_13) rfl ?_
                  refine HO.past (past_by rfl rfl c_13) rfl ?_
                  refine HO.past (past_by rfl rfl c_13) rfl ?_
                  refine HO.past (past_by rfl rfl c_13) rfl ?_
                  refine HO.val (v := .bool false) (want_by rfl rfl c_11) rfl (q_pickK false rfl c_13 rfl) ?_
                  refine HO.val (v := .bool false) (want_none) rfl (q_pickK false rfl c_11 rfl) ?_
                  refine HO.nil (thenQ_normal (?_))
                  refine HW.condF rfl ?_
                  refine HW.skip (thenQ_normal (?_))
                  exact ⟨F_9, rfl, rfl, rfl, rfl, rfl, hK, hS, hM⟩
              · replace hM := hM.2 c_12
                refine HO.past (past_by rfl rfl c_12) rfl ?_
                refine HO.past (past_by rfl rfl c_12) rfl ?_
                refine HO.past (past_by rfl rfl c_12) rfl ?_
                refine HO.past (past_by rfl rfl c_12) rfl ?_
                refine HO.past (past_by rfl rfl c_12) rfl ?_
                refine HO.val (v := .bool false) (want_by rfl rfl c_11) rfl (q_pickK false rfl c_12 rfl) ?_
                refine HO.val (v := .bool false) (want_by rfl rfl c_11) rfl (q_move rfl) ?_
                refine HO.past (past_some rfl rfl) rfl ?_
                refine HO.past (past_some rfl rfl) rfl ?_
                refine HO.past (past_some rfl rfl) rfl ?_
                refine HO.past (past_some rfl rfl) rfl ?_
                refine HO.past (past_some rfl rfl) rfl ?_
                refine HO.val (v := .bool false) (want_by rfl rfl c_11) rfl (q_pick rfl rfl) ?_
                refine HO.val (v := .bool false) (want_none) rfl (q_pickK false rfl c_11 rfl) ?_
                refine HO.nil (thenQ_normal (?_))
                refine HW.condF rfl ?_
                refine HW.skip (thenQ_normal (?_))
                exact ⟨F_8, rfl, rfl, rfl, rfl, rfl, hK, hS, hM⟩
          · replace hM := hM.2 (of_decide_eq_false c_10)
            refine HO.past (past_by rfl rfl c_10) rfl ?_
            refine HO.past (past_by rfl rfl c_10) rfl ?_
            refine HO.past (past_by rfl rfl c_10) rfl ?_
            refine HO.past (past_by rfl rfl c_10) rfl ?_
            refine HO.val (v := .bool false) (want_none) rfl (q_pickK false rfl c_10 rfl) ?_
            refine HO.val (v := .bool false) (want_none) rfl (q_move rfl) ?_
            refine HO.val (v := .bool hex_1) (want_some rfl rfl) rfl (q_move rfl) ?_
            refine HO.val (v := .bool hex_1) (want_some rfl rfl) rfl (q_move rfl) ?_
            rcases Bool.eq_false_or_eq_true hex_1 with c_15 | c_15
            · replace hM := hM.1 c_15
              refine HO.val (v := .string (bs s_1)) (want_by rfl rfl c_15) rfl (q_move rfl) ?_
              refine HO.val (v := .int .i64 i_2) (want_by rfl rfl c_15) rfl (q_move rfl) ?_
              refine HO.val (v := .int .u8 ((gi s_1 i_2).toNat : Int)) (want_by rfl rfl c_15) rfl (q_idxT Tryz.underlying9 rfl rfl ho_7) ?_
              refine HO.call (want_by rfl rfl c_15) rfl (ec en_110 rfl rfl) (internal_strconv_lower_walk (fr := (fr)) ((gi s_1 i_2).toNat : Int) hS hM) ?_
              rintro _ h_11 ⟨F_11, r_8, rfl, hk, hS, hM⟩
              replace hK := hK.trans hk
              refine HO.val (v := .bool (decide (97 ≤ r_8))) (want_by rfl rfl c_15) rfl (q_leq rfl rfl) ?_
              refine HO.val (v := .bool (decide (97 ≤ r_8))) (want_some rfl rfl) rfl (q_pickK true rfl c_15 rfl) ?_
              refine HO.val (v := .bool (decide (97 ≤ r_8))) (want_some rfl rfl) rfl (q_move rfl) ?_
              rcases Bool.eq_false_or_eq_true (decide (97 ≤ r_8)) with c_16 | c_16
              · replace hM := hM.1 (of_decide_eq_true c_16)
                refine HO.val (v := .string (bs s_1)) (want_by rfl rfl c_16) rfl (q_move rfl) ?_
                refine HO.val (v := .int .i64 i_2) (want_by rfl rfl c_16) rfl (q_move rfl) ?_
                refine HO.val (v := .int .u8 ((gi s_1 i_2).toNat : Int)) (want_by rfl rfl c_16) rfl (q_idxT Tryz.underlying9 rfl rfl ho_7) ?_
                refine HO.call (want_by rfl rfl c_16) rfl (ec en_110 rfl rfl) (internal_strconv_lower_walk (fr := (fr)) ((gi s_1 i_2).toNat : Int) hS hM) ?_
                rintro _ h_12 ⟨F_12, r_9, rfl, hk, hS, hM⟩
                replace hK := hK.trans hk
                refine HO.val (v := .bool (decide (r_9 ≤ 102))) (want_by rfl rfl c_16) rfl (q_leq rfl rfl) ?_
                refine HO.val (v := .bool (decide (r_9 ≤ 102))) (want_some rfl rfl) rfl (q_pickK true rfl c_16 rfl) ?_
                refine HO.val (v := .bool (decide (r_9 ≤ 102))) (want_none) rfl (q_pick rfl rfl) ?_
                refine HO.nil (thenQ_normal (?_))
                refine HW.cond (decide (r_9 ≤ 102)) rfl (fun c_17 => ?_) (fun c_17 => ?_)
                · replace hM := hM.1 (of_decide_eq_true c_17)
                  refine HW.seq ?_
                  refine HW.region ?_
                  refine HO.val (v := .int .i32 48) (want_none) rfl (q_assign rfl) ?_
                  refine HO.nil (thenQ_normal (?_))
                  refine HW.exit (thenQ_exit (blockQ_exit (thenQ_normal (?_))))
                  refine HW.region ?_
                  refine HO.val (v := .int .i64 i_2) (want_none) rfl (q_move rfl) ?_
                  obtain ⟨ho_10, hM⟩ := hM
                  refine HO.val (v := .int .i64 (i_2 + 1)) (want_none) rfl (q_addN _ rfl rfl rfl ho_10.1 ho_10.2) ?_
                  refine HO.val (v := .int .i64 (i_2 + 1)) (want_none) rfl (q_assign rfl) ?_
                  refine HO.nil (thenQ_normal (?_))
                  rw [hKe_1] at hM
                  exact ⟨(48, i_2 + 1), ⟨F_12, rfl, rfl, rfl, rfl, rfl, hK, hS, hM.1⟩, hM.2⟩
                · replace hM := hM.2 (of_decide_eq_false c_17)
                  refine HW.skip (thenQ_normal (?_))
                  exact ⟨F_12, rfl, rfl, rfl, rfl, rfl, hK, hS, hM⟩
              · replace hM := hM.2 (of_decide_eq_false c_16)
                refine HO.past (past_by rfl rfl c_16) rfl ?_
                refine HO.past (past_by rfl rfl c_16) rfl ?_
                refine HO.past (past_by rfl rfl c_16) rfl ?_
                refine HO.past (past_by rfl rfl c_16) rfl ?_
                refine HO.past (past_by rfl rfl c_16) rfl ?_
                refine HO.val (v := .bool false) (want_some rfl rfl) rfl (q_pickK false rfl c_16 rfl) ?_
                refine HO.val (v := .bool false) (want_none) rfl (q_pick rfl rfl) ?_
                refine HO.nil (thenQ_normal (?_))
                refine HW.condF rfl ?_
                refine HW.skip (thenQ_normal (?_))
                exact ⟨F_11, rfl, rfl, rfl, rfl, rfl, hK, hS, hM⟩
            · replace hM := hM.2 c_15
              refine HO.past (past_by rfl rfl c_15) rfl ?_
              refine HO.past (past_by rfl rfl c_15) rfl ?_
              refine HO.past (past_by rfl rfl c_15) rfl ?_
              refine HO.past (past_by rfl rfl c_15) rfl ?_
              refine HO.past (past_by rfl rfl c_15) rfl ?_
              refine HO.val (v := .bool false) (want_some rfl rfl) rfl (q_pickK false rfl c_15 rfl) ?_
              refine HO.val (v := .bool false) (want_some rfl rfl) rfl (q_move rfl) ?_
              refine HO.past (past_some rfl rfl) rfl ?_
              refine HO.past (past_some rfl rfl) rfl ?_
              refine HO.past (past_some rfl rfl) rfl ?_
              refine HO.past (past_some rfl rfl) rfl ?_
              refine HO.past (past_some rfl rfl) rfl ?_
              refine HO.val (v := .bool false) (want_some rfl rfl) rfl (q_pick rfl rfl) ?_
              refine HO.val (v := .bool false) (want_none) rfl (q_pick rfl rfl) ?_
              refine HO.nil (thenQ_normal (?_))
              refine HW.condF rfl ?_
              refine HW.skip (thenQ_normal (?_))
              exact ⟨F_8, rfl, rfl, rfl, rfl, rfl, hK, hS, hM⟩
        · rintro f_5 h_13 ⟨F_13, e0, e2, e3, e4, e5, hK, hS, hM⟩
          unfold internal_strconv_underscoreOK_j4 at hM
          refine HW.fr [(0, .string (bs s_1)), (2, .bool false), (3, .int .i32 saw_2), (4, .int .i64 i_2), (5, .bool hex_1)] ⟨e0, e2, e3, e4, e5, trivial⟩ ?_
          refine HW.seq ?_
          refine HW.seq ?_
          refine HW.region ?_
          refine HO.val (v := .string (bs s_1)) (want_none) rfl (q_move rfl) ?_
          refine HO.val (v := .int .i64 i_2) (want_none) rfl (q_move rfl) ?_
          obtain ⟨ho_11, hM⟩ := hM
          refine HO.val (v := .int .u8 ((gi s_1 i_2).toNat : Int)) (want_none) rfl (q_idxT Tryz.underlying9 rfl rfl ho_11) ?_
          refine HO.val (v := .bool (decide (((gi s_1 i_2).toNat : Int) = 95))) (want_none) rfl (q_eql rfl rfl) ?_
          refine HO.nil (thenQ_normal (?_))
          refine HW.cond (decide (((gi s_1 i_2).toNat : Int) = 95)) rfl (fun c_18 => ?_) (fun c_18 => ?_)
          · replace hM := hM.1 (of_decide_eq_true c_18)
            refine HW.seq ?_
            refine HW.seq ?_
            refine HW.region ?_
            refine HO.val (v := .int .i32 saw_2) (want_none) rfl (q_move rfl) ?_
            refine HO.val (v := .bool (!decide (saw_2 = 48))) (want_none) rfl (q_neq rfl rfl) ?_
            refine HO.nil (thenQ_normal (?_))
            refine HW.cond (!decide (saw_2 = 48)) rfl (fun c_19 => ?_) (fun c_19 => ?_)
            · replace hM := hM.1 (nd_true c_19)
              refine HW.seq ?_
              refine HW.region ?_
              refine HO.val (v := .bool false) (want_none) rfl (q_assign rfl) ?_
              refine HO.nil (thenQ_normal (?_))
              refine HW.ret (thenQ_ret (thenQ_ret (blockQ_ret (thenQ_ret (thenQ_ret (blockQ_ret (thenQ_ret (?_))))))))
              refine ⟨.inr rfl, .bool false, res1 rfl (rt rfl), ?_⟩
              exact ⟨F_13, false, rfl, hK, hS, hM⟩
            · replace hM := hM.2 (nd_false c_19)
              refine HW.skip (thenQ_normal (?_))
              refine HW.seq ?_
              refine HW.region ?_
              refine HO.val (v := .int .i32 95) (want_none) rfl (q_assign rfl) ?_
              refine HO.nil (thenQ_normal (?_))
              refine HW.exit (thenQ_exit (blockQ_exit (thenQ_normal (?_))))
              refine HW.region ?_
              refine HO.val (v := .int .i64 i_2) (want_none) rfl (q_move rfl) ?_
              obtain ⟨ho_12, hM⟩ := hM
              refine HO.val (v := .int .i64 (i_2 + 1)) (want_none) rfl (q_addN _ rfl rfl rfl ho_12.1 ho_12.2) ?_
              refine HO.val (v := .int .i64 (i_2 + 1)) (want_none) rfl (q_assign rfl) ?_
              refine HO.nil (thenQ_normal (?_))
              rw [hKe_1] at hM
              exact ⟨(95, i_2 + 1), ⟨F_13, rfl, rfl, rfl, rfl, rfl, hK, hS, hM.1⟩, hM.2⟩
          · replace hM := hM.2 (of_decide_eq_false c_18)
            refine HW.skip (thenQ_normal (?_))
            refine HW.seq ?_
            refine HW.seq ?_
            refine HW.region ?_
            refine HO.val (v := .int .i32 saw_2) (want_none) rfl (q_move rfl) ?_
            refine HO.val (v := .bool (decide (saw_2 = 95))) (want_none) rfl (q_eql rfl rfl) ?_
            refine HO.nil (thenQ_normal (?_))
            refine HW.cond (decide (saw_2 = 95)) rfl (fun c_20 => ?_) (fun c_20 => ?_)
            · replace hM := hM.1 (of_decide_eq_true c_20)
              refine HW.seq ?_
              refine HW.region ?_
              refine HO.val (v := .bool false) (want_none) rfl (q_assign rfl) ?_
              refine HO.nil (thenQ_normal (?_))
              refine HW.ret (thenQ_ret (blockQ_ret (thenQ_ret (thenQ_ret (blockQ_ret (thenQ_ret (?_)))))))
              refine ⟨.inr rfl, .bool false, res1 rfl (rt rfl), ?_⟩
              exact ⟨F_13, false, rfl, hK, hS, hM⟩
            · replace hM := hM.2 (of_decide_eq_false c_20)
              refine HW.skip (thenQ_normal (?_))
              refine HW.region ?_
              refine HO.val (v := .int .i32 33) (want_none) rfl (q_assign rfl) ?_
              refine HO.nil (blockQ_normal (thenQ_normal (?_)))
              refine HW.region ?_
              refine HO.val (v := .int .i64 i_2) (want_none) rfl (q_move rfl) ?_
              obtain ⟨ho_13, hM⟩ := hM
              refine HO.val (v := .int .i64 (i_2 + 1)) (want_none) rfl (q_addN _ rfl rfl rfl ho_13.1 ho_13.2) ?_
              refine HO.val (v := .int .i64 (i_2 + 1)) (want_none) rfl (q_assign rfl) ?_
              refine HO.nil (thenQ_normal (?_))
              rw [hKe_1] at hM
              exact ⟨(33, i_2 + 1), ⟨F_13, rfl, rfl, rfl, rfl, rfl, hK, hS, hM.1⟩, hM.2⟩
      · replace hM := hM.2 (of_decide_eq_false c_9)
        refine HW.exit (thenQ_exit (thenQ_exit (blockQ_exit (thenQ_normal (?_)))))
        refine HW.seq ?_
        refine HW.region ?_
        refine HO.val (v := .int .i32 saw_2) (want_none) rfl (q_move rfl) ?_
        refine HO.val (v := .bool (!decide (saw_2 = 95))) (want_none) rfl (q_neq rfl rfl) ?_
        refine HO.val (v := .bool (!decide (saw_2 = 95))) (want_none) rfl (q_assign rfl) ?_
        refine HO.nil (thenQ_normal (?_))
        refine HW.ret (?_)
        refine ⟨.inr rfl, .bool (!decide (saw_2 = 95)), res1 rfl (rt rfl), ?_⟩
        exact ⟨F_8, !decide (saw_2 = 95), rfl, hK, hS, hM⟩

def internal_strconv_ParseUint_j12 (Q : Int → Int → Prop) (base_1 : Int) (bitSize_1 : Int) (underscores_1 : Bool) (n_1 : Int) (n_2 : Int) (K_1 : Bool → Int → Int → Prop) (d_1 : Int) (b_8 : Bool) : Prop :=
  (b_8 = true → Q (IntKind.u64.wrap ((IntKind.u64.wrap ((1 : Int) * 2 ^ (min (IntKind.u64.wrap bitSize_1).toNat IntKind.u64.bits))) - 1)) 1) ∧ (b_8 = false → (I64 (n_2 + 1)) ∧ (K_1 underscores_1 (IntKind.u64.wrap ((IntKind.u64.wrap (n_1 * (IntKind.u64.wrap base_1))) + (IntKind.u64.wrap d_1))) (n_2 + 1)))
def internal_strconv_ParseUint_j8 (Q : Int → Int → Prop) (base_1 : Int) (bitSize_1 : Int) (cutoff_1 : Int) (underscores_1 : Bool) (n_1 : Int) (n_2 : Int) (K_1 : Bool → Int → Int → Prop) (d_1 : Int) : Prop :=
  (((u8w base_1).toNat : Int) ≤ d_1 → Q 0 2) ∧ (¬ (((u8w base_1).toNat : Int) ≤ d_1) → (cutoff_1 ≤ n_1 → Q (IntKind.u64.wrap ((IntKind.u64.wrap ((1 : Int) * 2 ^ (min (IntKind.u64.wrap bitSize_1).toNat IntKind.u64.bits))) - 1)) 1) ∧ (¬ (cutoff_1 ≤ n_1) → ((IntKind.u64.wrap ((IntKind.u64.wrap (n_1 * (IntKind.u64.wrap base_1))) + (IntKind.u64.wrap d_1))) < (IntKind.u64.wrap (n_1 * (IntKind.u64.wrap base_1))) → internal_strconv_ParseUint_j12 Q base_1 bitSize_1 underscores_1 n_1 n_2 K_1 d_1 true) ∧ (¬ ((IntKind.u64.wrap ((IntKind.u64.wrap (n_1 * (IntKind.u64.wrap base_1))) + (IntKind.u64.wrap d_1))) < (IntKind.u64.wrap (n_1 * (IntKind.u64.wrap base_1)))) → internal_strconv_ParseUint_j12 Q base_1 bitSize_1 underscores_1 n_1 n_2 K_1 d_1 (decide ((IntKind.u64.wrap ((IntKind.u64.wrap ((1 : Int) * 2 ^ (min (IntKind.u64.wrap bitSize_1).toNat IntKind.u64.bits))) - 1)) < (IntKind.u64.wrap ((IntKind.u64.wrap (n_1 * (IntKind.u64.wrap base_1))) + (IntKind.u64.wrap d_1))))))))
def internal_strconv_ParseUint_j11 (Q : Int → Int → Prop) (s_1 : Str) (base_1 : Int) (bitSize_1 : Int) (cutoff_1 : Int) (underscores_1 : Bool) (n_1 : Int) (n_2 : Int) (K_1 : Bool → Int → Int → Prop) (b_7 : Bool) : Prop :=
  (b_7 = true → internal_strconv_lower_W ((gi s_1 n_2).toNat : Int) (fun r_6 => internal_strconv_ParseUint_j8 Q base_1 bitSize_1 cutoff_1 underscores_1 n_1 n_2 K_1 ((u8w (((u8w (r_6 - 97)).toNat : Int) + 10)).toNat : Int))) ∧ (b_7 = false → Q 0 2)
def internal_strconv_ParseUint_j10 (Q : Int → Int → Prop) (s_1 : Str) (base_1 : Int) (bitSize_1 : Int) (cutoff_1 : Int) (underscores_1 : Bool) (n_1 : Int) (n_2 : Int) (K_1 : Bool → Int → Int → Prop) (b_6 : Bool) : Prop :=
  (b_6 = true → internal_strconv_ParseUint_j8 Q base_1 bitSize_1 cutoff_1 underscores_1 n_1 n_2 K_1 ((u8w (((gi s_1 n_2).toNat : Int) - 48)).toNat : Int)) ∧ (b_6 = false → internal_strconv_lower_W ((gi s_1 n_2).toNat : Int) (fun r_4 => (97 ≤ r_4 → internal_strconv_lower_W ((gi s_1 n_2).toNat : Int) (fun r_5 => internal_strconv_ParseUint_j11 Q s_1 base_1 bitSize_1 cutoff_1 underscores_1 n_1 n_2 K_1 (decide (r_5 ≤ 122)))) ∧ (¬ (97 ≤ r_4) → internal_strconv_ParseUint_j11 Q s_1 base_1 bitSize_1 cutoff_1 underscores_1 n_1 n_2 K_1 false)))
def internal_strconv_ParseUint_j9 (Q : Int → Int → Prop) (s_1 : Str) (base_1 : Int) (bitSize_1 : Int) (cutoff_1 : Int) (underscores_1 : Bool) (n_1 : Int) (n_2 : Int) (K_1 : Bool → Int → Int → Prop) (b_5 : Bool) : Prop :=
  (b_5 = true → (I64 (n_2 + 1)) ∧ (K_1 true n_1 (n_2 + 1))) ∧ (b_5 = false → (48 ≤ ((gi s_1 n_2).toNat : Int) → internal_strconv_ParseUint_j10 Q s_1 base_1 bitSize_1 cutoff_1 underscores_1 n_1 n_2 K_1 (decide (((gi s_1 n_2).toNat : Int) ≤ 57))) ∧ (¬ (48 ≤ ((gi s_1 n_2).toNat : Int)) → internal_strconv_ParseUint_j10 Q s_1 base_1 bitSize_1 cutoff_1 underscores_1 n_1 n_2 K_1 false))
def internal_strconv_ParseUint_j13 (Q : Int → Int → Prop) (n_1 : Int) (b_9 : Bool) : Prop :=
  (b_9 = true → Q 0 2) ∧ (b_9 = false → Q n_1 0)
def internal_strconv_ParseUint_l1 (s1 : Str) (base : Int) (Q : Int → Int → Prop) (s_1 : Str) (base_1 : Int) (bitSize_1 : Int) (cutoff_1 : Int) (K_1 : Bool → Int → Int → Prop) (underscores_1 : Bool) (n_1 : Int) (n_2 : Int) : Prop :=
  (n_2 < (s_1.length : Int) → ((0 : Int) ≤ n_2 ∧ n_2 < (s_1.length : Int)) ∧ ((((gi s_1 n_2).toNat : Int) = 95 → internal_strconv_ParseUint_j9 Q s_1 base_1 bitSize_1 cutoff_1 underscores_1 n_1 n_2 K_1 (decide (base = 0))) ∧ (¬ (((gi s_1 n_2).toNat : Int) = 95) → internal_strconv_ParseUint_j9 Q s_1 base_1 bitSize_1 cutoff_1 underscores_1 n_1 n_2 K_1 false))) ∧ (¬ (n_2 < (s_1.length : Int)) → (underscores_1 = true → internal_strconv_underscoreOK_W s1 (fun r_7 => internal_strconv_ParseUint_j13 Q n_1 (!r_7))) ∧ (underscores_1 = false → internal_strconv_ParseUint_j13 Q n_1 false))
def internal_strconv_ParseUint_j7 (s1 : Str) (base : Int) (Q : Int → Int → Prop) (s_1 : Str) (base_1 : Int) (bitSize_1 : Int) (cutoff_1 : Int) : Prop :=
  ((0 : Int) ≤ IntKind.u64.wrap bitSize_1) ∧ (((s_1.length : Int) ≤ 1000000) ∧ (loopW (fun (K_1 : (Bool × Int × Int) → Prop) (s : Bool × Int × Int) => internal_strconv_ParseUint_l1 s1 base Q s_1 base_1 bitSize_1 cutoff_1 (fun underscores_1 n_1 n_2 => K_1 (underscores_1, n_1, n_2)) s.1 s.2.1 s.2.2) (false, 0, 0)))
def internal_strconv_ParseUint_j6 (s1 : Str) (base : Int) (Q : Int → Int → Prop) (s_1 : Str) (base_1 : Int) (bitSize_1 : Int) : Prop :=
  (base_1 = 10 → internal_strconv_ParseUint_j7 s1 base Q s_1 base_1 bitSize_1 1844674407370955162) ∧ (¬ (base_1 = 10) → (base_1 = 16 → internal_strconv_ParseUint_j7 s1 base Q s_1 base_1 bitSize_1 1152921504606846976) ∧ (¬ (base_1 = 16) → (IntKind.u64.wrap base_1 ≠ 0) ∧ (internal_strconv_ParseUint_j7 s1 base Q s_1 base_1 bitSize_1 (IntKind.u64.wrap ((IntKind.u64.wrap ((18446744073709551615 : Int).tdiv (IntKind.u64.wrap base_1))) + 1)))))
def internal_strconv_ParseUint_j1 (s1 : Str) (base : Int) (bitSize : Int) (Q : Int → Int → Prop) (s_1 : Str) (base_1 : Int) : Prop :=
  (bitSize = 0 → internal_strconv_ParseUint_j6 s1 base Q s_1 base_1 64) ∧ (¬ (bitSize = 0) → (bitSize < 0 → Q 0 4) ∧ (¬ (bitSize < 0) → (64 < bitSize → Q 0 4) ∧ (¬ (64 < bitSize) → internal_strconv_ParseUint_j6 s1 base Q s_1 base_1 bitSize)))
def internal_strconv_ParseUint_j5 (s1 : Str) (base : Int) (bitSize : Int) (Q : Int → Int → Prop) (b_4 : Bool) : Prop :=
  (b_4 = true → ((0 : Int) ≤ 2 ∧ 2 ≤ (s1.length : Int)) ∧ (internal_strconv_ParseUint_j1 s1 base bitSize Q (cut s1 2 (s1.length : Int)) 16)) ∧ (b_4 = false → ((0 : Int) ≤ 1 ∧ 1 ≤ (s1.length : Int)) ∧ (internal_strconv_ParseUint_j1 s1 base bitSize Q (cut s1 1 (s1.length : Int)) 8))
def internal_strconv_ParseUint_j4 (s1 : Str) (base : Int) (bitSize : Int) (Q : Int → Int → Prop) (b_3 : Bool) : Prop :=
  (b_3 = true → ((0 : Int) ≤ 2 ∧ 2 ≤ (s1.length : Int)) ∧ (internal_strconv_ParseUint_j1 s1 base bitSize Q (cut s1 2 (s1.length : Int)) 8)) ∧ (b_3 = false → (3 ≤ (s1.length : Int) → ((0 : Int) ≤ 1 ∧ 1 < (s1.length : Int)) ∧ (internal_strconv_lower_W ((gi s1 1).toNat : Int) (fun r_3 => internal_strconv_ParseUint_j5 s1 base bitSize Q (decide (r_3 = 120))))) ∧ (¬ (3 ≤ (s1.length : Int)) → internal_strconv_ParseUint_j5 s1 base bitSize Q false))
def internal_strconv_ParseUint_j3 (s1 : Str) (base : Int) (bitSize : Int) (Q : Int → Int → Prop) (b_2 : Bool) : Prop :=
  (b_2 = true → ((0 : Int) ≤ 2 ∧ 2 ≤ (s1.length : Int)) ∧ (internal_strconv_ParseUint_j1 s1 base bitSize Q (cut s1 2 (s1.length : Int)) 2)) ∧ (b_2 = false → (3 ≤ (s1.length : Int) → ((0 : Int) ≤ 1 ∧ 1 < (s1.length : Int)) ∧ (internal_strconv_lower_W ((gi s1 1).toNat : Int) (fun r_2 => internal_strconv_ParseUint_j4 s1 base bitSize Q (decide (r_2 = 111))))) ∧ (¬ (3 ≤ (s1.length : Int)) → internal_strconv_ParseUint_j4 s1 base bitSize Q false))
def internal_strconv_ParseUint_j2 (s1 : Str) (base : Int) (bitSize : Int) (Q : Int → Int → Prop) (b_1 : Bool) : Prop :=
  (b_1 = true → internal_strconv_ParseUint_j1 s1 base bitSize Q s1 base) ∧ (b_1 = false → (base = 0 → ((0 : Int) ≤ 0 ∧ 0 < (s1.length : Int)) ∧ ((((gi s1 0).toNat : Int) = 48 → (3 ≤ (s1.length : Int) → ((0 : Int) ≤ 1 ∧ 1 < (s1.length : Int)) ∧ (internal_strconv_lower_W ((gi s1 1).toNat : Int) (fun r_1 => internal_strconv_ParseUint_j3 s1 base bitSize Q (decide (r_1 = 98))))) ∧ (¬ (3 ≤ (s1.length : Int)) → internal_strconv_ParseUint_j3 s1 base bitSize Q false)) ∧ (¬ (((gi s1 0).toNat : Int) = 48) → internal_strconv_ParseUint_j1 s1 base bitSize Q s1 10))) ∧ (¬ (base = 0) → Q 0 3))
def internal_strconv_ParseUint_W (s1 : Str) (base : Int) (bitSize : Int) (Q : Int → Int → Prop) : Prop :=
  ((s1 : Str) = [] → Q 0 2) ∧ (¬ ((s1 : Str) = []) → (2 ≤ base → internal_strconv_ParseUint_j2 s1 base bitSize Q (decide (base ≤ 36))) ∧ (¬ (2 ≤ base) → internal_strconv_ParseUint_j2 s1 base bitSize Q false))
set_option maxHeartbeats 40000000 in
set_option maxRecDepth 100000 in
theorem internal_strconv_ParseUint_walk {F : Fz} {fr : List Ow} {h0 : Heap} (s1 : Str) (base : Int) (bitSize : Int) (hS : St F (fr) h0)  {Q : Int → Int → Prop} (hM : internal_strconv_ParseUint_W s1 base bitSize Q) :
    HC Tryz.prog 82 #[.string (bs s1), .int .i64 base, .int .i64 bitSize] h0 fun u h' => ∃ (F' : Fz) (r0_1 : Int) (r1_1 : Int), u = .tuple #[.int .u64 r0_1, ifV 120 r1_1] ∧ Kp F h0 F' h' ∧ St F' (fr) h' ∧ Q r0_1 r1_1 := by
  unfold internal_strconv_ParseUint_W at hM
  have hK := Kp.refl F h0
  refine HC.of_HW (n := 172) Tryz.func82 rfl rfl (Nat.le_of_ble_eq_true rfl) ?_
  refine HW.seq ?_
  refine HW.region ?_
  refine HO.val (v := .int .u64 0) (want_none) rfl (q_assign rfl) ?_
  refine HO.val (v := .nilIface) (want_none) rfl (q_assign rfl) ?_
  refine HO.nil (thenQ_normal (?_))
  refine HW.seq ?_
  refine HW.seq ?_
  refine HW.region ?_
  refine HO.val (v := .string (bs s1)) (want_none) rfl (q_move rfl) ?_
  refine HO.val (v := .bool (decide ((s1 : Str) = []))) (want_none) rfl (q_eqlT rfl rfl) ?_
  refine HO.nil (thenQ_normal (?_))
  refine HW.cond (decide ((s1 : Str) = [])) rfl (fun c_1 => ?_) (fun c_1 => ?_)
  · replace hM := hM.1 (of_decide_eq_true c_1)
    refine HW.seq ?_
    refine HW.region ?_
    refine HO.val (v := .iface 120 (.int .i64 2)) (want_none) rfl (q_mkIface Tryz.underlying120 rfl) ?_
    refine HO.val (v := .int .u64 0) (want_none) rfl (q_assign rfl) ?_
    refine HO.val (v := .iface 120 (.int .i64 2)) (want_none) rfl (q_assign rfl) ?_
    refine HO.nil (thenQ_normal (?_))
    refine HW.ret (thenQ_ret (?_))
    refine ⟨.inr rfl, .tuple #[.int .u64 0, .iface 120 (.int .i64 2)], res2 rfl (rt rfl) (rt rfl), ?_⟩
    exact ⟨F, 0, 2, rfl, hK, hS, hM⟩
  · replace hM := hM.2 (of_decide_eq_false c_1)
    refine HW.skip (thenQ_normal (?_))
    refine HW.seq ?_
    refine HW.region ?_
    refine HO.val (v := .int .i64 base) (want_none) rfl (q_move rfl) ?_
    refine HO.val (v := .bool (decide (base = 0))) (want_none) rfl (q_eql rfl rfl) ?_
    refine HO.val (v := .bool (decide (base = 0))) (want_none) rfl (q_assign rfl) ?_
    refine HO.nil (thenQ_normal (?_))
    refine HW.seq ?_
    refine HW.region ?_
    refine HO.val (v := .string (bs s1)) (want_none) rfl (q_move rfl) ?_
    refine HO.val (v := .string (bs s1)) (want_none) rfl (q_assign rfl) ?_
    refine HO.nil (thenQ_normal (?_))
    refine HW.seq_mid (fun f h => ∃ (F' : Fz) (s_1 : Str) (base_1 : Int), f 0 = .string (bs s_1) ∧ f 1 = .int .i64 base_1 ∧ f 2 = .int .i64 bitSize ∧ f 6 = .int .u64 0 ∧ f 7 = .nilIface ∧ f 8 = .bool (decide (base = 0)) ∧ f 9 = .string (bs s1) ∧ Kp F h0 F' h ∧ St F' (fr) h ∧ internal_strconv_ParseUint_j1 s1 base bitSize Q s_1 base_1) ?_ ?_
    · refine HW.block ?_
      refine HW.seq_mid (fun f h => ∃ (F' : Fz) (b_1 : Bool), f 0 = .string (bs s1) ∧ f 1 = .int .i64 base ∧ f 2 = .int .i64 bitSize ∧ f 6 = .int .u64 0 ∧ f 7 = .nilIface ∧ f 8 = .bool (decide (base = 0)) ∧ f 9 = .string (bs s1) ∧ f 25 = .bool b_1 ∧ Kp F h0 F' h ∧ St F' (fr) h ∧ internal_strconv_ParseUint_j2 s1 base bitSize Q b_1) ?_ ?_
      · refine HW.region ?_
        refine HO.val (v := .int .i64 base) (want_none) rfl (q_move rfl) ?_
        refine HO.val (v := .bool (decide (2 ≤ base))) (want_none) rfl (q_leq rfl rfl) ?_
        refine HO.val (v := .bool (decide (2 ≤ base))) (want_none) rfl (q_move rfl) ?_
        rcases Bool.eq_false_or_eq_true (decide (2 ≤ base)) with c_2 | c_2
        · replace hM := hM.1 (of_decide_eq_true c_2)
          refine HO.val (v := .int .i64 base) (want_by rfl rfl c_2) rfl (q_move rfl) ?_
          refine HO.val (v := .bool (decide (base ≤ 36))) (want_by rfl rfl c_2) rfl (q_leq rfl rfl) ?_
          refine HO.val (v := .bool (decide (base ≤ 36))) (want_none) rfl (q_pickK true rfl c_2 rfl) ?_
          refine HO.val (v := .bool (decide (base ≤ 36))) (want_none) rfl (q_assign rfl) ?_
          refine HO.nil (thenQ_normal (?_))
          exact ⟨F, decide (base ≤ 36), rfl, rfl, rfl, rfl, rfl, rfl, rfl, rfl, hK, hS, hM⟩
        · replace hM := hM.2 (of_decide_eq_false c_2)
          refine HO.past (past_by rfl rfl c_2) rfl ?_
          refine HO.past (past_by rfl rfl c_2) rfl ?_
          refine HO.val (v := .bool false) (want_none) rfl (q_pickK false rfl c_2 rfl) ?_
          refine HO.val (v := .bool false) (want_none) rfl (q_assign rfl) ?_
          refine HO.nil (thenQ_normal (?_))
          exact ⟨F, false, rfl, rfl, rfl, rfl, rfl, rfl, rfl, rfl, hK, hS, hM⟩
      · rintro f_1 h_1 ⟨F_1, b_1, e0, e1, e2, e6, e7, e8, e9, e25, hK, hS, hM⟩
        unfold internal_strconv_ParseUint_j2 at hM
        refine HW.fr [(0, .string (bs s1)), (1, .int .i64 base), (2, .int .i64 bitSize), (6, .int .u64 0), (7, .nilIface), (8, .bool (decide (base = 0))), (9, .string (bs s1)), (25, .bool b_1)] ⟨e0, e1, e2, e6, e7, e8, e9, e25, trivial⟩ ?_
        refine HW.cond b_1 rfl (fun c_3 => ?_) (fun c_3 => ?_)
        · replace hM := hM.1 c_3
          refine HW.skip (blockQ_normal (thenQ_normal (?_)))
          exact ⟨F_1, s1, base, rfl, rfl, rfl, rfl, rfl, rfl, rfl, hK, hS, hM⟩
        · replace hM := hM.2 c_3
          refine HW.seq ?_
          refine HW.region ?_
          refine HO.val (v := .int .i64 base) (want_none) rfl (q_move rfl) ?_
          refine HO.val (v := .bool (decide (base = 0))) (want_none) rfl (q_eql rfl rfl) ?_
          refine HO.val (v := .bool (decide (base = 0))) (want_none) rfl (q_assign rfl) ?_
          refine HO.nil (thenQ_normal (?_))
          refine HW.cond (decide (base = 0)) rfl (fun c_4 => ?_) (fun c_4 => ?_)
          · replace hM := hM.1 (of_decide_eq_true c_4)
            refine HW.seq ?_
            refine HW.region ?_
            refine HO.val (v := .int .i64 10) (want_none) rfl (q_assign rfl) ?_
            refine HO.nil (thenQ_normal (?_))
            refine HW.seq ?_
            refine HW.region ?_
            refine HO.val (v := .string (bs s1)) (want_none) rfl (q_move rfl) ?_
            obtain ⟨ho_1, hM⟩ := hM
            refine HO.val (v := .int .u8 ((gi s1 0).toNat : Int)) (want_none) rfl (q_idxT Tryz.underlying9 rfl rfl ho_1) ?_
            refine HO.val (v := .bool (decide (((gi s1 0).toNat : Int) = 48))) (want_none) rfl (q_eql rfl rfl) ?_
            refine HO.nil (thenQ_normal (?_))
            refine HW.cond (decide (((gi s1 0).toNat : Int) = 48)) rfl (fun c_5 => ?_) (fun c_5 => ?_)
            · replace hM := hM.1 (of_decide_eq_true c_5)
              refine HW.block ?_
              refine HW.seq_mid (fun f h => ∃ (F' : Fz) (b_2 : Bool), f 0 = .string (bs s1) ∧ f 1 = .int .i64 10 ∧ f 2 = .int .i64 bitSize ∧ f 6 = .int .u64 0 ∧ f 7 = .nilIface ∧ f 8 = .bool (decide (base = 0)) ∧ f 9 = .string (bs s1) ∧ f 40 = .bool b_2 ∧ Kp F h0 F' h ∧ St F' (fr) h ∧ internal_strconv_ParseUint_j3 s1 base bitSize Q b_2) ?_ ?_
              · refine HW.region ?_
                refine HO.val (v := .string (bs s1)) (want_none) rfl (q_move rfl) ?_
                refine HO.val (v := .int .i64 (s1.length : Int)) (want_none) rfl (q_lenT Tryz.underlying9 rfl rfl) ?_
                refine HO.val (v := .bool (decide (3 ≤ (s1.length : Int)))) (want_none) rfl (q_geq rfl rfl) ?_
                refine HO.val (v := .bool (decide (3 ≤ (s1.length : Int)))) (want_none) rfl (q_move rfl) ?_
                rcases Bool.eq_false_or_eq_true (decide (3 ≤ (s1.length : Int))) with c_6 | c_6
                · replace hM := hM.1 (of_decide_eq_true c_6)
                  refine HO.val (v := .string (bs s1)) (want_by rfl rfl c_6) rfl (q_move rfl) ?_
                  obtain ⟨ho_2, hM⟩ := hM
                  refine HO.val (v := .int .u8 ((gi s1 1).toNat : Int)) (want_by rfl rfl c_6) rfl (q_idxT Tryz.underlying9 rfl rfl ho_2) ?_
                  refine HO.call (want_by rfl rfl c_6) rfl (ec en_110 rfl rfl) (internal_strconv_lower_walk (fr := (fr)) ((gi s1 1).toNat : Int) hS hM) ?_
                  rintro _ h_2 ⟨F_2, r_1, rfl, hk, hS, hM⟩
                  replace hK := hK.trans hk
                  refine HO.val (v := .bool (decide (r_1 = 98))) (want_by rfl rfl c_6) rfl (q_eql rfl rfl) ?_
                  refine HO.val (v := .bool (decide (r_1 = 98))) (want_none) rfl (q_pickK true rfl c_6 rfl) ?_
                  refine HO.val (v := .bool (decide (r_1 = 98))) (want_none) rfl (q_assign rfl) ?_
                  refine HO.nil (thenQ_normal (?_))
                  exact ⟨F_2, decide (r_1 = 98), rfl, rfl, rfl, rfl, rfl, rfl, rfl, rfl, hK, hS, hM⟩
                · replace hM := hM.2 (of_decide_eq_false c_6)
                  refine HO.past (past_by rfl rfl c_6) rfl ?_
                  refine HO.past (past_by rfl rfl c_6) rfl ?_
                  refine HO.past (past_by rfl rfl c_6) rfl ?_
                  refine HO.past (past_by rfl rfl c_6) rfl ?_
                  refine HO.val (v := .bool false) (want_none) rfl (q_pickK false rfl c_6 rfl) ?_
                  refine HO.val (v := .bool false) (want_none) rfl (q_assign rfl) ?_
                  refine HO.nil (thenQ_normal (?_))
                  exact ⟨F_1, false, rfl, rfl, rfl, rfl, rfl, rfl, rfl, rfl, hK, hS, hM⟩
              · rintro f_2 h_3 ⟨F_3, b_2, e0, e1, e2, e6, e7, e8, e9, e40, hK, hS, hM⟩
                unfold internal_strconv_ParseUint_j3 at hM
                refine HW.fr [(0, .string (bs s1)), (1, .int .i64 10), (2, .int .i64 bitSize), (6, .int .u64 0), (7, .nilIface), (8, .bool (decide (base = 0))), (9, .string (bs s1)), (40, .bool b_2)] ⟨e0, e1, e2, e6, e7, e8, e9, e40, trivial⟩ ?_
                refine HW.cond b_2 rfl (fun c_7 => ?_) (fun c_7 => ?_)
                · replace hM := hM.1 c_7
                  refine HW.seq ?_
                  refine HW.region ?_
                  refine HO.val (v := .int .i64 2) (want_none) rfl (q_assign rfl) ?_
                  refine HO.nil (thenQ_normal (?_))
                  refine HW.region ?_
                  refine HO.val (v := .string (bs s1)) (want_none) rfl (q_move rfl) ?_
                  obtain ⟨ho_3, hM⟩ := hM
                  refine HO.val (v := .string (bs (cut s1 2 (s1.length : Int)))) (want_none) rfl (q_strL Tryz.underlying9 rfl rfl ho_3) ?_
                  refine HO.val (v := .string (bs (cut s1 2 (s1.length : Int)))) (want_none) rfl (q_assign rfl) ?_
                  refine HO.nil (blockQ_normal (blockQ_normal (thenQ_normal (?_))))
                  exact ⟨F_3, cut s1 2 (s1.length : Int), 2, rfl, rfl, rfl, rfl, rfl, rfl, rfl, hK, hS, hM⟩
                · replace hM := hM.2 c_7
                  refine HW.seq_mid (fun f h => ∃ (F' : Fz) (b_3 : Bool), f 0 = .string (bs s1) ∧ f 1 = .int .i64 10 ∧ f 2 = .int .i64 bitSize ∧ f 6 = .int .u64 0 ∧ f 7 = .nilIface ∧ f 8 = .bool (decide (base = 0)) ∧ f 9 = .string (bs s1) ∧ f 52 = .bool b_3 ∧ Kp F h0 F' h ∧ St F' (fr) h ∧ internal_strconv_ParseUint_j4 s1 base bitSize Q b_3) ?_ ?_
                  · refine HW.region ?_
                    refine HO.val (v := .string (bs s1)) (want_none) rfl (q_move rfl) ?_
                    refine HO.val (v := .int .i64 (s1.length : Int)) (want_none) rfl (q_lenT Tryz.underlying9 rfl rfl) ?_
                    refine HO.val (v := .bool (decide (3 ≤ (s1.length : Int)))) (want_none) rfl (q_geq rfl rfl) ?_
                    refine HO.val (v := .bool (decide (3 ≤ (s1.length : Int)))) (want_none) rfl (q_move rfl) ?_
                    rcases Bool.eq_false_or_eq_true (decide (3 ≤ (s1.length : Int))) with c_8 | c_8
                    · replace hM := hM.1 (of_decide_eq_true c_8)
                      refine HO.val (v := .string (bs s1)) (want_by rfl rfl c_8) rfl (q_move rfl) ?_
                      obtain ⟨ho_4, hM⟩ := hM
                      refine HO.val (v := .int .u8 ((gi s1 1).toNat : Int)) (want_by rfl rfl c_8) rfl (q_idxT Tryz.underlying9 rfl rfl ho_4) ?_
                      refine HO.call (want_by rfl rfl c_8) rfl (ec en_110 rfl rfl) (internal_strconv_lower_walk (fr := (fr)) ((gi s1 1).toNat : Int) hS hM) ?_
                      rintro _ h_4 ⟨F_4, r_2, rfl, hk, hS, hM⟩
                      replace hK := hK.trans hk
                      refine HO.val (v := .bool (decide (r_2 = 111))) (want_by rfl rfl c_8) rfl (q_eql rfl rfl) ?_
                      refine HO.val (v := .bool (decide (r_2 = 111))) (want_none) rfl (q_pickK true rfl c_8 rfl) ?_
                      refine HO.val (v := .bool (decide (r_2 = 111))) (want_none) rfl (q_assign rfl) ?_
                      refine HO.nil (thenQ_normal (?_))
                      exact ⟨F_4, decide (r_2 = 111), rfl, rfl, rfl, rfl, rfl, rfl, rfl, rfl, hK, hS, hM⟩
                    · replace hM := hM.2 (of_decide_eq_false c_8)
                      refine HO.past (past_by rfl rfl c_8) rfl ?_
                      refine HO.past (past_by rfl rfl c_8) rfl ?_
                      refine HO.past (past_by rfl rfl c_8) rfl ?_
                      refine HO.past (past_by rfl rfl c_8) rfl ?_
                      refine HO.val (v := .bool false) (want_none) rfl (q_pickK false rfl c_8 rfl) ?_
                      refine HO.val (v := .bool false) (want_none) rfl (q_assign rfl) ?_
                      refine HO.nil (thenQ_normal (?_))
                      exact ⟨F_3, false, rfl, rfl, rfl, rfl, rfl, rfl, rfl, rfl, hK, hS, hM⟩
                  · rintro f_3 h_5 ⟨F_5, b_3, e0, e1, e2, e6, e7, e8, e9, e52, hK, hS, hM⟩
                    unfold internal_strconv_ParseUint_j4 at hM
                    refine HW.fr [(0, .string (bs s1)), (1, .int .i64 10), (2, .int .i64 bitSize), (6, .int .u64 0), (7, .nilIface), (8, .bool (decide (base = 0))), (9, .string (bs s1)), (52, .bool b_3)] ⟨e0, e1, e2, e6, e7, e8, e9, e52, trivial⟩ ?_
                    refine HW.cond b_3 rfl (fun c_9 => ?_) (fun c_9 => ?_)
                    · replace hM := hM.1 c_9
                      refine HW.seq ?_
                      refine HW.region ?_
                      refine HO.val (v := .int .i64 8) (want_none) rfl (q_assign rfl) ?_
                      refine HO.nil (thenQ_normal (?_))
                      refine HW.region ?_
                      refine HO.val (v := .string (bs s1)) (want_none) rfl (q_move rfl) ?_
                      obtain ⟨ho_5, hM⟩ := hM
                      refine HO.val (v := .string (bs (cut s1 2 (s1.length : Int)))) (want_none) rfl (q_strL Tryz.underlying9 rfl rfl ho_5) ?_
                      refine HO.val (v := .string (bs (cut s1 2 (s1.length : Int)))) (want_none) rfl (q_assign rfl) ?_
                      refine HO.nil (blockQ_normal (blockQ_normal (thenQ_normal (?_))))
                      exact ⟨F_5, cut s1 2 (s1.length : Int), 8, rfl, rfl, rfl, rfl, rfl, rfl, rfl, hK, hS, hM⟩
                    · replace hM := hM.2 c_9
                      refine HW.seq_mid (fun f h => ∃ (F' : Fz) (b_4 : Bool), f 0 = .string (bs s1) ∧ f 1 = .int .i64 10 ∧ f 2 = .int .i64 bitSize ∧ f 6 = .int .u64 0 ∧ f 7 = .nilIface ∧ f 8 = .bool (decide (base = 0)) ∧ f 9 = .string (bs s1) ∧ f 64 = .bool b_4 ∧ Kp F h0 F' h ∧ St F' (fr) h ∧ internal_strconv_ParseUint_j5 s1 base bitSize Q b_4) ?_ ?_
                      · refine HW.region ?_
                        refine HO.val (v := .string (bs s1)) (want_none) rfl (q_move rfl) ?_
                        refine HO.val (v := .int .i64 (s1.length : Int)) (want_none) rfl (q_lenT Tryz.underlying9 rfl rfl) ?_
                        refine HO.val (v := .bool (decide (3 ≤ (s1.length : Int)))) (want_none) rfl (q_geq rfl rfl) ?_
                        refine HO.val (v := .bool (decide (3 ≤ (s1.length : Int)))) (want_none) rfl (q_move rfl) ?_
                        rcases Bool.eq_false_or_eq_true (decide (3 ≤ (s1.length : Int))) with c_10 | c_10
                        · replace hM := hM.1 (of_decide_eq_true c_10)
                          refine HO.val (v := .string (bs s1)) (want_by rfl rfl c_10) rfl (q_move rfl) ?_
                          obtain ⟨ho_6, hM⟩ := hM
                          refine HO.val (v := .int .u8 ((gi s1 1).toNat : Int)) (want_by rfl rfl c_10) rfl (q_idxT Tryz.underlying9 rfl rfl ho_6) ?_
                          refine HO.call (want_by rfl rfl c_10) rfl (ec en_110 rfl rfl) (internal_strconv_lower_walk (fr := (fr)) ((gi s1 1).toNat : Int) hS hM) ?_
                          rintro _ h_6 ⟨F_6, r_3, rfl, hk, hS, hM⟩
                          replace hK := hK.trans hk
                          refine HO.val (v := .bool (decide (r_3 = 120))) (want_by rfl rfl c_10) rfl (q_eql rfl rfl) ?_
                          refine HO.val (v := .bool (decide (r_3 = 120))) (want_none) rfl (q_pickK true rfl c_10 rfl) ?_
                          refine HO.val (v := .bool (decide (r_3 = 120))) (want_none) rfl (q_assign rfl) ?_
                          refine HO.nil (thenQ_normal (?_))
                          exact ⟨F_6, decide (r_3 = 120), rfl, rfl, rfl, rfl, rfl, rfl, rfl, rfl, hK, hS, hM⟩
                        · replace hM := hM.2 (of_decide_eq_false c_10)
                          refine HO.past (past_by rfl rfl c_10) rfl ?_
                          refine HO.past (past_by rfl rfl c_10) rfl ?_
                          refine HO.past (past_by rfl rfl c_10) rfl ?_
                          refine HO.past (past_by rfl rfl c_10) rfl ?_
                          refine HO.val (v := .bool false) (want_none) rfl (q_pickK false rfl c_10 rfl) ?_
                          refine HO.val (v := .bool false) (want_none) rfl (q_assign rfl) ?_
                          refine HO.nil (thenQ_normal (?_))
                          exact ⟨F_5, false, rfl, rfl, rfl, rfl, rfl, rfl, rfl, rfl, hK, hS, hM⟩
                      · rintro f_4 h_7 ⟨F_7, b_4, e0, e1, e2, e6, e7, e8, e9, e64, hK, hS, hM⟩
                        unfold internal_strconv_ParseUint_j5 at hM
                        refine HW.fr [(0, .string (bs s1)), (1, .int .i64 10), (2, .int .i64 bitSize), (6, .int .u64 0), (7, .nilIface), (8, .bool (decide (base = 0))), (9, .string (bs s1)), (64, .bool b_4)] ⟨e0, e1, e2, e6, e7, e8, e9, e64, trivial⟩ ?_
                        refine HW.cond b_4 rfl (fun c_11 => ?_) (fun c_11 => ?_)
                        · replace hM := hM.1 c_11
                          refine HW.seq ?_
                          refine HW.region ?_
                          refine HO.val (v := .int .i64 16) (want_none) rfl (q_assign rfl) ?_
                          refine HO.nil (thenQ_normal (?_))
                          refine HW.region ?_
                          refine HO.val (v := .string (bs s1)) (want_none) rfl (q_move rfl) ?_
                          obtain ⟨ho_7, hM⟩ := hM
                          refine HO.val (v := .string (bs (cut s1 2 (s1.length : Int)))) (want_none) rfl (q_strL Tryz.underlying9 rfl rfl ho_7) ?_
                          refine HO.val (v := .string (bs (cut s1 2 (s1.length : Int)))) (want_none) rfl (q_assign rfl) ?_
                          refine HO.nil (blockQ_normal (blockQ_normal (thenQ_normal (?_))))
                          exact ⟨F_7, cut s1 2 (s1.length : Int), 16, rfl, rfl, rfl, rfl, rfl, rfl, rfl, hK, hS, hM⟩
                        · replace hM := hM.2 c_11
                          refine HW.seq ?_
                          refine HW.region ?_
                          refine HO.val (v := .int .i64 8) (want_none) rfl (q_assign rfl) ?_
                          refine HO.nil (thenQ_normal (?_))
                          refine HW.region ?_
                          refine HO.val (v := .string (bs s1)) (want_none) rfl (q_move rfl) ?_
                          obtain ⟨ho_8, hM⟩ := hM
                          refine HO.val (v := .string (bs (cut s1 1 (s1.length : Int)))) (want_none) rfl (q_strL Tryz.underlying9 rfl rfl ho_8) ?_
                          refine HO.val (v := .string (bs (cut s1 1 (s1.length : Int)))) (want_none) rfl (q_assign rfl) ?_
                          refine HO.nil (blockQ_normal (blockQ_normal (thenQ_normal (?_))))
                          exact ⟨F_7, cut s1 1 (s1.length : Int), 8, rfl, rfl, rfl, rfl, rfl, rfl, rfl, hK, hS, hM⟩
            · replace hM := hM.2 (of_decide_eq_false c_5)
              refine HW.skip (blockQ_normal (thenQ_normal (?_)))
              exact ⟨F_1, s1, 10, rfl, rfl, rfl, rfl, rfl, rfl, rfl, hK, hS, hM⟩
          · replace hM := hM.2 (of_decide_eq_false c_4)
            refine HW.seq ?_
            refine HW.region ?_
            refine HO.val (v := .iface 120 (.int .i64 3)) (want_none) rfl (q_mkIface Tryz.underlying120 rfl) ?_
            refine HO.val (v := .int .u64 0) (want_none) rfl (q_assign rfl) ?_
            refine HO.val (v := .iface 120 (.int .i64 3)) (want_none) rfl (q_assign rfl) ?_
            refine HO.nil (thenQ_normal (?_))
            refine HW.ret (blockQ_ret (thenQ_ret (?_)))
            refine ⟨.inr rfl, .tuple #[.int .u64 0, .iface 120 (.int .i64 3)], res2 rfl (rt rfl) (rt rfl), ?_⟩
            exact ⟨F_1, 0, 3, rfl, hK, hS, hM⟩
    · rintro f_5 h_8 ⟨F_8, s_1, base_1, e0, e1, e2, e6, e7, e8, e9, hK, hS, hM⟩
      unfold internal_strconv_ParseUint_j1 at hM
      refine HW.fr [(0, .string (bs s_1)), (1, .int .i64 base_1), (2, .int .i64 bitSize), (6, .int .u64 0), (7, .nilIface), (8, .bool (decide (base = 0))), (9, .string (bs s1))] ⟨e0, e1, e2, e6, e7, e8, e9, trivial⟩ ?_
      refine HW.seq_mid (fun f h => ∃ (F' : Fz) (bitSize_1 : Int), f 0 = .string (bs s_1) ∧ f 1 = .int .i64 base_1 ∧ f 2 = .int .i64 bitSize_1 ∧ f 6 = .int .u64 0 ∧ f 7 = .nilIface ∧ f 8 = .bool (decide (base = 0)) ∧ f 9 = .string (bs s1) ∧ Kp F h0 F' h ∧ St F' (fr) h ∧ internal_strconv_ParseUint_j6 s1 base Q s_1 base_1 bitSize_1) ?_ ?_
      · refine HW.seq ?_
        refine HW.region ?_
        refine HO.val (v := .int .i64 bitSize) (want_none) rfl (q_move rfl) ?_
        refine HO.val (v := .bool (decide (bitSize = 0))) (want_none) rfl (q_eql rfl rfl) ?_
        refine HO.nil (thenQ_normal (?_))
        refine HW.cond (decide (bitSize = 0)) rfl (fun c_12 => ?_) (fun c_12 => ?_)
        · replace hM := hM.1 (of_decide_eq_true c_12)
          refine HW.region ?_
          refine HO.val (v := .int .i64 64) (want_none) rfl (q_assign rfl) ?_
          refine HO.nil (thenQ_normal (?_))
          exact ⟨F_8, 64, rfl, rfl, rfl, rfl, rfl, rfl, rfl, hK, hS, hM⟩
        · replace hM := hM.2 (of_decide_eq_false c_12)
          refine HW.seq ?_
          refine HW.region ?_
          refine HO.val (v := .int .i64 bitSize) (want_none) rfl (q_move rfl) ?_
          refine HO.val (v := .bool (decide (bitSize < 0))) (want_none) rfl (q_lss rfl rfl) ?_
          refine HO.val (v := .bool (decide (bitSize < 0))) (want_none) rfl (q_move rfl) ?_
          rcases Bool.eq_false_or_eq_true (decide (bitSize < 0)) with c_13 | c_13
          · replace hM := hM.1 (of_decide_eq_true c_13)
            refine HO.past (past_by rfl rfl c_13) rfl ?_
            refine HO.past (past_by rfl rfl c_13) rfl ?_
            refine HO.val (v := .bool true) (want_none) rfl (q_pickK true rfl c_13 rfl) ?_
            refine HO.nil (thenQ_normal (?_))
            refine HW.condT rfl ?_
            refine HW.seq ?_
            refine HW.region ?_
            refine HO.val (v := .iface 120 (.int .i64 4)) (want_none) rfl (q_mkIface Tryz.underlying120 rfl) ?_
            refine HO.val (v := .int .u64 0) (want_none) rfl (q_assign rfl) ?_
            refine HO.val (v := .iface 120 (.int .i64 4)) (want_none) rfl (q_assign rfl) ?_
            refine HO.nil (thenQ_normal (?_))
            refine HW.ret (thenQ_ret (?_))
            refine ⟨.inr rfl, .tuple #[.int .u64 0, .iface 120 (.int .i64 4)], res2 rfl (rt rfl) (rt rfl), ?_⟩
            exact ⟨F_8, 0, 4, rfl, hK, hS, hM⟩
          · replace hM := hM.2 (of_decide_eq_false c_13)
            refine HO.val (v := .int .i64 bitSize) (want_by rfl rfl c_13) rfl (q_move rfl) ?_
            refine HO.val (v := .bool (decide (64 < bitSize))) (want_by rfl rfl c_13) rfl (q_gtr rfl rfl) ?_
            refine HO.val (v := .bool (decide (64 < bitSize))) (want_none) rfl (q_pickK false rfl c_13 rfl) ?_
            refine HO.nil (thenQ_normal (?_))
            refine HW.cond (decide (64 < bitSize)) rfl (fun c_14 => ?_) (fun c_14 => ?_)
            · replace hM := hM.1 (of_decide_eq_true c_14)
              refine HW.seq ?_
              refine HW.region ?_
              refine HO.val (v := .iface 120 (.int .i64 4)) (want_none) rfl (q_mkIface Tryz.underlying120 rfl) ?_
              refine HO.val (v := .int .u64 0) (want_none) rfl (q_assign rfl) ?_
              refine HO.val (v := .iface 120 (.int .i64 4)) (want_none) rfl (q_assign rfl) ?_
              refine HO.nil (thenQ_normal (?_))
              refine HW.ret (thenQ_ret (?_))
              refine ⟨.inr rfl, .tuple #[.int .u64 0, .iface 120 (.int .i64 4)], res2 rfl (rt rfl) (rt rfl), ?_⟩
              exact ⟨F_8, 0, 4, rfl, hK, hS, hM⟩
            · replace hM := hM.2 (of_decide_eq_false c_14)
              refine HW.skip (thenQ_normal (?_))
              exact ⟨F_8, bitSize, rfl, rfl, rfl, rfl, rfl, rfl, rfl, hK, hS, hM⟩
      · rintro f_6 h_9 ⟨F_9, bitSize_1, e0, e1, e2, e6, e7, e8, e9, hK, hS, hM⟩
        unfold internal_strconv_ParseUint_j6 at hM
        refine HW.fr [(0, .string (bs s_1)), (1, .int .i64 base_1), (2, .int .i64 bitSize_1), (6, .int .u64 0), (7, .nilIface), (8, .bool (decide (base = 0))), (9, .string (bs s1))] ⟨e0, e1, e2, e6, e7, e8, e9, trivial⟩ ?_
        refine HW.seq ?_
        refine HW.region ?_
        refine HO.val (v := .int .u64 0) (want_none) rfl (q_assign rfl) ?_
        refine HO.nil (thenQ_normal (?_))
        refine HW.seq_mid (fun f h => ∃ (F' : Fz) (cutoff_1 : Int), f 0 = .string (bs s_1) ∧ f 1 = .int .i64 base_1 ∧ f 2 = .int .i64 bitSize_1 ∧ f 6 = .int .u64 0 ∧ f 7 = .nilIface ∧ f 8 = .bool (decide (base = 0)) ∧ f 9 = .string (bs s1) ∧ f 10 = .int .u64 cutoff_1 ∧ Kp F h0 F' h ∧ St F' (fr) h ∧ internal_strconv_ParseUint_j7 s1 base Q s_1 base_1 bitSize_1 cutoff_1) ?_ ?_
        · refine HW.seq ?_
          refine HW.region ?_
          refine HO.val (v := .int .i64 base_1) (want_none) rfl (q_move rfl) ?_
          refine HO.nil (thenQ_normal (?_))
          refine HW.block ?_
          refine HW.seq ?_
          refine HW.region ?_
          refine HO.val (v := .bool (decide (base_1 = 10))) (want_none) rfl (q_eql rfl rfl) ?_
          refine HO.val (v := .bool (decide (base_1 = 10))) (want_none) rfl (q_assign rfl) ?_
          refine HO.nil (thenQ_normal (?_))
          refine HW.cond (decide (base_1 = 10)) rfl (fun c_15 => ?_) (fun c_15 => ?_)
          · replace hM := hM.1 (of_decide_eq_true c_15)
            refine HW.region ?_
            refine HO.val (v := .int .u64 1844674407370955162) (want_none) rfl (q_assign rfl) ?_
            refine HO.nil (blockQ_normal (thenQ_normal (?_)))
            exact ⟨F_9, 1844674407370955162, rfl, rfl, rfl, rfl, rfl, rfl, rfl, rfl, hK, hS, hM⟩
          · replace hM := hM.2 (of_decide_eq_false c_15)
            refine HW.seq ?_
            refine HW.region ?_
            refine HO.val (v := .bool (decide (base_1 = 16))) (want_none) rfl (q_eql rfl rfl) ?_
            refine HO.val (v := .bool (decide (base_1 = 16))) (want_none) rfl (q_assign rfl) ?_
            refine HO.nil (thenQ_normal (?_))
            refine HW.cond (decide (base_1 = 16)) rfl (fun c_16 => ?_) (fun c_16 => ?_)
            · replace hM := hM.1 (of_decide_eq_true c_16)
              refine HW.region ?_
              refine HO.val (v := .int .u64 1152921504606846976) (want_none) rfl (q_assign rfl) ?_
              refine HO.nil (blockQ_normal (thenQ_normal (?_)))
              exact ⟨F_9, 1152921504606846976, rfl, rfl, rfl, rfl, rfl, rfl, rfl, rfl, hK, hS, hM⟩
            · replace hM := hM.2 (of_decide_eq_false c_16)
              refine HW.region ?_
              refine HO.val (v := .int .i64 base_1) (want_none) rfl (q_move rfl) ?_
              refine HO.val (v := .int .u64 (IntKind.u64.wrap base_1)) (want_none) rfl (q_convInt (n := base_1) Tryz.underlying3 Tryz.underlying73 rfl rfl) ?_
              obtain ⟨ho_9, hM⟩ := hM
              refine HO.val (v := .int .u64 (IntKind.u64.wrap ((18446744073709551615 : Int).tdiv (IntKind.u64.wrap base_1)))) (want_none) rfl (q_quo rfl rfl ho_9) ?_
              refine HO.val (v := .int .u64 (IntKind.u64.wrap ((IntKind.u64.wrap ((18446744073709551615 : Int).tdiv (IntKind.u64.wrap base_1))) + 1))) (want_none) rfl (q_add rfl rfl) ?_
              refine HO.val (v := .int .u64 (IntKind.u64.wrap ((IntKind.u64.wrap ((18446744073709551615 : Int).tdiv (IntKind.u64.wrap base_1))) + 1))) (want_none) rfl (q_assign rfl) ?_
              refine HO.nil (blockQ_normal (thenQ_normal (?_)))
              exact ⟨F_9, IntKind.u64.wrap ((IntKind.u64.wrap ((18446744073709551615 : Int).tdiv (IntKind.u64.wrap base_1))) + 1), rfl, rfl, rfl, rfl, rfl, rfl, rfl, rfl, hK, hS, hM⟩
        · rintro f_7 h_10 ⟨F_10, cutoff_1, e0, e1, e2, e6, e7, e8, e9, e10, hK, hS, hM⟩
          unfold internal_strconv_ParseUint_j7 at hM
          refine HW.fr [(0, .string (bs s_1)), (1, .int .i64 base_1), (2, .int .i64 bitSize_1), (6, .int .u64 0), (7, .nilIface), (8, .bool (decide (base = 0))), (9, .string (bs s1)), (10, .int .u64 cutoff_1)] ⟨e0, e1, e2, e6, e7, e8, e9, e10, trivial⟩ ?_
          refine HW.seq ?_
          refine HW.region ?_
          refine HO.val (v := .int .i64 bitSize_1) (want_none) rfl (q_move rfl) ?_
          refine HO.val (v := .int .u64 (IntKind.u64.wrap bitSize_1)) (want_none) rfl (q_convInt (n := bitSize_1) Tryz.underlying3 Tryz.underlying96 rfl rfl) ?_
          obtain ⟨ho_10, hM⟩ := hM
          refine HO.val (v := .int .u64 (IntKind.u64.wrap ((1 : Int) * 2 ^ (min (IntKind.u64.wrap bitSize_1).toNat IntKind.u64.bits)))) (want_none) rfl (q_shl rfl rfl ho_10 rfl) ?_
          refine HO.val (v := .int .u64 (IntKind.u64.wrap ((IntKind.u64.wrap ((1 : Int) * 2 ^ (min (IntKind.u64.wrap bitSize_1).toNat IntKind.u64.bits))) - 1))) (want_none) rfl (q_sub rfl rfl) ?_
          refine HO.val (v := .int .u64 (IntKind.u64.wrap ((IntKind.u64.wrap ((1 : Int) * 2 ^ (min (IntKind.u64.wrap bitSize_1).toNat IntKind.u64.bits))) - 1))) (want_none) rfl (q_assign rfl) ?_
          refine HO.nil (thenQ_normal (?_))
          refine HW.seq ?_
          refine HW.region ?_
          refine HO.val (v := .bool false) (want_none) rfl (q_assign rfl) ?_
          refine HO.nil (thenQ_normal (?_))
          refine HW.seq ?_
          refine HW.region ?_
          refine HO.val (v := .int .u64 0) (want_none) rfl (q_assign rfl) ?_
          refine HO.nil (thenQ_normal (?_))
          refine HW.seq ?_
          refine HW.seq ?_
          refine HW.region ?_
          refine HO.val (v := .string (bs s_1)) (want_none) rfl (q_move rfl) ?_
          obtain ⟨ho_11, hM⟩ := hM
          refine HO.eff (want_none) rfl (st_strBytes hS Tryz.underlying9 Tryz.underlying79 Tryz.underlying5 rfl ho_11) ?_
          rintro v_1 h_11 ⟨F_11, hS, hk, hL_1⟩
          replace hK := hK.trans hk
          refine HO.val (v := .int .i64 (s_1.length : Int)) (want_none) rfl (q_len ts_79 (shp hL_1.is) rfl rfl) ?_
          refine HO.val (v := .int .i64 0) (want_none) rfl (q_move rfl) ?_
          refine HO.nil (thenQ_normal (?_))
          refine HW.block ?_
          obtain ⟨I_1, m_1, hI_1, hR_1⟩ := hM
          refine HW.loop (S := Bool × Int × Int) (fun s f h => match s with | (underscores_1, n_1, n_2) => ∃ (F' : Fz), f 1 = .int .i64 base_1 ∧ f 6 = .int .u64 0 ∧ f 7 = .nilIface ∧ f 8 = .bool (decide (base = 0)) ∧ f 9 = .string (bs s1) ∧ f 10 = .int .u64 cutoff_1 ∧ f 11 = .int .u64 (IntKind.u64.wrap ((IntKind.u64.wrap ((1 : Int) * 2 ^ (min (IntKind.u64.wrap bitSize_1).toNat IntKind.u64.bits))) - 1)) ∧ f 12 = .bool underscores_1 ∧ f 13 = .int .u64 n_1 ∧ f 99 = v_1 ∧ f 100 = .int .i64 (s_1.length : Int) ∧ f 101 = .int .i64 n_2 ∧ Kp F h0 F' h ∧ St F' (fr) h ∧ (SliceF F' h 1 enc8 v_1 s_1) ∧ I_1 (underscores_1, n_1, n_2)) m_1 (false, 0, 0) ⟨F_11, rfl, rfl, rfl, rfl, rfl, rfl, rfl, rfl, rfl, rfl, rfl, rfl, hK, hS, hL_1, hI_1⟩ ?_
          rintro ⟨underscores_1, n_1, n_2⟩ f_8 h_12 ⟨F_12, e1, e6, e7, e8, e9, e10, e11, e12, e13, e99, e100, e101, hK, hS, hL_1, hI0⟩
          obtain ⟨K_1, hKe_1⟩ : ∃ K : Bool → Int → Int → Prop, K = fun underscores_1' n_1' n_2' => I_1 (underscores_1', n_1', n_2') ∧ m_1 (underscores_1', n_1', n_2') < m_1 (underscores_1, n_1, n_2) := ⟨_, rfl⟩
          have hM : internal_strconv_ParseUint_l1 s1 base Q s_1 base_1 bitSize_1 cutoff_1 K_1 underscores_1 n_1 n_2 := by rw [hKe_1]; exact hR_1 (underscores_1, n_1, n_2) hI0
          unfold internal_strconv_ParseUint_l1 at hM
          refine HW.fr [(1, .int .i64 base_1), (6, .int .u64 0), (7, .nilIface), (8, .bool (decide (base = 0))), (9, .string (bs s1)), (10, .int .u64 cutoff_1), (11, .int .u64 (IntKind.u64.wrap ((IntKind.u64.wrap ((1 : Int) * 2 ^ (min (IntKind.u64.wrap bitSize_1).toNat IntKind.u64.bits))) - 1))), (12, .bool underscores_1), (13, .int .u64 n_1), (99, v_1), (100, .int .i64 (s_1.length : Int)), (101, .int .i64 n_2)] ⟨e1, e6, e7, e8, e9, e10, e11, e12, e13, e99, e100, e101, trivial⟩ ?_
          refine HW.seq ?_
          refine HW.region ?_
          refine HO.val (v := .bool (decide (n_2 < (s_1.length : Int)))) (want_none) rfl (q_lss rfl rfl) ?_
          refine HO.nil (thenQ_normal (?_))
          refine HW.seq ?_
          refine HW.cond (decide (n_2 < (s_1.length : Int))) rfl (fun c_17 => ?_) (fun c_17 => ?_)
          · replace hM := hM.1 (of_decide_eq_true c_17)
            refine HW.skip (thenQ_normal (?_))
            refine HW.seq ?_
            refine HW.block ?_
            refine HW.seq ?_
            refine HW.region ?_
            obtain ⟨ho_12, hM⟩ := hM
            refine HO.val (v := elemPtr 1 v_1 (n_2).toNat) (want_none) rfl (q_idx ts_79 hL_1.is rfl rfl ho_12) ?_
            refine HO.val (v := .int .u8 ((gi s_1 n_2).toNat : Int)) (want_none) rfl (q_ldElem to_5 hL_1.is rfl ho_12 rfl) ?_
            refine HO.val (v := .int .u8 ((gi s_1 n_2).toNat : Int)) (want_none) rfl (q_assign rfl) ?_
            refine HO.nil (thenQ_normal (?_))
            refine HW.seq ?_
            refine HW.region ?_
            refine HO.val (v := .int .u8 0) (want_none) rfl (q_assign rfl) ?_
            refine HO.nil (thenQ_normal (?_))
            refine HW.seq_mid (fun f h => ∃ (F' : Fz) (d_1 : Int), f 1 = .int .i64 base_1 ∧ f 6 = .int .u64 0 ∧ f 7 = .nilIface ∧ f 8 = .bool (decide (base = 0)) ∧ f 9 = .string (bs s1) ∧ f 10 = .int .u64 cutoff_1 ∧ f 11 = .int .u64 (IntKind.u64.wrap ((IntKind.u64.wrap ((1 : Int) * 2 ^ (min (IntKind.u64.wrap bitSize_1).toNat IntKind.u64.bits))) - 1)) ∧ f 12 = .bool underscores_1 ∧ f 13 = .int .u64 n_1 ∧ f 16 = .int .u8 d_1 ∧ f 99 = v_1 ∧ f 100 = .int .i64 (s_1.length : Int) ∧ f 101 = .int .i64 n_2 ∧ Kp F h0 F' h ∧ St F' (fr) h ∧ (SliceF F' h 1 enc8 v_1 s_1) ∧ internal_strconv_ParseUint_j8 Q base_1 bitSize_1 cutoff_1 underscores_1 n_1 n_2 K_1 d_1) ?_ ?_
            · refine HW.block ?_
              refine HW.seq_mid (fun f h => ∃ (F' : Fz) (b_5 : Bool), f 1 = .int .i64 base_1 ∧ f 6 = .int .u64 0 ∧ f 7 = .nilIface ∧ f 8 = .bool (decide (base = 0)) ∧ f 9 = .string (bs s1) ∧ f 10 = .int .u64 cutoff_1 ∧ f 11 = .int .u64 (IntKind.u64.wrap ((IntKind.u64.wrap ((1 : Int) * 2 ^ (min (IntKind.u64.wrap bitSize_1).toNat IntKind.u64.bits))) - 1)) ∧ f 12 = .bool underscores_1 ∧ f 13 = .int .u64 n_1 ∧ f 15 = .int .u8 ((gi s_1 n_2).toNat : Int) ∧ f 16 = .int .u8 0 ∧ f 99 = v_1 ∧ f 100 = .int .i64 (s_1.length : Int) ∧ f 101 = .int .i64 n_2 ∧ f 106 = .bool b_5 ∧ Kp F h0 F' h ∧ St F' (fr) h ∧ (SliceF F' h 1 enc8 v_1 s_1) ∧ internal_strconv_ParseUint_j9 Q s_1 base_1 bitSize_1 cutoff_1 underscores_1 n_1 n_2 K_1 b_5) ?_ ?_
              · refine HW.region ?_
                refine HO.val (v := .int .u8 ((gi s_1 n_2).toNat : Int)) (want_none) rfl (q_move rfl) ?_
                refine HO.val (v := .bool (decide (((gi s_1 n_2).toNat : Int) = 95))) (want_none) rfl (q_eql rfl rfl) ?_
                refine HO.val (v := .bool (decide (((gi s_1 n_2).toNat : Int) = 95))) (want_none) rfl (q_move rfl) ?_
                rcases Bool.eq_false_or_eq_true (decide (((gi s_1 n_2).toNat : Int) = 95)) with c_18 | c_18
                · replace hM := hM.1 (of_decide_eq_true c_18)
                  refine HO.val (v := .bool (decide (base = 0))) (want_by rfl rfl c_18) rfl (q_move rfl) ?_
                  refine HO.val (v := .bool (decide (base = 0))) (want_none) rfl (q_pickK true rfl c_18 rfl) ?_
                  refine HO.val (v := .bool (decide (base = 0))) (want_none) rfl (q_assign rfl) ?_
                  refine HO.nil (thenQ_normal (?_))
                  exact ⟨F_12, decide (base = 0), rfl, rfl, rfl, rfl, rfl, rfl, rfl, rfl, rfl, rfl, rfl, rfl, rfl, rfl, rfl, hK, hS, hL_1, hM⟩
                · replace hM := hM.2 (of_decide_eq_false c_18)
                  refine HO.past (past_by rfl rfl c_18) rfl ?_
                  refine HO.val (v := .bool false) (want_none) rfl (q_pickK false rfl c_18 rfl) ?_
                  refine HO.val (v := .bool false) (want_none) rfl (q_assign rfl) ?_
                  refine HO.nil (thenQ_normal (?_))
                  exact ⟨F_12, false, rfl, rfl, rfl, rfl, rfl, rfl, rfl, rfl, rfl, rfl, rfl, rfl, rfl, rfl, rfl, hK, hS, hL_1, hM⟩
              · rintro f_9 h_13 ⟨F_13, b_5, e1, e6, e7, e8, e9, e10, e11, e12, e13, e15, e16, e99, e100, e101, e106, hK, hS, hL_1, hM⟩
                unfold internal_strconv_ParseUint_j9 at hM
                refine HW.fr [(1, .int .i64 base_1), (6, .int .u64 0), (7, .nilIface), (8, .bool (decide (base = 0))), (9, .string (bs s1)), (10, .int .u64 cutoff_1), (11, .int .u64 (IntKind.u64.wrap ((IntKind.u64.wrap ((1 : Int) * 2 ^ (min (IntKind.u64.wrap bitSize_1).toNat IntKind.u64.bits))) - 1))), (12, .bool underscores_1), (13, .int .u64 n_1), (15, .int .u8 ((gi s_1 n_2).toNat : Int)), (16, .int .u8 0), (99, v_1), (100, .int .i64 (s_1.length : Int)), (101, .int .i64 n_2), (106, .bool b_5)] ⟨e1, e6, e7, e8, e9, e10, e11, e12, e13, e15, e16, e99, e100, e101, e106, trivial⟩ ?_
                refine HW.cond b_5 rfl (fun c_19 => ?_) (fun c_19 => ?_)
                · replace hM := hM.1 c_19
                  refine HW.seq ?_
                  refine HW.region ?_
                  refine HO.val (v := .bool true) (want_none) rfl (q_assign rfl) ?_
                  refine HO.nil (thenQ_normal (?_))
                  refine HW.exit (blockQ_pass rfl (thenQ_exit (blockQ_exit (thenQ_normal (?_)))))
                  refine HW.region ?_
                  obtain ⟨ho_13, hM⟩ := hM
                  refine HO.val (v := .int .i64 (n_2 + 1)) (want_none) rfl (q_addN _ rfl rfl rfl ho_13.1 ho_13.2) ?_
                  refine HO.val (v := .int .i64 (n_2 + 1)) (want_none) rfl (q_move rfl) ?_
                  refine HO.nil (thenQ_normal (?_))
                  rw [hKe_1] at hM
                  exact ⟨(true, n_1, n_2 + 1), ⟨F_13, rfl, rfl, rfl, rfl, rfl, rfl, rfl, rfl, rfl, rfl, rfl, rfl, hK, hS, hL_1, hM.1⟩, hM.2⟩
                · replace hM := hM.2 c_19
                  refine HW.seq_mid (fun f h => ∃ (F' : Fz) (b_6 : Bool), f 1 = .int .i64 base_1 ∧ f 6 = .int .u64 0 ∧ f 7 = .nilIface ∧ f 8 = .bool (decide (base = 0)) ∧ f 9 = .string (bs s1) ∧ f 10 = .int .u64 cutoff_1 ∧ f 11 = .int .u64 (IntKind.u64.wrap ((IntKind.u64.wrap ((1 : Int) * 2 ^ (min (IntKind.u64.wrap bitSize_1).toNat IntKind.u64.bits))) - 1)) ∧ f 12 = .bool underscores_1 ∧ f 13 = .int .u64 n_1 ∧ f 15 = .int .u8 ((gi s_1 n_2).toNat : Int) ∧ f 16 = .int .u8 0 ∧ f 99 = v_1 ∧ f 100 = .int .i64 (s_1.length : Int) ∧ f 101 = .int .i64 n_2 ∧ f 112 = .bool b_6 ∧ Kp F h0 F' h ∧ St F' (fr) h ∧ (SliceF F' h 1 enc8 v_1 s_1) ∧ internal_strconv_ParseUint_j10 Q s_1 base_1 bitSize_1 cutoff_1 underscores_1 n_1 n_2 K_1 b_6) ?_ ?_
                  · refine HW.region ?_
                    refine HO.val (v := .int .u8 ((gi s_1 n_2).toNat : Int)) (want_none) rfl (q_move rfl) ?_
                    refine HO.val (v := .bool (decide (48 ≤ ((gi s_1 n_2).toNat : Int)))) (want_none) rfl (q_leq rfl rfl) ?_
                    refine HO.val (v := .bool (decide (48 ≤ ((gi s_1 n_2).toNat : Int)))) (want_none) rfl (q_move rfl) ?_
                    rcases Bool.eq_false_or_eq_true (decide (48 ≤ ((gi s_1 n_2).toNat : Int))) with c_20 | c_20
                    · replace hM := hM.1 (of_decide_eq_true c_20)
                      refine HO.val (v := .int .u8 ((gi s_1 n_2).toNat : Int)) (want_by rfl rfl c_20) rfl (q_move rfl) ?_
                      refine HO.val (v := .bool (decide (((gi s_1 n_2).toNat : Int) ≤ 57))) (want_by rfl rfl c_20) rfl (q_leq rfl rfl) ?_
                      refine HO.val (v := .bool (decide (((gi s_1 n_2).toNat : Int) ≤ 57))) (want_none) rfl (q_pickK true rfl c_20 rfl) ?_
                      refine HO.val (v := .bool (decide (((gi s_1 n_2).toNat : Int) ≤ 57))) (want_none) rfl (q_assign rfl) ?_
                      refine HO.nil (thenQ_normal (?_))
                      exact ⟨F_13, decide (((gi s_1 n_2).toNat : Int) ≤ 57), rfl, rfl, rfl, rfl, rfl, rfl, rfl, rfl, rfl, rfl, rfl, rfl, rfl, rfl, rfl, hK, hS, hL_1, hM⟩
                    · replace hM := hM.2 (of_decide_eq_false c_20)
                      refine HO.past (past_by rfl rfl c_20) rfl ?_
                      refine HO.past (past_by rfl rfl c_20) rfl ?_
                      refine HO.val (v := .bool false) (want_none) rfl (q_pickK false rfl c_20 rfl) ?_
                      refine HO.val (v := .bool false) (want_none) rfl (q_assign rfl) ?_
                      refine HO.nil (thenQ_normal (?_))
                      exact ⟨F_13, false, rfl, rfl, rfl, rfl, rfl, rfl, rfl, rfl, rfl, rfl, rfl, rfl, rfl, rfl, rfl, hK, hS, hL_1, hM⟩
                  · rintro f_10 h_14 ⟨F_14, b_6, e1, e6, e7, e8, e9, e10, e11, e12, e13, e15, e16, e99, e100, e101, e112, hK, hS, hL_1, hM⟩
                    unfold internal_strconv_ParseUint_j10 at hM
                    refine HW.fr [(1, .int .i64 base_1), (6, .int .u64 0), (7, .nilIface), (8, .bool (decide (base = 0))), (9, .string (bs s1)), (10, .int .u64 cutoff_1), (11, .int .u64 (IntKind.u64.wrap ((IntKind.u64.wrap ((1 : Int) * 2 ^ (min (IntKind.u64.wrap bitSize_1).toNat IntKind.u64.bits))) - 1))), (12, .bool underscores_1), (13, .int .u64 n_1), (15, .int .u8 ((gi s_1 n_2).toNat : Int)), (16, .int .u8 0), (99, v_1), (100, .int .i64 (s_1.length : Int)), (101, .int .i64 n_2), (112, .bool b_6)] ⟨e1, e6, e7, e8, e9, e10, e11, e12, e13, e15, e16, e99, e100, e101, e112, trivial⟩ ?_
                    refine HW.cond b_6 rfl (fun c_21 => ?_) (fun c_21 => ?_)
                    · replace hM := hM.1 c_21
                      refine HW.region ?_
                      refine HO.val (v := .int .u8 ((gi s_1 n_2).toNat : Int)) (want_none) rfl (q_move rfl) ?_
                      refine HO.val (v := .int .u8 ((u8w (((gi s_1 n_2).toNat : Int) - 48)).toNat : Int)) (want_none) rfl ((q_sub rfl rfl).of_eq (u8w_v _)) ?_
                      refine HO.val (v := .int .u8 ((u8w (((gi s_1 n_2).toNat : Int) - 48)).toNat : Int)) (want_none) rfl (q_assign rfl) ?_
                      refine HO.nil (blockQ_normal (thenQ_normal (?_)))
                      exact ⟨F_14, ((u8w (((gi s_1 n_2).toNat : Int) - 48)).toNat : Int), rfl, rfl, rfl, rfl, rfl, rfl, rfl, rfl, rfl, rfl, rfl, rfl, rfl, hK, hS, hL_1, hM⟩
                    · replace hM := hM.2 c_21
                      refine HW.seq_mid (fun f h => ∃ (F' : Fz) (b_7 : Bool), f 1 = .int .i64 base_1 ∧ f 6 = .int .u64 0 ∧ f 7 = .nilIface ∧ f 8 = .bool (decide (base = 0)) ∧ f 9 = .string (bs s1) ∧ f 10 = .int .u64 cutoff_1 ∧ f 11 = .int .u64 (IntKind.u64.wrap ((IntKind.u64.wrap ((1 : Int) * 2 ^ (min (IntKind.u64.wrap bitSize_1).toNat IntKind.u64.bits))) - 1)) ∧ f 12 = .bool underscores_1 ∧ f 13 = .int .u64 n_1 ∧ f 15 = .int .u8 ((gi s_1 n_2).toNat : Int) ∧ f 16 = .int .u8 0 ∧ f 99 = v_1 ∧ f 100 = .int .i64 (s_1.length : Int) ∧ f 101 = .int .i64 n_2 ∧ f 121 = .bool b_7 ∧ Kp F h0 F' h ∧ St F' (fr) h ∧ (SliceF F' h 1 enc8 v_1 s_1) ∧ internal_strconv_ParseUint_j11 Q s_1 base_1 bitSize_1 cutoff_1 underscores_1 n_1 n_2 K_1 b_7) ?_ ?_
                      · refine HW.region ?_
                        refine HO.val (v := .int .u8 ((gi s_1 n_2).toNat : Int)) (want_none) rfl (q_move rfl) ?_
                        refine HO.call (want_none) rfl (ec en_110 rfl rfl) (internal_strconv_lower_walk (fr := (fr)) ((gi s_1 n_2).toNat : Int) hS hM) ?_
                        rintro _ h_15 ⟨F_15, r_4, rfl, hk, hS, hM⟩
                        replace hK := hK.trans hk
                        replace hL_1 := hL_1.kp hk
                        refine HO.val (v := .bool (decide (97 ≤ r_4))) (want_none) rfl (q_leq rfl rfl) ?_
                        refine HO.val (v := .bool (decide (97 ≤ r_4))) (want_none) rfl (q_move rfl) ?_
                        rcases Bool.eq_false_or_eq_true (decide (97 ≤ r_4)) with c_22 | c_22
                        · replace hM := hM.1 (of_decide_eq_true c_22)
                          refine HO.val (v := .int .u8 ((gi s_1 n_2).toNat : Int)) (want_by rfl rfl c_22) rfl (q_move rfl) ?_
                          refine HO.call (want_by rfl rfl c_22) rfl (ec en_110 rfl rfl) (internal_strconv_lower_walk (fr := (fr)) ((gi s_1 n_2).toNat : Int) hS hM) ?_
                          rintro _ h_16 ⟨F_16, r_5, rfl, hk, hS, hM⟩
                          replace hK := hK.trans hk
                          replace hL_1 := hL_1.kp hk
                          refine HO.val (v := .bool (decide (r_5 ≤ 122))) (want_by rfl rfl c_22) rfl (q_leq rfl rfl) ?_
                          refine HO.val (v := .bool (decide (r_5 ≤ 122))) (want_none) rfl (q_pickK true rfl c_22 rfl) ?_
                          refine HO.val (v := .bool (decide (r_5 ≤ 122))) (want_none) rfl (q_assign rfl) ?_
                          refine HO.nil (thenQ_normal (?_))
                          exact ⟨F_16, decide (r_5 ≤ 122), rfl, rfl, rfl, rfl, rfl, rfl, rfl, rfl, rfl, rfl, rfl, rfl, rfl, rfl, rfl, hK, hS, hL_1, hM⟩
                        · replace hM := hM.2 (of_decide_eq_false c_22)
                          refine HO.past (past_by rfl rfl c_22) rfl ?_
                          refine HO.past (past_by rfl rfl c_22) rfl ?_
                          refine HO.past (past_by rfl rfl c_22) rfl ?_
                          refine HO.val (v := .bool false) (want_none) rfl (q_pickK false rfl c_22 rfl) ?_
                          refine HO.val (v := .bool false) (want_none) rfl (q_assign rfl) ?_
                          refine HO.nil (thenQ_normal (?_))
                          exact ⟨F_15, false, rfl, rfl, rfl, rfl, rfl, rfl, rfl, rfl, rfl, rfl, rfl, rfl, rfl, rfl, rfl, hK, hS, hL_1, hM⟩
                      · rintro f_11 h_17 ⟨F_17, b_7, e1, e6, e7, e8, e9, e10, e11, e12, e13, e15, e16, e99, e100, e101, e121, hK, hS, hL_1, hM⟩
                        unfold internal_strconv_ParseUint_j11 at hM
                        refine HW.fr [(1, .int .i64 base_1), (6, .int .u64 0), (7, .nilIface), (8, .bool (decide (base = 0))), (9, .string (bs s1)), (10, .int .u64 cutoff_1), (11, .int .u64 (IntKind.u64.wrap ((IntKind.u64.wrap ((1 : Int) * 2 ^ (min (IntKind.u64.wrap bitSize_1).toNat IntKind.u64.bits))) - 1))), (12, .bool underscores_1), (13, .int .u64 n_1), (15, .int .u8 ((gi s_1 n_2).toNat : Int)), (16, .int .u8 0), (99, v_1), (100, .int .i64 (s_1.length : Int)), (101, .int .i64 n_2), (121, .bool b_7)] ⟨e1, e6, e7, e8, e9, e10, e11, e12, e13, e15, e16, e99, e100, e101, e121, trivial⟩ ?_
                        refine HW.cond b_7 rfl (fun c_23 => ?_) (fun c_23 => ?_)
                        · replace hM := hM.1 c_23
                          refine HW.region ?_
                          refine HO.val (v := .int .u8 ((gi s_1 n_2).toNat : Int)) (want_none) rfl (q_move rfl) ?_
                          refine HO.call (want_none) rfl (ec en_110 rfl rfl) (internal_strconv_lower_walk (fr := (fr)) ((gi s_1 n_2).toNat : Int) hS hM) ?_
                          rintro _ h_18 ⟨F_18, r_6, rfl, hk, hS, hM⟩
                          replace hK := hK.trans hk
                          replace hL_1 := hL_1.kp hk
                          refine HO.val (v := .int .u8 ((u8w (r_6 - 97)).toNat : Int)) (want_none) rfl ((q_sub rfl rfl).of_eq (u8w_v _)) ?_
                          refine HO.val (v := .int .u8 ((u8w (((u8w (r_6 - 97)).toNat : Int) + 10)).toNat : Int)) (want_none) rfl ((q_add rfl rfl).of_eq (u8w_v _)) ?_
                          refine HO.val (v := .int .u8 ((u8w (((u8w (r_6 - 97)).toNat : Int) + 10)).toNat : Int)) (want_none) rfl (q_assign rfl) ?_
                          refine HO.nil (blockQ_normal (thenQ_normal (?_)))
                          exact ⟨F_18, ((u8w (((u8w (r_6 - 97)).toNat : Int) + 10)).toNat : Int), rfl, rfl, rfl, rfl, rfl, rfl, rfl, rfl, rfl, rfl, rfl, rfl, rfl, hK, hS, hL_1, hM⟩
                        · replace hM := hM.2 c_23
                          refine HW.seq ?_
                          refine HW.region ?_
                          refine HO.val (v := .iface 120 (.int .i64 2)) (want_none) rfl (q_mkIface Tryz.underlying120 rfl) ?_
                          refine HO.val (v := .int .u64 0) (want_none) rfl (q_assign rfl) ?_
                          refine HO.val (v := .iface 120 (.int .i64 2)) (want_none) rfl (q_assign rfl) ?_
                          refine HO.nil (thenQ_normal (?_))
                          refine HW.ret (blockQ_ret (thenQ_ret (blockQ_ret (thenQ_ret (thenQ_ret (blockQ_ret (thenQ_ret (?_))))))))
                          refine ⟨.inr rfl, .tuple #[.int .u64 0, .iface 120 (.int .i64 2)], res2 rfl (rt rfl) (rt rfl), ?_⟩
                          exact ⟨F_17, 0, 2, rfl, hK, hS, hM⟩
            · rintro f_12 h_19 ⟨F_19, d_1, e1, e6, e7, e8, e9, e10, e11, e12, e13, e16, e99, e100, e101, hK, hS, hL_1, hM⟩
              unfold internal_strconv_ParseUint_j8 at hM
              refine HW.fr [(1, .int .i64 base_1), (6, .int .u64 0), (7, .nilIface), (8, .bool (decide (base = 0))), (9, .string (bs s1)), (10, .int .u64 cutoff_1), (11, .int .u64 (IntKind.u64.wrap ((IntKind.u64.wrap ((1 : Int) * 2 ^ (min (IntKind.u64.wrap bitSize_1).toNat IntKind.u64.bits))) - 1))), (12, .bool underscores_1), (13, .int .u64 n_1), (16, .int .u8 d_1), (99, v_1), (100, .int .i64 (s_1.length : Int)), (101, .int .i64 n_2)] ⟨e1, e6, e7, e8, e9, e10, e11, e12, e13, e16, e99, e100, e101, trivial⟩ ?_
              refine HW.seq ?_
              refine HW.seq ?_
              refine HW.region ?_
              refine HO.val (v := .int .u8 d_1) (want_none) rfl (q_move rfl) ?_
              refine HO.val (v := .int .i64 base_1) (want_none) rfl (q_move rfl) ?_
              refine HO.val (v := .int .u8 ((u8w base_1).toNat : Int)) (want_none) rfl ((q_convInt (n := base_1) Tryz.underlying3 Tryz.underlying5 rfl rfl).of_eq (u8w_v _)) ?_
              refine HO.val (v := .bool (decide (((u8w base_1).toNat : Int) ≤ d_1))) (want_none) rfl (q_geq rfl rfl) ?_
              refine HO.nil (thenQ_normal (?_))
              refine HW.cond (decide (((u8w base_1).toNat : Int) ≤ d_1)) rfl (fun c_24 => ?_) (fun c_24 => ?_)
              · replace hM := hM.1 (of_decide_eq_true c_24)
                refine HW.seq ?_
                refine HW.region ?_
                refine HO.val (v := .iface 120 (.int .i64 2)) (want_none) rfl (q_mkIface Tryz.underlying120 rfl) ?_
                refine HO.val (v := .int .u64 0) (want_none) rfl (q_assign rfl) ?_
                refine HO.val (v := .iface 120 (.int .i64 2)) (want_none) rfl (q_assign rfl) ?_
                refine HO.nil (thenQ_normal (?_))
                refine HW.ret (thenQ_ret (blockQ_ret (thenQ_ret (thenQ_ret (blockQ_ret (thenQ_ret (?_)))))))
                refine ⟨.inr rfl, .tuple #[.int .u64 0, .iface 120 (.int .i64 2)], res2 rfl (rt rfl) (rt rfl), ?_⟩
                exact ⟨F_19, 0, 2, rfl, hK, hS, hM⟩
              · replace hM := hM.2 (of_decide_eq_false c_24)
                refine HW.skip (thenQ_normal (?_))
                refine HW.seq ?_
                refine HW.seq ?_
                refine HW.region ?_
                refine HO.val (v := .int .u64 n_1) (want_none) rfl (q_move rfl) ?_
                refine HO.val (v := .int .u64 cutoff_1) (want_none) rfl (q_move rfl) ?_
                refine HO.val (v := .bool (decide (cutoff_1 ≤ n_1))) (want_none) rfl (q_geq rfl rfl) ?_
                refine HO.nil (thenQ_normal (?_))
                refine HW.cond (decide (cutoff_1 ≤ n_1)) rfl (fun c_25 => ?_) (fun c_25 => ?_)
                · replace hM := hM.1 (of_decide_eq_true c_25)
                  refine HW.seq ?_
                  refine HW.region ?_
                  refine HO.val (v := .int .u64 (IntKind.u64.wrap ((IntKind.u64.wrap ((1 : Int) * 2 ^ (min (IntKind.u64.wrap bitSize_1).toNat IntKind.u64.bits))) - 1))) (want_none) rfl (q_move rfl) ?_
                  refine HO.val (v := .iface 120 (.int .i64 1)) (want_none) rfl (q_mkIface Tryz.underlying120 rfl) ?_
                  refine HO.val (v := .int .u64 (IntKind.u64.wrap ((IntKind.u64.wrap ((1 : Int) * 2 ^ (min (IntKind.u64.wrap bitSize_1).toNat IntKind.u64.bits))) - 1))) (want_none) rfl (q_assign rfl) ?_
                  refine HO.val (v := .iface 120 (.int .i64 1)) (want_none) rfl (q_assign rfl) ?_
                  refine HO.nil (thenQ_normal (?_))
                  refine HW.ret (thenQ_ret (blockQ_ret (thenQ_ret (thenQ_ret (blockQ_ret (thenQ_ret (?_)))))))
                  refine ⟨.inr rfl, .tuple #[.int .u64 (IntKind.u64.wrap ((IntKind.u64.wrap ((1 : Int) * 2 ^ (min (IntKind.u64.wrap bitSize_1).toNat IntKind.u64.bits))) - 1)), .iface 120 (.int .i64 1)], res2 rfl (rt rfl) (rt rfl), ?_⟩
                  exact ⟨F_19, IntKind.u64.wrap ((IntKind.u64.wrap ((1 : Int) * 2 ^ (min (IntKind.u64.wrap bitSize_1).toNat IntKind.u64.bits))) - 1), 1, rfl, hK, hS, hM⟩
                · replace hM := hM.2 (of_decide_eq_false c_25)
                  refine HW.skip (thenQ_normal (?_))
                  refine HW.seq ?_
                  refine HW.region ?_
                  refine HO.val (v := .int .u64 n_1) (want_none) rfl (q_move rfl) ?_
                  refine HO.val (v := .int .i64 base_1) (want_none) rfl (q_move rfl) ?_
                  refine HO.val (v := .int .u64 (IntKind.u64.wrap base_1)) (want_none) rfl (q_convInt (n := base_1) Tryz.underlying3 Tryz.underlying73 rfl rfl) ?_
                  refine HO.val (v := .int .u64 (IntKind.u64.wrap (n_1 * (IntKind.u64.wrap base_1)))) (want_none) rfl (q_mul rfl rfl) ?_
                  refine HO.val (v := .int .u64 (IntKind.u64.wrap (n_1 * (IntKind.u64.wrap base_1)))) (want_none) rfl (q_assign rfl) ?_
                  refine HO.nil (thenQ_normal (?_))
                  refine HW.seq ?_
                  refine HW.region ?_
                  refine HO.val (v := .int .u64 (IntKind.u64.wrap (n_1 * (IntKind.u64.wrap base_1)))) (want_none) rfl (q_move rfl) ?_
                  refine HO.val (v := .int .u8 d_1) (want_none) rfl (q_move rfl) ?_
                  refine HO.val (v := .int .u64 (IntKind.u64.wrap d_1)) (want_none) rfl (q_convInt (n := d_1) Tryz.underlying5 Tryz.underlying73 rfl rfl) ?_
                  refine HO.val (v := .int .u64 (IntKind.u64.wrap ((IntKind.u64.wrap (n_1 * (IntKind.u64.wrap base_1))) + (IntKind.u64.wrap d_1)))) (want_none) rfl (q_add rfl rfl) ?_
                  refine HO.val (v := .int .u64 (IntKind.u64.wrap ((IntKind.u64.wrap (n_1 * (IntKind.u64.wrap base_1))) + (IntKind.u64.wrap d_1)))) (want_none) rfl (q_assign rfl) ?_
                  refine HO.nil (thenQ_normal (?_))
                  refine HW.seq ?_
                  refine HW.seq_mid (fun f h => ∃ (F' : Fz) (b_8 : Bool), f 1 = .int .i64 base_1 ∧ f 6 = .int .u64 0 ∧ f 7 = .nilIface ∧ f 8 = .bool (decide (base = 0)) ∧ f 9 = .string (bs s1) ∧ f 10 = .int .u64 cutoff_1 ∧ f 11 = .int .u64 (IntKind.u64.wrap ((IntKind.u64.wrap ((1 : Int) * 2 ^ (min (IntKind.u64.wrap bitSize_1).toNat IntKind.u64.bits))) - 1)) ∧ f 12 = .bool underscores_1 ∧ f 13 = .int .u64 (IntKind.u64.wrap (n_1 * (IntKind.u64.wrap base_1))) ∧ f 17 = .int .u64 (IntKind.u64.wrap ((IntKind.u64.wrap (n_1 * (IntKind.u64.wrap base_1))) + (IntKind.u64.wrap d_1))) ∧ f 99 = v_1 ∧ f 100 = .int .i64 (s_1.length : Int) ∧ f 101 = .int .i64 n_2 ∧ f 159 = .bool b_8 ∧ Kp F h0 F' h ∧ St F' (fr) h ∧ (SliceF F' h 1 enc8 v_1 s_1) ∧ internal_strconv_ParseUint_j12 Q base_1 bitSize_1 underscores_1 n_1 n_2 K_1 d_1 b_8) ?_ ?_
                  · refine HW.region ?_
                    refine HO.val (v := .int .u64 (IntKind.u64.wrap ((IntKind.u64.wrap (n_1 * (IntKind.u64.wrap base_1))) + (IntKind.u64.wrap d_1)))) (want_none) rfl (q_move rfl) ?_
                    refine HO.val (v := .int .u64 (IntKind.u64.wrap (n_1 * (IntKind.u64.wrap base_1)))) (want_none) rfl (q_move rfl) ?_
                    refine HO.val (v := .bool (decide ((IntKind.u64.wrap ((IntKind.u64.wrap (n_1 * (IntKind.u64.wrap base_1))) + (IntKind.u64.wrap d_1))) < (IntKind.u64.wrap (n_1 * (IntKind.u64.wrap base_1)))))) (want_none) rfl (q_lss rfl rfl) ?_
                    refine HO.val (v := .bool (decide ((IntKind.u64.wrap ((IntKind.u64.wrap (n_1 * (IntKind.u64.wrap base_1))) + (IntKind.u64.wrap d_1))) < (IntKind.u64.wrap (n_1 * (IntKind.u64.wrap base_1)))))) (want_none) rfl (q_move rfl) ?_
                    rcases Bool.eq_false_or_eq_true (decide ((IntKind.u64.wrap ((IntKind.u64.wrap (n_1 * (IntKind.u64.wrap base_1))) + (IntKind.u64.wrap d_1))) < (IntKind.u64.wrap (n_1 * (IntKind.u64.wrap base_1))))) with c_26 | c_26
                    · replace hM := hM.1 (of_decide_eq_true c_26)
                      refine HO.past (past_by rfl rfl c_26) rfl ?_
                      refine HO.past (past_by rfl rfl c_26) rfl ?_
                      refine HO.past (past_by rfl rfl c_26) rfl ?_
                      refine HO.val (v := .bool true) (want_none) rfl (q_pickK true rfl c_26 rfl) ?_
                      refine HO.nil (thenQ_normal (?_))
                      exact ⟨F_19, true, rfl, rfl, rfl, rfl, rfl, rfl, rfl, rfl, rfl, rfl, rfl, rfl, rfl, rfl, hK, hS, hL_1, hM⟩
                    · replace hM := hM.2 (of_decide_eq_false c_26)
                      refine HO.val (v := .int .u64 (IntKind.u64.wrap ((IntKind.u64.wrap (n_1 * (IntKind.u64.wrap base_1))) + (IntKind.u64.wrap d_1)))) (want_by rfl rfl c_26) rfl (q_move rfl) ?_
                      refine HO.val (v := .int .u64 (IntKind.u64.wrap ((IntKind.u64.wrap ((1 : Int) * 2 ^ (min (IntKind.u64.wrap bitSize_1).toNat IntKind.u64.bits))) - 1))) (want_by rfl rfl c_26) rfl (q_move rfl) ?_
                      refine HO.val (v := .bool (decide ((IntKind.u64.wrap ((IntKind.u64.wrap ((1 : Int) * 2 ^ (min (IntKind.u64.wrap bitSize_1).toNat IntKind.u64.bits))) - 1)) < (IntKind.u64.wrap ((IntKind.u64.wrap (n_1 * (IntKind.u64.wrap base_1))) + (IntKind.u64.wrap d_1)))))) (want_by rfl rfl c_26) rfl (q_gtr rfl rfl) ?_
                      refine HO.val (v := .bool (decide ((IntKind.u64.wrap ((IntKind.u64.wrap ((1 : Int) * 2 ^ (min (IntKind.u64.wrap bitSize_1).toNat IntKind.u64.bits))) - 1)) < (IntKind.u64.wrap ((IntKind.u64.wrap (n_1 * (IntKind.u64.wrap base_1))) + (IntKind.u64.wrap d_1)))))) (want_none) rfl (q_pickK false rfl c_26 rfl) ?_
                      refine HO.nil (thenQ_normal (?_))
                      exact ⟨F_19, decide ((IntKind.u64.wrap ((IntKind.u64.wrap ((1 : Int) * 2 ^ (min (IntKind.u64.wrap bitSize_1).toNat IntKind.u64.bits))) - 1)) < (IntKind.u64.wrap ((IntKind.u64.wrap (n_1 * (IntKind.u64.wrap base_1))) + (IntKind.u64.wrap d_1)))), rfl, rfl, rfl, rfl, rfl, rfl, rfl, rfl, rfl, rfl, rfl, rfl, rfl, rfl, hK, hS, hL_1, hM⟩
                  · rintro f_13 h_20 ⟨F_20, b_8, e1, e6, e7, e8, e9, e10, e11, e12, e13, e17, e99, e100, e101, e159, hK, hS, hL_1, hM⟩
                    unfold internal_strconv_ParseUint_j12 at hM
                    refine HW.fr [(1, .int .i64 base_1), (6, .int .u64 0), (7, .nilIface), (8, .bool (decide (base = 0))), (9, .string (bs s1)), (10, .int .u64 cutoff_1), (11, .int .u64 (IntKind.u64.wrap ((IntKind.u64.wrap ((1 : Int) * 2 ^ (min (IntKind.u64.wrap bitSize_1).toNat IntKind.u64.bits))) - 1))), (12, .bool underscores_1), (13, .int .u64 (IntKind.u64.wrap (n_1 * (IntKind.u64.wrap base_1)))), (17, .int .u64 (IntKind.u64.wrap ((IntKind.u64.wrap (n_1 * (IntKind.u64.wrap base_1))) + (IntKind.u64.wrap d_1)))), (99, v_1), (100, .int .i64 (s_1.length : Int)), (101, .int .i64 n_2), (159, .bool b_8)] ⟨e1, e6, e7, e8, e9, e10, e11, e12, e13, e17, e99, e100, e101, e159, trivial⟩ ?_
                    refine HW.cond b_8 rfl (fun c_27 => ?_) (fun c_27 => ?_)
                    · replace hM := hM.1 c_27
                      refine HW.seq ?_
                      refine HW.region ?_
                      refine HO.val (v := .int .u64 (IntKind.u64.wrap ((IntKind.u64.wrap ((1 : Int) * 2 ^ (min (IntKind.u64.wrap bitSize_1).toNat IntKind.u64.bits))) - 1))) (want_none) rfl (q_move rfl) ?_
                      refine HO.val (v := .iface 120 (.int .i64 1)) (want_none) rfl (q_mkIface Tryz.underlying120 rfl) ?_
                      refine HO.val (v := .int .u64 (IntKind.u64.wrap ((IntKind.u64.wrap ((1 : Int) * 2 ^ (min (IntKind.u64.wrap bitSize_1).toNat IntKind.u64.bits))) - 1))) (want_none) rfl (q_assign rfl) ?_
                      refine HO.val (v := .iface 120 (.int .i64 1)) (want_none) rfl (q_assign rfl) ?_
                      refine HO.nil (thenQ_normal (?_))
                      refine HW.ret (thenQ_ret (blockQ_ret (thenQ_ret (thenQ_ret (blockQ_ret (thenQ_ret (?_)))))))
                      refine ⟨.inr rfl, .tuple #[.int .u64 (IntKind.u64.wrap ((IntKind.u64.wrap ((1 : Int) * 2 ^ (min (IntKind.u64.wrap bitSize_1).toNat IntKind.u64.bits))) - 1)), .iface 120 (.int .i64 1)], res2 rfl (rt rfl) (rt rfl), ?_⟩
                      exact ⟨F_20, IntKind.u64.wrap ((IntKind.u64.wrap ((1 : Int) * 2 ^ (min (IntKind.u64.wrap bitSize_1).toNat IntKind.u64.bits))) - 1), 1, rfl, hK, hS, hM⟩
                    · replace hM := hM.2 c_27
                      refine HW.skip (thenQ_normal (?_))
                      refine HW.region ?_
                      refine HO.val (v := .int .u64 (IntKind.u64.wrap ((IntKind.u64.wrap (n_1 * (IntKind.u64.wrap base_1))) + (IntKind.u64.wrap d_1)))) (want_none) rfl (q_move rfl) ?_
                      refine HO.val (v := .int .u64 (IntKind.u64.wrap ((IntKind.u64.wrap (n_1 * (IntKind.u64.wrap base_1))) + (IntKind.u64.wrap d_1)))) (want_none) rfl (q_assign rfl) ?_
                      refine HO.nil (blockQ_normal (thenQ_normal (?_)))
                      refine HW.region ?_
                      obtain ⟨ho_14, hM⟩ := hM
                      refine HO.val (v := .int .i64 (n_2 + 1)) (want_none) rfl (q_addN _ rfl rfl rfl ho_14.1 ho_14.2) ?_
                      refine HO.val (v := .int .i64 (n_2 + 1)) (want_none) rfl (q_move rfl) ?_
                      refine HO.nil (thenQ_normal (?_))
                      rw [hKe_1] at hM
                      exact ⟨(underscores_1, IntKind.u64.wrap ((IntKind.u64.wrap (n_1 * (IntKind.u64.wrap base_1))) + (IntKind.u64.wrap d_1)), n_2 + 1), ⟨F_20, rfl, rfl, rfl, rfl, rfl, rfl, rfl, rfl, rfl, rfl, rfl, rfl, hK, hS, hL_1, hM.1⟩, hM.2⟩
          · replace hM := hM.2 (of_decide_eq_false c_17)
            refine HW.exit (thenQ_exit (thenQ_exit (blockQ_exit (thenQ_normal (?_)))))
            refine HW.seq ?_
            refine HW.seq_mid (fun f h => ∃ (F' : Fz) (b_9 : Bool), f 6 = .int .u64 0 ∧ f 7 = .nilIface ∧ f 13 = .int .u64 n_1 ∧ f 169 = .bool b_9 ∧ Kp F h0 F' h ∧ St F' (fr) h ∧ (SliceF F' h 1 enc8 v_1 s_1) ∧ internal_strconv_ParseUint_j13 Q n_1 b_9) ?_ ?_
            · refine HW.region ?_
              refine HO.val (v := .bool underscores_1) (want_none) rfl (q_move rfl) ?_
              refine HO.val (v := .bool underscores_1) (want_none) rfl (q_move rfl) ?_
              rcases Bool.eq_false_or_eq_true underscores_1 with c_28 | c_28
              · replace hM := hM.1 c_28
                refine HO.val (v := .string (bs s1)) (want_by rfl rfl c_28) rfl (q_move rfl) ?_
                refine HO.call (want_by rfl rfl c_28) rfl (ec en_111 rfl rfl) (internal_strconv_underscoreOK_walk (fr := (fr)) s1 hS hM) ?_
                rintro _ h_21 ⟨F_21, r_7, rfl, hk, hS, hM⟩
                replace hK := hK.trans hk
                replace hL_1 := hL_1.kp hk
                refine HO.val (v := .bool (!r_7)) (want_by rfl rfl c_28) rfl (q_not rfl) ?_
                refine HO.val (v := .bool (!r_7)) (want_none) rfl (q_pickK true rfl c_28 rfl) ?_
                refine HO.nil (thenQ_normal (?_))
                exact ⟨F_21, !r_7, rfl, rfl, rfl, rfl, hK, hS, hL_1, hM⟩
              · replace hM := hM.2 c_28
                refine HO.past (past_by rfl rfl c_28) rfl ?_
                refine HO.past (past_by rfl rfl c_28) rfl ?_
                refine HO.past (past_by rfl rfl c_28) rfl ?_
                refine HO.val (v := .bool false) (want_none) rfl (q_pickK false rfl c_28 rfl) ?_
                refine HO.nil (thenQ_normal (?_))
                exact ⟨F_12, false, rfl, rfl, rfl, rfl, hK, hS, hL_1, hM⟩
            · rintro f_14 h_22 ⟨F_22, b_9, e6, e7, e13, e169, hK, hS, hL_1, hM⟩
              unfold internal_strconv_ParseUint_j13 at hM
              refine HW.fr [(6, .int .u64 0), (7, .nilIface), (13, .int .u64 n_1), (169, .bool b_9)] ⟨e6, e7, e13, e169, trivial⟩ ?_
              refine HW.cond b_9 rfl (fun c_29 => ?_) (fun c_29 => ?_)
              · replace hM := hM.1 c_29
                refine HW.seq ?_
                refine HW.region ?_
                refine HO.val (v := .iface 120 (.int .i64 2)) (want_none) rfl (q_mkIface Tryz.underlying120 rfl) ?_
                refine HO.val (v := .int .u64 0) (want_none) rfl (q_assign rfl) ?_
                refine HO.val (v := .iface 120 (.int .i64 2)) (want_none) rfl (q_assign rfl) ?_
                refine HO.nil (thenQ_normal (?_))
                refine HW.ret (thenQ_ret (?_))
                refine ⟨.inr rfl, .tuple #[.int .u64 0, .iface 120 (.int .i64 2)], res2 rfl (rt rfl) (rt rfl), ?_⟩
                exact ⟨F_22, 0, 2, rfl, hK, hS, hM⟩
              · replace hM := hM.2 c_29
                refine HW.skip (thenQ_normal (?_))
                refine HW.seq ?_
                refine HW.region ?_
                refine HO.val (v := .int .u64 n_1) (want_none) rfl (q_move rfl) ?_
                refine HO.val (v := .int .u64 n_1) (want_none) rfl (q_assign rfl) ?_
                refine HO.val (v := .nilIface) (want_none) rfl (q_assign rfl) ?_
                refine HO.nil (thenQ_normal (?_))
                refine HW.ret (?_)
                refine ⟨.inr rfl, .tuple #[.int .u64 n_1, .nilIface], res2 rfl (rt rfl) (rt rfl), ?_⟩
                exact ⟨F_22, n_1, 0, rfl, hK, hS, hM⟩
end Go.Wk
