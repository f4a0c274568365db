/- Walks of Host and Proxy. -/
import Derived.Test.YtmbkoonblmfdpaaGreatTxt
import Derived.Test.YtmbkoonblmfdpaaGreatNest
import Derived.Test.YtmbkoonblmfdpaaGreatTight
import Derived.Test.YtmbkoonblmfdpaaGreatKy
import Derived.Test.YtmbkoonblmfdpaaGreatNm
import Derived.Test.YtmbkoonblmfdpaaGreatLayHz
import Derived.Test.YtmbkoonblmfdpaaGreatProg
import Derived.Test.YtmbkoonblmfdpaaGreatGrw
import Derived.Test.YtmbkoonblmfdpaaGreatIfs
set_option linter.unusedSimpArgs false
set_option linter.unusedVariables false
set_option linter.unusedSectionVars false
set_option maxHeartbeats 40000000
set_option maxRecDepth 100000
namespace Go.Wk
open Go.HL
open Go.Proofs hiding encI
variable [DM]
abbrev T_api_Addr := Bool × Ba 16
abbrev T_api_Filter := Bool × (Value × List T_api_Addr)
abbrev T_api_Record := Int × T_api_Addr × (Value × List T_api_Addr)
abbrev T_api_Talk := Bool × Int × Int × Int × T_api_Addr × Bool × Int × Int × (Value × List T_api_Addr) × (Value × List T_api_Record)
abbrev T_api_Tune := Int × Int × Int × Int × Int
def e_api_Addr (x : T_api_Addr) : List Value := [.bool x.1, .int .u8 (b8 x.2 0), .int .u8 (b8 x.2 1), .int .u8 (b8 x.2 2), .int .u8 (b8 x.2 3), .int .u8 (b8 x.2 4), .int .u8 (b8 x.2 5), .int .u8 (b8 x.2 6), .int .u8 (b8 x.2 7), .int .u8 (b8 x.2 8), .int .u8 (b8 x.2 9), .int .u8 (b8 x.2 10), .int .u8 (b8 x.2 11), .int .u8 (b8 x.2 12), .int .u8 (b8 x.2 13), .int .u8 (b8 x.2 14), .int .u8 (b8 x.2 15)]
def nf_api_Filter : Nf T_api_Filter := ((Nf.sl 17 e_api_Addr).on fun x : T_api_Filter => x.2)
def z_api_Filter : T_api_Filter := (false, (.slice none 0 0, []))
def e_api_Record (x : T_api_Record) : List Value := [.int .i64 x.1, .bool x.2.1.1, .int .u8 (b8 x.2.1.2 0), .int .u8 (b8 x.2.1.2 1), .int .u8 (b8 x.2.1.2 2), .int .u8 (b8 x.2.1.2 3), .int .u8 (b8 x.2.1.2 4), .int .u8 (b8 x.2.1.2 5), .int .u8 (b8 x.2.1.2 6), .int .u8 (b8 x.2.1.2 7), .int .u8 (b8 x.2.1.2 8), .int .u8 (b8 x.2.1.2 9), .int .u8 (b8 x.2.1.2 10), .int .u8 (b8 x.2.1.2 11), .int .u8 (b8 x.2.1.2 12), .int .u8 (b8 x.2.1.2 13), .int .u8 (b8 x.2.1.2 14), .int .u8 (b8 x.2.1.2 15), x.2.2.1]
def nf_api_Record : Nf T_api_Record := ((Nf.sl 17 e_api_Addr).on fun x : T_api_Record => x.2.2)
def c_api_Record (a0 : Value) (a1 : T_api_Addr) (a2 : Value) : List Value := [a0, .bool a1.1, .int .u8 (b8 a1.2 0), .int .u8 (b8 a1.2 1), .int .u8 (b8 a1.2 2), .int .u8 (b8 a1.2 3), .int .u8 (b8 a1.2 4), .int .u8 (b8 a1.2 5), .int .u8 (b8 a1.2 6), .int .u8 (b8 a1.2 7), .int .u8 (b8 a1.2 8), .int .u8 (b8 a1.2 9), .int .u8 (b8 a1.2 10), .int .u8 (b8 a1.2 11), .int .u8 (b8 a1.2 12), .int .u8 (b8 a1.2 13), .int .u8 (b8 a1.2 14), .int .u8 (b8 a1.2 15), a2]
def c_api_Talk (a0 : Value) (a1 : Value) (a2 : Value) (a3 : Value) (a4 : T_api_Addr) (a5 : Value) (a6 : Value) (a7 : Value) (a8 : Value) (a9 : Value) : List Value := [a0, a1, a2, a3, .bool a4.1, .int .u8 (b8 a4.2 0), .int .u8 (b8 a4.2 1), .int .u8 (b8 a4.2 2), .int .u8 (b8 a4.2 3), .int .u8 (b8 a4.2 4), .int .u8 (b8 a4.2 5), .int .u8 (b8 a4.2 6), .int .u8 (b8 a4.2 7), .int .u8 (b8 a4.2 8), .int .u8 (b8 a4.2 9), .int .u8 (b8 a4.2 10), .int .u8 (b8 a4.2 11), .int .u8 (b8 a4.2 12), .int .u8 (b8 a4.2 13), .int .u8 (b8 a4.2 14), .int .u8 (b8 a4.2 15), a5, a6, a7, a8, a9]
def e_api_Talk (x : T_api_Talk) : List Value := [.bool x.1, .int .i64 x.2.1, .int .i64 x.2.2.1, .int .i64 x.2.2.2.1, .bool x.2.2.2.2.1.1, .int .u8 (b8 x.2.2.2.2.1.2 0), .int .u8 (b8 x.2.2.2.2.1.2 1), .int .u8 (b8 x.2.2.2.2.1.2 2), .int .u8 (b8 x.2.2.2.2.1.2 3), .int .u8 (b8 x.2.2.2.2.1.2 4), .int .u8 (b8 x.2.2.2.2.1.2 5), .int .u8 (b8 x.2.2.2.2.1.2 6), .int .u8 (b8 x.2.2.2.2.1.2 7), .int .u8 (b8 x.2.2.2.2.1.2 8), .int .u8 (b8 x.2.2.2.2.1.2 9), .int .u8 (b8 x.2.2.2.2.1.2 10), .int .u8 (b8 x.2.2.2.2.1.2 11), .int .u8 (b8 x.2.2.2.2.1.2 12), .int .u8 (b8 x.2.2.2.2.1.2 13), .int .u8 (b8 x.2.2.2.2.1.2 14), .int .u8 (b8 x.2.2.2.2.1.2 15), .bool x.2.2.2.2.2.1, .int .i64 x.2.2.2.2.2.2.1, .int .i64 x.2.2.2.2.2.2.2.1, x.2.2.2.2.2.2.2.2.1.1, x.2.2.2.2.2.2.2.2.2.1]
def nf_api_Talk : Nf T_api_Talk := (((Nf.sl 17 e_api_Addr).on fun x : T_api_Talk => x.2.2.2.2.2.2.2.2.1).and (((Nf.sl 19 e_api_Record).on fun x : T_api_Talk => x.2.2.2.2.2.2.2.2.2).and ((Nf.all nf_api_Record).on fun x : T_api_Talk => x.2.2.2.2.2.2.2.2.2.2)))
def hz_api_Talk (x : T_api_Talk) : T_api_Talk := (x.1, x.2.1, x.2.2.1, x.2.2.2.1, x.2.2.2.2.1, x.2.2.2.2.2.1, x.2.2.2.2.2.2.1, x.2.2.2.2.2.2.2.1, x.2.2.2.2.2.2.2.2.1, (.slice none 0 0, []))
def e_api_Tune (x : T_api_Tune) : List Value := [.int .i64 x.1, .int .i64 x.2.1, .int .i64 x.2.2.1, .int .i64 x.2.2.2.1, .int .i64 x.2.2.2.2]
theorem one_e_api_Addr (x : T_api_Addr) : ∀ v ∈ e_api_Addr x, v.oneCell' = true := by intro v hv; simp [e_api_Addr] at hv; rcases hv with rfl | rfl | rfl | rfl | rfl | rfl | rfl | rfl | rfl | rfl | rfl | rfl | rfl | rfl | rfl | rfl | rfl <;> rfl
theorem nfm_api_Filter {F : Fz} {h : Heap} (x : T_api_Filter) (s0 : SliceF F h 17 e_api_Addr x.2.1 x.2.2) : (nf_api_Filter).p F h x := s0
theorem nff_api_Filter_1 {F : Fz} {h : Heap} {x : T_api_Filter} (s : (nf_api_Filter).p F h x) : SliceF F h 17 e_api_Addr x.2.1 x.2.2 := s
theorem tz_28 : TZero Tryz.prog 28 (.agg #[.bool false, .int .u8 0, .int .u8 0, .int .u8 0, .int .u8 0, .int .u8 0, .int .u8 0, .int .u8 0, .int .u8 0, .int .u8 0, .int .u8 0, .int .u8 0, .int .u8 0, .int .u8 0, .int .u8 0, .int .u8 0, .int .u8 0]) := Tryz.zeroValue28
theorem ts_29 : TSlice Tryz.prog 29 28 17 := ⟨Tryz.underlying29, Tryz.sizeOf28⟩
theorem tl_29 : TLit Tryz.prog 29 28 17 #[.bool false, .int .u8 0, .int .u8 0, .int .u8 0, .int .u8 0, .int .u8 0, .int .u8 0, .int .u8 0, .int .u8 0, .int .u8 0, .int .u8 0, .int .u8 0, .int .u8 0, .int .u8 0, .int .u8 0, .int .u8 0, .int .u8 0] := tlit ts_29 tz_28 rfl
theorem ta_28 : TAgg Tryz.prog 28 17 := ⟨Tryz.isAgg28, Tryz.sizeOf28⟩
theorem te_29 : TElem Tryz.prog 29 28 17 17 := ⟨Tryz.underlying29, ⟨Tryz.t28, .agg #[.bool false, .int .u8 0, .int .u8 0, .int .u8 0, .int .u8 0, .int .u8 0, .int .u8 0, .int .u8 0, .int .u8 0, .int .u8 0, .int .u8 0, .int .u8 0, .int .u8 0, .int .u8 0, .int .u8 0, .int .u8 0, .int .u8 0], by kernel_rfl, by kernel_rfl, by kernel_rfl, by kernel_rfl, by kernel_rfl⟩, by decide⟩
theorem nfm_api_Record {F : Fz} {h : Heap} (x : T_api_Record) (s0 : SliceF F h 17 e_api_Addr x.2.2.1 x.2.2.2) : (nf_api_Record).p F h x := s0
theorem nff_api_Record_18 {F : Fz} {h : Heap} {x : T_api_Record} (s : (nf_api_Record).p F h x) : SliceF F h 17 e_api_Addr x.2.2.1 x.2.2.2 := s
theorem nfi_api_Record_18 {h : Heap} {x : T_api_Record} (s : (nf_api_Record).q h x) : SliceIs h 17 e_api_Addr x.2.2.1 x.2.2.2 := s
theorem nfo_api_Record {h : Heap} {x : T_api_Record} (s : (nf_api_Record).q h x) : ∀ u ∈ e_api_Record x, u.oneCell' = true := by
  intro u hu; simp [e_api_Record] at hu; rcases hu with rfl | rfl | rfl | rfl | rfl | rfl | rfl | rfl | rfl | rfl | rfl | rfl | rfl | rfl | rfl | rfl | rfl | rfl | rfl
  · rfl
  · rfl
  · rfl
  · rfl
  · rfl
  · rfl
  · rfl
  · rfl
  · rfl
  · rfl
  · rfl
  · rfl
  · rfl
  · rfl
  · rfl
  · rfl
  · rfl
  · rfl
  · exact (shp (nfi_api_Record_18 s)).one
theorem tz_89 : TZero Tryz.prog 89 (.agg #[.int .i64 0, .bool false, .int .u8 0, .int .u8 0, .int .u8 0, .int .u8 0, .int .u8 0, .int .u8 0, .int .u8 0, .int .u8 0, .int .u8 0, .int .u8 0, .int .u8 0, .int .u8 0, .int .u8 0, .int .u8 0, .int .u8 0, .int .u8 0, .slice none 0 0]) := Tryz.zeroValue89
theorem ts_22 : TSlice Tryz.prog 22 89 19 := ⟨Tryz.underlying22, Tryz.sizeOf89⟩
theorem tl_22 : TLit Tryz.prog 22 89 19 #[.int .i64 0, .bool false, .int .u8 0, .int .u8 0, .int .u8 0, .int .u8 0, .int .u8 0, .int .u8 0, .int .u8 0, .int .u8 0, .int .u8 0, .int .u8 0, .int .u8 0, .int .u8 0, .int .u8 0, .int .u8 0, .int .u8 0, .int .u8 0, .slice none 0 0] := tlit ts_22 tz_89 rfl
theorem fa_89_0 : FieldAt Tryz.prog 89 0 0 := fun a w => by kernel_rfl
theorem to_3 : TOne Tryz.prog 3 := ⟨Tryz.isAgg3, Tryz.sizeOf3⟩
theorem fa_89_1 : FieldAt Tryz.prog 89 1 1 := fun a w => by kernel_rfl
theorem fa_89_2 : FieldAt Tryz.prog 89 2 18 := fun a w => by kernel_rfl
theorem to_29 : TOne Tryz.prog 29 := ⟨Tryz.isAgg29, Tryz.sizeOf29⟩
theorem en_38 (args : Array Value) (w : World) : (callFunc 38 args).run Tryz.prog w = .ok (.enter 38 args) w := by kernel_rfl
theorem tp_89 : TPlaces Tryz.prog 89 #[(0, 1), (1, 17), (18, 1)] #[.int .i64 0, .bool false, .int .u8 0, .int .u8 0, .int .u8 0, .int .u8 0, .int .u8 0, .int .u8 0, .int .u8 0, .int .u8 0, .int .u8 0, .int .u8 0, .int .u8 0, .int .u8 0, .int .u8 0, .int .u8 0, .int .u8 0, .int .u8 0, .slice none 0 0] := tplaces Tryz.runUnderlying89 Tryz.zeroValue89 rfl (fun w => by kernel_rfl)
theorem te_22 : TElem Tryz.prog 22 89 19 56 := ⟨Tryz.underlying22, ⟨Tryz.t89, .agg #[.int .i64 0, .bool false, .int .u8 0, .int .u8 0, .int .u8 0, .int .u8 0, .int .u8 0, .int .u8 0, .int .u8 0, .int .u8 0, .int .u8 0, .int .u8 0, .int .u8 0, .int .u8 0, .int .u8 0, .int .u8 0, .int .u8 0, .int .u8 0, .slice none 0 0], by kernel_rfl, by kernel_rfl, by kernel_rfl, by kernel_rfl, by kernel_rfl⟩, by decide⟩
theorem mixed : Tryz.prog.follows .mixedOrders = true := by kernel_rfl
theorem fa_28_0 : FieldAt Tryz.prog 28 0 0 := fun a w => by kernel_rfl
theorem to_4 : TOne Tryz.prog 4 := ⟨Tryz.isAgg4, Tryz.sizeOf4⟩
theorem fa_28_1 : FieldAt Tryz.prog 28 1 1 := fun a w => by kernel_rfl
theorem to_5 : TOne Tryz.prog 5 := ⟨Tryz.isAgg5, Tryz.sizeOf5⟩
theorem tr_26 : TArr Tryz.prog 26 16 5 := ⟨Tryz.underlying26, to_5, Tryz.underlying5, ⟨Tryz.t5, by kernel_rfl⟩, by kernel_rfl⟩
theorem en_67 (args : Array Value) (w : World) : (callFunc 67 args).run Tryz.prog w = .ok (.enter 67 args) w := by kernel_rfl
theorem en_90 (args : Array Value) (w : World) : (callFunc 90 args).run Tryz.prog w = .ok (.enter 90 args) w := by kernel_rfl
theorem en_136 (args : Array Value) (w : World) : (callFunc 136 args).run Tryz.prog w = .ok (.enter 136 args) w := by kernel_rfl
theorem en_137 (args : Array Value) (w : World) : (callFunc 137 args).run Tryz.prog w = .ok (.enter 137 args) w := by kernel_rfl
theorem en_46 (args : Array Value) (w : World) : (callFunc 46 args).run Tryz.prog w = .ok (.enter 46 args) w := by kernel_rfl
theorem fa_31_0 : FieldAt Tryz.prog 31 0 0 := fun a w => by kernel_rfl
theorem fa_31_1 : FieldAt Tryz.prog 31 1 1 := fun a w => by kernel_rfl
theorem fa_31_2 : FieldAt Tryz.prog 31 2 2 := fun a w => by kernel_rfl
theorem fa_31_5 : FieldAt Tryz.prog 31 5 21 := fun a w => by kernel_rfl
theorem fa_31_6 : FieldAt Tryz.prog 31 6 22 := fun a w => by kernel_rfl
theorem fa_31_7 : FieldAt Tryz.prog 31 7 23 := fun a w => by kernel_rfl
theorem fa_31_8 : FieldAt Tryz.prog 31 8 24 := fun a w => by kernel_rfl
theorem fa_31_3 : FieldAt Tryz.prog 31 3 3 := fun a w => by kernel_rfl
theorem fa_31_9 : FieldAt Tryz.prog 31 9 25 := fun a w => by kernel_rfl
theorem to_22 : TOne Tryz.prog 22 := ⟨Tryz.isAgg22, Tryz.sizeOf22⟩
theorem ta_89 : TAgg Tryz.prog 89 19 := ⟨Tryz.isAgg89, Tryz.sizeOf89⟩
theorem en_88 (args : Array Value) (w : World) : (callFunc 88 args).run Tryz.prog w = .ok (.enter 88 args) w := by kernel_rfl
theorem en_89 (args : Array Value) (w : World) : (callFunc 89 args).run Tryz.prog w = .ok (.enter 89 args) w := by kernel_rfl
theorem fa_31_4 : FieldAt Tryz.prog 31 4 4 := fun a w => by kernel_rfl
theorem en_91 (args : Array Value) (w : World) : (callFunc 91 args).run Tryz.prog w = .ok (.enter 91 args) w := by kernel_rfl
theorem en_93 (args : Array Value) (w : World) : (callFunc 93 args).run Tryz.prog w = .ok (.enter 93 args) w := by kernel_rfl
theorem en_92 (args : Array Value) (w : World) : (callFunc 92 args).run Tryz.prog w = .ok (.enter 92 args) w := by kernel_rfl
theorem en_95 (args : Array Value) (w : World) : (callFunc 95 args).run Tryz.prog w = .ok (.enter 95 args) w := by kernel_rfl
theorem en_94 (args : Array Value) (w : World) : (callFunc 94 args).run Tryz.prog w = .ok (.enter 94 args) w := by kernel_rfl
theorem en_66 (args : Array Value) (w : World) : (callFunc 66 args).run Tryz.prog w = .ok (.enter 66 args) w := by kernel_rfl
theorem tp_28 : TPlaces Tryz.prog 28 #[(0, 1), (1, 16)] #[.bool false, .int .u8 0, .int .u8 0, .int .u8 0, .int .u8 0, .int .u8 0, .int .u8 0, .int .u8 0, .int .u8 0, .int .u8 0, .int .u8 0, .int .u8 0, .int .u8 0, .int .u8 0, .int .u8 0, .int .u8 0, .int .u8 0] := tplaces Tryz.runUnderlying28 Tryz.zeroValue28 rfl (fun w => by kernel_rfl)
theorem en_96 (args : Array Value) (w : World) : (callFunc 96 args).run Tryz.prog w = .ok (.enter 96 args) w := by kernel_rfl
theorem en_97 (args : Array Value) (w : World) : (callFunc 97 args).run Tryz.prog w = .ok (.enter 97 args) w := by kernel_rfl
theorem teq_26 (d : Nat) (a b : Ba 16) (w : World) : (Op.equalIn (d + 2) 26 (.agg (arrCells a).toArray) (.agg (arrCells b).toArray)).run Tryz.prog w = .ok (decide (a = b)) w := teqArr tr_26 d a b w
theorem teq_28 (d : Nat) (a b : T_api_Addr) (w : World) : (Op.equalIn (d + 3) 28 (.agg (e_api_Addr a).toArray) (.agg (e_api_Addr b).toArray)).run Tryz.prog w = .ok (decide (a = b)) w := by
  refine (eqs w (d + 2) 28 _ _ Tryz.underlying28 (by kernel_rfl) (eqf_cons w (a := .bool a.1) (b := .bool b.1) (by decide) (by kernel_rfl) (by kernel_rfl) (run_equalIn_bool' w _ _ _ _ Tryz.underlying4) (eqf_cons w (a := .agg (arrCells a.2).toArray) (b := .agg (arrCells b.2).toArray) (by decide) (by kernel_rfl) (by kernel_rfl) (teq_26 (d + 0) _ _ w) (eqf_nil w)))).trans ?_
  congr 1; rw [Bool.eq_iff_iff]; simp [Prod.ext_iff]
theorem en_98 (args : Array Value) (w : World) : (callFunc 98 args).run Tryz.prog w = .ok (.enter 98 args) w := by kernel_rfl
theorem ta_31 : TAgg Tryz.prog 31 26 := ⟨Tryz.isAgg31, Tryz.sizeOf31⟩
theorem en_39 (args : Array Value) (w : World) : (callFunc 39 args).run Tryz.prog w = .ok (.enter 39 args) w := by kernel_rfl
theorem en_40 (args : Array Value) (w : World) : (callFunc 40 args).run Tryz.prog w = .ok (.enter 40 args) w := by kernel_rfl
theorem tp_97 : TPlaces Tryz.prog 97 #[(0, 1), (1, 1), (2, 1), (3, 1), (4, 1)] #[.bool false, .int .i64 0, .map none, .int .i64 0, .int .i64 0] := tplaces Tryz.runUnderlying97 Tryz.zeroValue97 rfl (fun w => by kernel_rfl)
theorem tz_26 : TZero Tryz.prog 26 (.agg #[.int .u8 0, .int .u8 0, .int .u8 0, .int .u8 0, .int .u8 0, .int .u8 0, .int .u8 0, .int .u8 0, .int .u8 0, .int .u8 0, .int .u8 0, .int .u8 0, .int .u8 0, .int .u8 0, .int .u8 0, .int .u8 0]) := Tryz.zeroValue26
theorem tb_26 : TBuildA Tryz.prog 26 #[.int .u8 0, .int .u8 0, .int .u8 0, .int .u8 0, .int .u8 0, .int .u8 0, .int .u8 0, .int .u8 0, .int .u8 0, .int .u8 0, .int .u8 0, .int .u8 0, .int .u8 0, .int .u8 0, .int .u8 0, .int .u8 0] := tbuildA tr_26 tz_26 rfl
theorem fa_97_1 : FieldAt Tryz.prog 97 1 1 := fun a w => by kernel_rfl
theorem en_101 (args : Array Value) (w : World) : (callFunc 101 args).run Tryz.prog w = .ok (.enter 101 args) w := by kernel_rfl
theorem en_102 (args : Array Value) (w : World) : (callFunc 102 args).run Tryz.prog w = .ok (.enter 102 args) w := by kernel_rfl
theorem en_166 (args : Array Value) (w : World) : (callFunc 166 args).run Tryz.prog w = .ok (.enter 166 args) w := by kernel_rfl
theorem ts_184 : TSlice Tryz.prog 184 5 1 := ⟨Tryz.underlying184, Tryz.sizeOf5⟩
theorem en_156 (args : Array Value) (w : World) : (callFunc 156 args).run Tryz.prog w = .ok (.enter 156 args) w := by kernel_rfl
theorem tz_5 : TZero Tryz.prog 5 (.int .u8 0) := Tryz.zeroValue5
theorem tl_184 : TLit Tryz.prog 184 5 1 #[.int .u8 0] := tlit ts_184 tz_5 rfl
theorem en_138 (args : Array Value) (w : World) : (callFunc 138 args).run Tryz.prog w = .ok (.enter 138 args) w := by kernel_rfl
theorem en_103 (args : Array Value) (w : World) : (callFunc 103 args).run Tryz.prog w = .ok (.enter 103 args) w := by kernel_rfl
theorem to_42 : TOne Tryz.prog 42 := ⟨Tryz.isAgg42, Tryz.sizeOf42⟩
theorem fa_97_0 : FieldAt Tryz.prog 97 0 0 := fun a w => by kernel_rfl
theorem en_139 (args : Array Value) (w : World) : (callFunc 139 args).run Tryz.prog w = .ok (.enter 139 args) w := by kernel_rfl
theorem en_105 (args : Array Value) (w : World) : (callFunc 105 args).run Tryz.prog w = .ok (.enter 105 args) w := by kernel_rfl
theorem en_104 (args : Array Value) (w : World) : (callFunc 104 args).run Tryz.prog w = .ok (.enter 104 args) w := by kernel_rfl
theorem en_141 (args : Array Value) (w : World) : (callFunc 141 args).run Tryz.prog w = .ok (.enter 141 args) w := by kernel_rfl
theorem en_140 (args : Array Value) (w : World) : (callFunc 140 args).run Tryz.prog w = .ok (.enter 140 args) w := by kernel_rfl
theorem en_48 (args : Array Value) (w : World) : (callFunc 48 args).run Tryz.prog w = .ok (.enter 48 args) w := by kernel_rfl
theorem en_106 (args : Array Value) (w : World) : (callFunc 106 args).run Tryz.prog w = .ok (.enter 106 args) w := by kernel_rfl
theorem fa_50_0 : FieldAt Tryz.prog 50 0 0 := fun a w => by kernel_rfl
theorem fa_50_1 : FieldAt Tryz.prog 50 1 1 := fun a w => by kernel_rfl
theorem ta_50 : TAgg Tryz.prog 50 2 := ⟨Tryz.isAgg50, Tryz.sizeOf50⟩
theorem en_107 (args : Array Value) (w : World) : (callFunc 107 args).run Tryz.prog w = .ok (.enter 107 args) w := by kernel_rfl
theorem tz_50 : TZero Tryz.prog 50 (.agg #[.bool false, .slice none 0 0]) := Tryz.zeroValue50
theorem en_100 (args : Array Value) (w : World) : (callFunc 100 args).run Tryz.prog w = .ok (.enter 100 args) w := by kernel_rfl
theorem tp_50 : TPlaces Tryz.prog 50 #[(0, 1), (1, 1)] #[.bool false, .slice none 0 0] := tplaces Tryz.runUnderlying50 Tryz.zeroValue50 rfl (fun w => by kernel_rfl)
theorem en_114 (args : Array Value) (w : World) : (callFunc 114 args).run Tryz.prog w = .ok (.enter 114 args) w := by kernel_rfl
theorem fa_97_3 : FieldAt Tryz.prog 97 3 3 := fun a w => by kernel_rfl
theorem fa_97_4 : FieldAt Tryz.prog 97 4 4 := fun a w => by kernel_rfl
theorem en_113 (args : Array Value) (w : World) : (callFunc 113 args).run Tryz.prog w = .ok (.enter 113 args) w := by kernel_rfl
theorem tz_29 : TZero Tryz.prog 29 (.slice none 0 0) := Tryz.zeroValue29
theorem en_178 (args : Array Value) (w : World) : (callFunc 178 args).run Tryz.prog w = .ok (.enter 178 args) w := by kernel_rfl
theorem en_165 (args : Array Value) (w : World) : (callFunc 165 args).run Tryz.prog w = .ok (.enter 165 args) w := by kernel_rfl
theorem en_158 (args : Array Value) (w : World) : (callFunc 158 args).run Tryz.prog w = .ok (.enter 158 args) w := by kernel_rfl
theorem en_142 (args : Array Value) (w : World) : (callFunc 142 args).run Tryz.prog w = .ok (.enter 142 args) w := by kernel_rfl
theorem nfn_api_Talk_25 {F : Fz} {h : Heap} {x : T_api_Talk} (s : (nf_api_Talk).p F h x) : NfL nf_api_Record F h x.2.2.2.2.2.2.2.2.2.2 := (show _ ∧ _ from s).2.2
theorem nfj_api_Talk_25 {h : Heap} {x : T_api_Talk} (s : (nf_api_Talk).q h x) : NfI nf_api_Record h x.2.2.2.2.2.2.2.2.2.2 := (show _ ∧ _ from s).2.2
theorem nfm_api_Talk {F : Fz} {h : Heap} (x : T_api_Talk) (s0 : SliceF F h 17 e_api_Addr x.2.2.2.2.2.2.2.2.1.1 x.2.2.2.2.2.2.2.2.1.2) (s1 : SliceF F h 19 e_api_Record x.2.2.2.2.2.2.2.2.2.1 x.2.2.2.2.2.2.2.2.2.2) (s2 : NfL nf_api_Record F h x.2.2.2.2.2.2.2.2.2.2) : (nf_api_Talk).p F h x := ⟨s0, s1, s2⟩
theorem nff_api_Talk_24 {F : Fz} {h : Heap} {x : T_api_Talk} (s : (nf_api_Talk).p F h x) : SliceF F h 17 e_api_Addr x.2.2.2.2.2.2.2.2.1.1 x.2.2.2.2.2.2.2.2.1.2 := (show _ ∧ _ from s).1
theorem nfi_api_Talk_24 {h : Heap} {x : T_api_Talk} (s : (nf_api_Talk).q h x) : SliceIs h 17 e_api_Addr x.2.2.2.2.2.2.2.2.1.1 x.2.2.2.2.2.2.2.2.1.2 := (show _ ∧ _ from s).1
theorem nff_api_Talk_25 {F : Fz} {h : Heap} {x : T_api_Talk} (s : (nf_api_Talk).p F h x) : SliceF F h 19 e_api_Record x.2.2.2.2.2.2.2.2.2.1 x.2.2.2.2.2.2.2.2.2.2 := (show _ ∧ _ from s).2.1
theorem nfi_api_Talk_25 {h : Heap} {x : T_api_Talk} (s : (nf_api_Talk).q h x) : SliceIs h 19 e_api_Record x.2.2.2.2.2.2.2.2.2.1 x.2.2.2.2.2.2.2.2.2.2 := (show _ ∧ _ from s).2.1
theorem nfo_api_Talk {h : Heap} {x : T_api_Talk} (s : (nf_api_Talk).q h x) : ∀ u ∈ e_api_Talk x, u.oneCell' = true := by
  intro u hu; simp [e_api_Talk] at hu; rcases hu with rfl | rfl | rfl | rfl | rfl | rfl | rfl | rfl | rfl | rfl | rfl | rfl | rfl | rfl | rfl | rfl | rfl | rfl | rfl | rfl | rfl | rfl | rfl | rfl | rfl | rfl
  · rfl
  · rfl
  · rfl
  · rfl
  · rfl
  · rfl
  · rfl
  · rfl
  · rfl
  · rfl
  · rfl
  · rfl
  · rfl
  · rfl
  · rfl
  · rfl
  · rfl
  · rfl
  · rfl
  · rfl
  · rfl
  · rfl
  · rfl
  · rfl
  · exact (shp (nfi_api_Talk_24 s)).one
  · exact (shp (nfi_api_Talk_25 s)).one
theorem en_99 (args : Array Value) (w : World) : (callFunc 99 args).run Tryz.prog w = .ok (.enter 99 args) w := by kernel_rfl
theorem ts_33 : TSlice Tryz.prog 33 31 26 := ⟨Tryz.underlying33, Tryz.sizeOf31⟩
theorem en_61 (args : Array Value) (w : World) : (callFunc 61 args).run Tryz.prog w = .ok (.enter 61 args) w := by kernel_rfl
theorem tp_31 : TPlaces Tryz.prog 31 #[(0, 1), (1, 1), (2, 1), (3, 1), (4, 17), (21, 1), (22, 1), (23, 1), (24, 1), (25, 1)] #[.bool false, .int .i64 0, .int .i64 0, .int .i64 0, .bool false, .int .u8 0, .int .u8 0, .int .u8 0, .int .u8 0, .int .u8 0, .int .u8 0, .int .u8 0, .int .u8 0, .int .u8 0, .int .u8 0, .int .u8 0, .int .u8 0, .int .u8 0, .int .u8 0, .int .u8 0, .int .u8 0, .bool false, .int .i64 0, .int .i64 0, .slice none 0 0, .slice none 0 0] := tplaces Tryz.runUnderlying31 Tryz.zeroValue31 rfl (fun w => by kernel_rfl)
theorem tz_31 : TZero Tryz.prog 31 (.agg #[.bool false, .int .i64 0, .int .i64 0, .int .i64 0, .bool false, .int .u8 0, .int .u8 0, .int .u8 0, .int .u8 0, .int .u8 0, .int .u8 0, .int .u8 0, .int .u8 0, .int .u8 0, .int .u8 0, .int .u8 0, .int .u8 0, .int .u8 0, .int .u8 0, .int .u8 0, .int .u8 0, .bool false, .int .i64 0, .int .i64 0, .slice none 0 0, .slice none 0 0]) := Tryz.zeroValue31
theorem tl_33 : TLit Tryz.prog 33 31 26 #[.bool false, .int .i64 0, .int .i64 0, .int .i64 0, .bool false, .int .u8 0, .int .u8 0, .int .u8 0, .int .u8 0, .int .u8 0, .int .u8 0, .int .u8 0, .int .u8 0, .int .u8 0, .int .u8 0, .int .u8 0, .int .u8 0, .int .u8 0, .int .u8 0, .int .u8 0, .int .u8 0, .bool false, .int .i64 0, .int .i64 0, .slice none 0 0, .slice none 0 0] := tlit ts_33 tz_31 rfl
theorem te_33 : TElem Tryz.prog 33 31 26 120 := ⟨Tryz.underlying33, ⟨Tryz.t31, .agg #[.bool false, .int .i64 0, .int .i64 0, .int .i64 0, .bool false, .int .u8 0, .int .u8 0, .int .u8 0, .int .u8 0, .int .u8 0, .int .u8 0, .int .u8 0, .int .u8 0, .int .u8 0, .int .u8 0, .int .u8 0, .int .u8 0, .int .u8 0, .int .u8 0, .int .u8 0, .int .u8 0, .bool false, .int .i64 0, .int .i64 0, .slice none 0 0, .slice none 0 0], by kernel_rfl, by kernel_rfl, by kernel_rfl, by kernel_rfl, by kernel_rfl⟩, by decide⟩
theorem en_60 (args : Array Value) (w : World) : (callFunc 60 args).run Tryz.prog w = .ok (.enter 60 args) w := by kernel_rfl
theorem en_108 (args : Array Value) (w : World) : (callFunc 108 args).run Tryz.prog w = .ok (.enter 108 args) w := by kernel_rfl
theorem en_42 (args : Array Value) (w : World) : (callFunc 42 args).run Tryz.prog w = .ok (.enter 42 args) w := by kernel_rfl
theorem en_53 (args : Array Value) (w : World) : (callFunc 53 args).run Tryz.prog w = .ok (.enter 53 args) w := by kernel_rfl
theorem en_62 (args : Array Value) (w : World) : (callFunc 62 args).run Tryz.prog w = .ok (.enter 62 args) w := by kernel_rfl
theorem en_47 (args : Array Value) (w : World) : (callFunc 47 args).run Tryz.prog w = .ok (.enter 47 args) w := by kernel_rfl
theorem en_49 (args : Array Value) (w : World) : (callFunc 49 args).run Tryz.prog w = .ok (.enter 49 args) w := by kernel_rfl
theorem en_50 (args : Array Value) (w : World) : (callFunc 50 args).run Tryz.prog w = .ok (.enter 50 args) w := by kernel_rfl
theorem en_51 (args : Array Value) (w : World) : (callFunc 51 args).run Tryz.prog w = .ok (.enter 51 args) w := by kernel_rfl
theorem en_52 (args : Array Value) (w : World) : (callFunc 52 args).run Tryz.prog w = .ok (.enter 52 args) w := by kernel_rfl
theorem fa_97_2 : FieldAt Tryz.prog 97 2 2 := fun a w => by kernel_rfl
theorem to_95 : TOne Tryz.prog 95 := ⟨Tryz.isAgg95, Tryz.sizeOf95⟩
theorem tmk_95 : TMapK Tryz.prog 95 28 50 (.agg #[.bool false, .slice none 0 0]) := ⟨Tryz.underlying95, tz_50⟩
theorem ka_28 : KeyAt Tryz.prog 28 (fun x : T_api_Addr => .agg (e_api_Addr x).toArray) := keyAt_struct Tryz.underlying28 (fun a => ⟨_, rfl⟩) (fun a b w => teq_28 9997 a b w) (fun e a w => by kernel_rfl) (fun a => sameBits_agg 9999 [.bool a.1, .int .u8 (b8 a.2 0), .int .u8 (b8 a.2 1), .int .u8 (b8 a.2 2), .int .u8 (b8 a.2 3), .int .u8 (b8 a.2 4), .int .u8 (b8 a.2 5), .int .u8 (b8 a.2 6), .int .u8 (b8 a.2 7), .int .u8 (b8 a.2 8), .int .u8 (b8 a.2 9), .int .u8 (b8 a.2 10), .int .u8 (b8 a.2 11), .int .u8 (b8 a.2 12), .int .u8 (b8 a.2 13), .int .u8 (b8 a.2 14), .int .u8 (b8 a.2 15)] (by intro c hc; simp at hc; rcases hc with rfl | rfl | rfl | rfl | rfl | rfl | rfl | rfl | rfl | rfl | rfl | rfl | rfl | rfl | rfl | rfl | rfl <;> first | exact sameBits_int _ _ _ | exact sameBits_bool _ _ | exact sameBits_str _ _))
theorem en_54 (args : Array Value) (w : World) : (callFunc 54 args).run Tryz.prog w = .ok (.enter 54 args) w := by kernel_rfl
theorem en_55 (args : Array Value) (w : World) : (callFunc 55 args).run Tryz.prog w = .ok (.enter 55 args) w := by kernel_rfl
theorem tz_56 : TZero Tryz.prog 56 (.agg #[.int .i64 0, .int .i64 0, .int .i64 0, .int .i64 0, .int .i64 0]) := Tryz.zeroValue56
theorem tp_56 : TPlaces Tryz.prog 56 #[(0, 1), (1, 1), (2, 1), (3, 1), (4, 1)] #[.int .i64 0, .int .i64 0, .int .i64 0, .int .i64 0, .int .i64 0] := tplaces Tryz.runUnderlying56 Tryz.zeroValue56 rfl (fun w => by kernel_rfl)
theorem ta_56 : TAgg Tryz.prog 56 5 := ⟨Tryz.isAgg56, Tryz.sizeOf56⟩
theorem one_e_api_Tune (x : T_api_Tune) : ∀ v ∈ e_api_Tune x, v.oneCell' = true := by intro v hv; simp [e_api_Tune] at hv; rcases hv with rfl | rfl | rfl | rfl | rfl <;> rfl
theorem fa_56_0 : FieldAt Tryz.prog 56 0 0 := fun a w => by kernel_rfl
theorem fa_56_1 : FieldAt Tryz.prog 56 1 1 := fun a w => by kernel_rfl
theorem fa_56_2 : FieldAt Tryz.prog 56 2 2 := fun a w => by kernel_rfl
theorem en_110 (args : Array Value) (w : World) : (callFunc 110 args).run Tryz.prog w = .ok (.enter 110 args) w := by kernel_rfl
theorem en_146 (args : Array Value) (w : World) : (callFunc 146 args).run Tryz.prog w = .ok (.enter 146 args) w := by kernel_rfl
theorem apk_159_146 {F : Fz} {os : List Ow} {h : Heap} {b r : Nat} {ν : Type} {en : ν → Value} {m : List (T_api_Addr × ν)} (hS : St F os h) (hB : Blk h b (.cells #[.map (some r)] 95 (0, 0))) (hM : MapIs h r (fun x => .agg (e_api_Addr x).toArray) en m) (hN : m.length * 17 ≤ 140737488355328) :
    HC Tryz.prog 159 #[.slice none 0 0, .func (.func 146) #[] #[.pointer (some ⟨b, 0, none⟩)]] h fun u h' => ∃ xs : List T_api_Addr, xs.Perm (m.map Prod.fst) ∧ St F (Ow.own 28 17 e_api_Addr u xs :: os) h' ∧ Kp F h F h' :=
  appendK_hc (enc := e_api_Addr) Tryz.func159 rfl rfl rfl Tryz.func146 rfl rfl rfl en_146 te_29 Tryz.underlying95 ta_28 to_29 to_95 tz_28 rfl tl_29 (by decide) (fun _ => rfl) (by intro a u hu; simp [e_api_Addr, encI, encN, encB, encT] at hu; rcases hu with rfl | rfl | rfl | rfl | rfl | rfl | rfl | rfl | rfl | rfl | rfl | rfl | rfl | rfl | rfl | rfl | rfl <;> rfl) hS hB hM hN (by omega)
theorem en_159 (args : Array Value) (w : World) : (callFunc 159 args).run Tryz.prog w = .ok (.enter 159 args) w := by kernel_rfl
theorem en_144 (args : Array Value) (w : World) : (callFunc 144 args).run Tryz.prog w = .ok (.enter 144 args) w := by kernel_rfl
theorem en_145 (args : Array Value) (w : World) : (callFunc 145 args).run Tryz.prog w = .ok (.enter 145 args) w := by kernel_rfl
theorem en_112 (args : Array Value) (w : World) : (callFunc 112 args).run Tryz.prog w = .ok (.enter 112 args) w := by kernel_rfl
theorem en_111 (args : Array Value) (w : World) : (callFunc 111 args).run Tryz.prog w = .ok (.enter 111 args) w := by kernel_rfl
theorem ta_26 : TAgg Tryz.prog 26 16 := ⟨Tryz.isAgg26, Tryz.sizeOf26⟩
theorem en_163 (args : Array Value) (w : World) : (callFunc 163 args).run Tryz.prog w = .ok (.enter 163 args) w := by kernel_rfl
theorem en_162 (args : Array Value) (w : World) : (callFunc 162 args).run Tryz.prog w = .ok (.enter 162 args) w := by kernel_rfl
theorem en_164 (args : Array Value) (w : World) : (callFunc 164 args).run Tryz.prog w = .ok (.enter 164 args) w := by kernel_rfl
theorem en_147 (args : Array Value) (w : World) : (callFunc 147 args).run Tryz.prog w = .ok (.enter 147 args) w := by kernel_rfl
theorem en_148 (args : Array Value) (w : World) : (callFunc 148 args).run Tryz.prog w = .ok (.enter 148 args) w := by kernel_rfl
theorem en_59 (args : Array Value) (w : World) : (callFunc 59 args).run Tryz.prog w = .ok (.enter 59 args) w := by kernel_rfl
theorem en_115 (args : Array Value) (w : World) : (callFunc 115 args).run Tryz.prog w = .ok (.enter 115 args) w := by kernel_rfl
theorem en_116 (args : Array Value) (w : World) : (callFunc 116 args).run Tryz.prog w = .ok (.enter 116 args) w := by kernel_rfl
theorem en_57 (args : Array Value) (w : World) : (callFunc 57 args).run Tryz.prog w = .ok (.enter 57 args) w := by kernel_rfl
theorem en_58 (args : Array Value) (w : World) : (callFunc 58 args).run Tryz.prog w = .ok (.enter 58 args) w := by kernel_rfl
theorem en_63 (args : Array Value) (w : World) : (callFunc 63 args).run Tryz.prog w = .ok (.enter 63 args) w := by kernel_rfl
theorem en_15 (args : Array Value) (w : World) : (callFunc 15 args).run Tryz.prog w = .ok (.enter 15 args) w := by kernel_rfl
theorem en_41 (args : Array Value) (w : World) : (callFunc 41 args).run Tryz.prog w = .ok (.enter 41 args) w := by kernel_rfl
theorem en_17 (args : Array Value) (w : World) : (callFunc 17 args).run Tryz.prog w = .ok (.enter 17 args) w := by kernel_rfl
theorem en_20 (args : Array Value) (w : World) : (callFunc 20 args).run Tryz.prog w = .ok (.enter 20 args) w := by kernel_rfl
theorem en_19 (args : Array Value) (w : World) : (callFunc 19 args).run Tryz.prog w = .ok (.enter 19 args) w := by kernel_rfl
theorem en_44 (args : Array Value) (w : World) : (callFunc 44 args).run Tryz.prog w = .ok (.enter 44 args) w := by kernel_rfl
theorem en_9 (args : Array Value) (w : World) : (callFunc 9 args).run Tryz.prog w = .ok (.enter 9 args) w := by kernel_rfl
theorem en_45 (args : Array Value) (w : World) : (callFunc 45 args).run Tryz.prog w = .ok (.enter 45 args) w := by kernel_rfl
theorem en_14 (args : Array Value) (w : World) : (callFunc 14 args).run Tryz.prog w = .ok (.enter 14 args) w := by kernel_rfl
theorem en_43 (args : Array Value) (w : World) : (callFunc 43 args).run Tryz.prog w = .ok (.enter 43 args) w := by kernel_rfl
theorem en_7 (args : Array Value) (w : World) : (callFunc 7 args).run Tryz.prog w = .ok (.enter 7 args) w := by kernel_rfl
theorem en_8 (args : Array Value) (w : World) : (callFunc 8 args).run Tryz.prog w = .ok (.enter 8 args) w := by kernel_rfl
theorem en_10 (args : Array Value) (w : World) : (callFunc 10 args).run Tryz.prog w = .ok (.enter 10 args) w := by kernel_rfl
theorem en_11 (args : Array Value) (w : World) : (callFunc 11 args).run Tryz.prog w = .ok (.enter 11 args) w := by kernel_rfl
theorem en_13 (args : Array Value) (w : World) : (callFunc 13 args).run Tryz.prog w = .ok (.enter 13 args) w := by kernel_rfl
theorem en_12 (args : Array Value) (w : World) : (callFunc 12 args).run Tryz.prog w = .ok (.enter 12 args) w := by kernel_rfl
def law08_Addrs_j1 (l : List T_api_Addr) (Q : (List T_api_Addr) → Prop) (out_1 : List T_api_Addr) (i_1 : Int) (K_1 : (List T_api_Addr) → Int → Prop) (b_2 : Bool) : Prop :=
 (b_2 = true → ((0 : Int) ≤ i_1 ∧ i_1 < (l.length : Int)) ∧ (((out_1.length + ([(gi l i_1)] : List T_api_Addr).length) * 17 ≤ 140737488355328) ∧ ((I64 (i_1 + 1)) ∧ (K_1 (out_1 ++ ([(gi l i_1)] : List T_api_Addr)) (i_1 + 1))))) ∧ (b_2 = false → Q out_1)
def law08_Addrs_l1 (l : List T_api_Addr) (most : Int) (Q : (List T_api_Addr) → Prop) (K_1 : (List T_api_Addr) → Int → Prop) (out_1 : List T_api_Addr) (i_1 : Int) : Prop :=
 (i_1 < (l.length : Int) → law08_Addrs_j1 l Q out_1 i_1 K_1 (decide (i_1 < most))) ∧ (¬ (i_1 < (l.length : Int)) → law08_Addrs_j1 l Q out_1 i_1 K_1 false)
def law08_Addrs_W (l : List T_api_Addr) (most : Int) (Q : (List T_api_Addr) → Prop) : Prop :=
 loopW (fun (K_1 : (List T_api_Addr × Int) → Prop) (s : List T_api_Addr × Int) => law08_Addrs_l1 l most Q (fun out_1 i_1 => K_1 (out_1, i_1)) s.1 s.2) ([], 0)
theorem law08_Addrs_walk {F : Fz} {fr : List Ow} {h0 : Heap} (l : List T_api_Addr) (most : Int) (vl : Value) (hS : St F (fr) h0) (hL_l : SliceF F h0 17 e_api_Addr vl l) {Q : (List T_api_Addr) → Prop} (hM : law08_Addrs_W l most Q) :
  HC Tryz.prog 38 #[vl, .int .i64 most] h0 fun u h' => ∃ (F' : Fz) (r_1 : List T_api_Addr) (vr_1 : Value), u = vr_1 ∧ Kp F h0 F' h' ∧ St F' (Ow.own 28 17 e_api_Addr vr_1 r_1 :: fr) h' ∧ (SliceF F' h' 17 e_api_Addr vl l) ∧ Q r_1 := by
 unfold law08_Addrs_W at hM
 have hK := Kp.refl F h0
 refine HC.of_HW (n := 27) Tryz.func38 rfl rfl (Nat.le_of_ble_eq_true rfl) ?_
 refine HW.seq ?_
 refine HW.region ?_
 refine oA (.slice none 0 0) rfl rfl ?_
 refine HO.nil (thenQ_normal (?_))
 refine HW.seq ?_
 refine HW.region ?_
 refine HO.eff (want_none) rfl (st_litEmpty (α := T_api_Addr) e_api_Addr hS tl_29) ?_
 rintro _ h_1 ⟨b_1, rfl, hS, hk⟩
 replace hK := hK.trans hk
 replace hL_l := hL_l.kp hk
 refine oA (.slice (some ⟨b_1, 0, none⟩) 0 0) rfl rfl ?_
 refine HO.nil (thenQ_normal (?_))
 refine HW.seq ?_
 refine HW.seq ?_
 refine HW.region ?_
 refine oA (.int .i64 0) rfl rfl ?_
 refine HO.nil (thenQ_normal (?_))
 refine HW.block ?_
 obtain ⟨I_1, m_1, hI_1, hR_1⟩ := hM
 refine HW.loop (S := List T_api_Addr × Int) (fun s f h => match s with | (out_1, i_1) => ∃ (F' : Fz) (vout_1 : Value), f 0 = vl ∧ f 1 = .int .i64 most ∧ f 4 = .slice none 0 0 ∧ f 5 = vout_1 ∧ f 6 = .int .i64 i_1 ∧ Kp F h0 F' h ∧ St F' (Ow.own 28 17 e_api_Addr vout_1 out_1 :: fr) h ∧ (SliceF F' h 17 e_api_Addr vl l) ∧ I_1 (out_1, i_1)) m_1 ([], 0) ⟨F, .slice (some ⟨b_1, 0, none⟩) 0 0, rfl, rfl, rfl, rfl, rfl, hK, hS, hL_l, hI_1⟩ ?_
 rintro ⟨out_1, i_1⟩ f_1 h_2 ⟨F_1, vout_1, e0, e1, e4, e5, e6, hK, hS, hL_l, hI0⟩
 obtain ⟨K_1, hKe_1⟩ : ∃ K : (List T_api_Addr) → Int → Prop, K = fun out_1' i_1' => I_1 (out_1', i_1') ∧ m_1 (out_1', i_1') < m_1 (out_1, i_1) := ⟨_, rfl⟩
 have hM : law08_Addrs_l1 l most Q K_1 out_1 i_1 := by rw [hKe_1]; exact hR_1 (out_1, i_1) hI0
 unfold law08_Addrs_l1 at hM
 refine HW.fr [(0, vl), (1, .int .i64 most), (4, .slice none 0 0), (5, vout_1), (6, .int .i64 i_1)] ⟨e0, e1, e4, e5, e6, trivial⟩ ?_
 refine HW.seq ?_
 refine HW.seq_mid (fun f h => ∃ (F' : Fz) (b_2 : Bool), f 0 = vl ∧ f 1 = .int .i64 most ∧ f 4 = .slice none 0 0 ∧ f 5 = vout_1 ∧ f 6 = .int .i64 i_1 ∧ f 16 = .bool b_2 ∧ Kp F h0 F' h ∧ St F' (Ow.own 28 17 e_api_Addr vout_1 out_1 :: fr) h ∧ (SliceF F' h 17 e_api_Addr vl l) ∧ law08_Addrs_j1 l Q out_1 i_1 K_1 b_2) ?_ ?_
 ·
  refine HW.region ?_
  refine oM (.int .i64 i_1) rfl rfl ?_
  refine oM (vl) rfl rfl ?_
  refine oV (.int .i64 (l.length : Int)) (q_len ts_29 (shp hL_l.is) rfl rfl) rfl ?_
  refine oV (.bool (decide (i_1 < (l.length : Int)))) (q_lss rfl rfl) rfl ?_
  refine oM (.bool (decide (i_1 < (l.length : Int)))) rfl rfl ?_
  rcases Bool.eq_false_or_eq_true (decide (i_1 < (l.length : Int))) with c_1 | c_1
  ·
   replace hM := hM.1 (of_decide_eq_true c_1)
   refine HO.val (v := .int .i64 i_1) (want_by rfl rfl c_1) rfl (q_move rfl) ?_
   refine HO.val (v := .int .i64 most) (want_by rfl rfl c_1) rfl (q_move rfl) ?_
   refine HO.val (v := .bool (decide (i_1 < most))) (want_by rfl rfl c_1) rfl (q_lss rfl rfl) ?_
   refine oV (.bool (decide (i_1 < most))) (q_pickK true rfl c_1 rfl) rfl ?_
   refine HO.nil (thenQ_normal (?_))
   exact ⟨F_1, decide (i_1 < most), rfl, rfl, rfl, rfl, rfl, rfl, hK, hS, hL_l, hM⟩
  ·
   replace hM := hM.2 (of_decide_eq_false c_1)
   refine HO.past (past_by rfl rfl c_1) rfl ?_
   refine HO.past (past_by rfl rfl c_1) rfl ?_
   refine HO.past (past_by rfl rfl c_1) rfl ?_
   refine oV (.bool false) (q_pickK false rfl c_1 rfl) rfl ?_
   refine HO.nil (thenQ_normal (?_))
   exact ⟨F_1, false, rfl, rfl, rfl, rfl, rfl, rfl, hK, hS, hL_l, hM⟩
 ·
  rintro f_2 h_3 ⟨F_2, b_2, e0, e1, e4, e5, e6, e16, hK, hS, hL_l, hM⟩
  unfold law08_Addrs_j1 at hM
  refine HW.fr [(0, vl), (1, .int .i64 most), (4, .slice none 0 0), (5, vout_1), (6, .int .i64 i_1), (16, .bool b_2)] ⟨e0, e1, e4, e5, e6, e16, trivial⟩ ?_
  refine HW.cond b_2 rfl (fun c_2 => ?_) (fun c_2 => ?_)
  ·
   replace hM := hM.1 c_2
   refine HW.skip (thenQ_normal (?_))
   refine HW.seq ?_
   refine HW.block ?_
   refine HW.region ?_
   refine oM (vout_1) rfl rfl ?_
   refine oM (vl) rfl rfl ?_
   refine oM (.int .i64 i_1) rfl rfl ?_
   obtain ⟨ho_1, hM⟩ := hM
   refine oV (elemPtr 17 vl (i_1).toNat) (q_idx ts_29 hL_l.is rfl rfl ho_1) rfl ?_
   refine oV (.agg (e_api_Addr (gi l i_1)).toArray) (q_ldElemAgg (cs := (e_api_Addr (gi l i_1))) ta_28 hL_l.is rfl ho_1 rfl) rfl ?_
   refine HO.eff (want_none) rfl (st_lit (enc := e_api_Addr) (cells := #[.bool ((gi l i_1).1), .int .u8 (b8 ((gi l i_1).2) 0), .int .u8 (b8 ((gi l i_1).2) 1), .int .u8 (b8 ((gi l i_1).2) 2), .int .u8 (b8 ((gi l i_1).2) 3), .int .u8 (b8 ((gi l i_1).2) 4), .int .u8 (b8 ((gi l i_1).2) 5), .int .u8 (b8 ((gi l i_1).2) 6), .int .u8 (b8 ((gi l i_1).2) 7), .int .u8 (b8 ((gi l i_1).2) 8), .int .u8 (b8 ((gi l i_1).2) 9), .int .u8 (b8 ((gi l i_1).2) 10), .int .u8 (b8 ((gi l i_1).2) 11), .int .u8 (b8 ((gi l i_1).2) 12), .int .u8 (b8 ((gi l i_1).2) 13), .int .u8 (b8 ((gi l i_1).2) 14), .int .u8 (b8 ((gi l i_1).2) 15)]) #[.bool false, .int .u8 0, .int .u8 0, .int .u8 0, .int .u8 0, .int .u8 0, .int .u8 0, .int .u8 0, .int .u8 0, .int .u8 0, .int .u8 0, .int .u8 0, .int .u8 0, .int .u8 0, .int .u8 0, .int .u8 0, .int .u8 0] ([(gi l i_1)] : List T_api_Addr) hS tl_29 (by decide) (by decide) (by kernel_rfl) (by kernel_rfl) rfl (by intro x hx; rfl) rfl) ?_
   rintro _ h_4 ⟨b_3, rfl, hS, hk⟩
   replace hK := hK.trans hk
   replace hL_l := hL_l.kp hk
   obtain ⟨ho_2, hM⟩ := hM
   refine HO.eff (want_none) rfl (st_append te_29 hS (i := 1) rfl (hS.own 0 rfl).slice rfl rfl rfl (by intro a _ u hu; simp [e_api_Addr, encI, encN, encB, encT] at hu; rcases hu with rfl | rfl | rfl | rfl | rfl | rfl | rfl | rfl | rfl | rfl | rfl | rfl | rfl | rfl | rfl | rfl | rfl <;> rfl) ho_2 (by omega)) ?_
   rintro v_1 h_5 ⟨hS, hk⟩
   replace hK := hK.trans hk
   replace hL_l := hL_l.kp hk
   refine oA (v_1) rfl rfl ?_
   refine HO.nil (blockQ_normal (thenQ_normal (?_)))
   refine HW.region ?_
   refine oM (.int .i64 i_1) rfl rfl ?_
   obtain ⟨ho_3, hM⟩ := hM
   refine oV (.int .i64 (i_1 + 1)) (q_addN _ rfl rfl rfl ho_3.1 ho_3.2) rfl ?_
   refine oA (.int .i64 (i_1 + 1)) rfl rfl ?_
   refine HO.nil (thenQ_normal (?_))
   replace hS : St F_2 (Ow.own 28 17 e_api_Addr v_1 (out_1 ++ ([(gi l i_1)] : List T_api_Addr)) :: fr) h_5 := hS.perm2 [1] 2 rfl rfl
   rw [hKe_1] at hM
   exact ⟨(out_1 ++ ([(gi l i_1)] : List T_api_Addr), i_1 + 1), ⟨F_2, v_1, rfl, rfl, rfl, rfl, rfl, hK, hS, hL_l, hM.1⟩, hM.2⟩
  ·
   replace hM := hM.2 c_2
   refine HW.exit (thenQ_exit (thenQ_exit (blockQ_exit (thenQ_normal (?_)))))
   refine HW.seq ?_
   refine HW.region ?_
   refine oM (vout_1) rfl rfl ?_
   refine oA (vout_1) rfl rfl ?_
   refine HO.nil (thenQ_normal (?_))
   refine HW.ret (?_)
   refine ⟨.inr rfl, vout_1, res1 rfl (rt rfl), ?_⟩
   exact ⟨F_2, out_1, vout_1, rfl, hK, hS, hL_l, hM⟩
def law08_Records_j1 (l : List T_api_Record) (Q : (List T_api_Record) → Prop) (out_1 : List T_api_Record) (i_1 : Int) (K_1 : (List T_api_Record) → Int → Prop) (b_2 : Bool) : Prop :=
 (b_2 = true → ((0 : Int) ≤ i_1 ∧ i_1 < (l.length : Int)) ∧ (law08_Addrs_W (((gi l i_1).2.2).2) 6 (fun r_2 => ∀ vr_2 : Value, (((out_1.length + ([((gi l i_1).1, ((gi l i_1).2.1), (vr_2, r_2))] : List T_api_Record).length) * 56 ≤ 140737488355328) ∧ ((I64 (i_1 + 1)) ∧ (K_1 (out_1 ++ ([((gi l i_1).1, ((gi l i_1).2.1), (vr_2, r_2))] : List T_api_Record)) (i_1 + 1))))))) ∧ (b_2 = false → Q out_1)
def law08_Records_l1 (l : List T_api_Record) (most : Int) (Q : (List T_api_Record) → Prop) (K_1 : (List T_api_Record) → Int → Prop) (out_1 : List T_api_Record) (i_1 : Int) : Prop :=
 (i_1 < (l.length : Int) → law08_Records_j1 l Q out_1 i_1 K_1 (decide (i_1 < most))) ∧ (¬ (i_1 < (l.length : Int)) → law08_Records_j1 l Q out_1 i_1 K_1 false)
def law08_Records_W (l : List T_api_Record) (most : Int) (Q : (List T_api_Record) → Prop) : Prop :=
 loopW (fun (K_1 : (List T_api_Record × Int) → Prop) (s : List T_api_Record × Int) => law08_Records_l1 l most Q (fun out_1 i_1 => K_1 (out_1, i_1)) s.1 s.2) ([], 0)
theorem law08_Records_walk {F : Fz} {fr : List Ow} {h0 : Heap} (l : List T_api_Record) (most : Int) (vl : Value) (hS : St F (fr) h0) (hN_l : NfL nf_api_Record F h0 l) (hL_l : SliceF F h0 19 e_api_Record vl l) {Q : (List T_api_Record) → Prop} (hM : law08_Records_W l most Q) :
  HC Tryz.prog 7 #[vl, .int .i64 most] h0 fun u h' => ∃ (F' : Fz) (r_1 : List T_api_Record) (vr_1 : Value), u = vr_1 ∧ Kp F h0 F' h' ∧ St F' (Ow.own 89 19 e_api_Record vr_1 r_1 :: fr) h' ∧ (NfL nf_api_Record F' h' l) ∧ (SliceF F' h' 19 e_api_Record vl l) ∧ (NfL nf_api_Record F' h' r_1) ∧ Q r_1 := by
 unfold law08_Records_W at hM
 have hK := Kp.refl F h0
 refine HC.of_HW (n := 40) Tryz.func7 rfl rfl (Nat.le_of_ble_eq_true rfl) ?_
 refine HW.seq ?_
 refine HW.region ?_
 refine oA (.slice none 0 0) rfl rfl ?_
 refine HO.nil (thenQ_normal (?_))
 refine HW.seq ?_
 refine HW.region ?_
 refine HO.eff (want_none) rfl (st_litEmpty (α := T_api_Record) e_api_Record hS tl_22) ?_
 rintro _ h_1 ⟨b_1, rfl, hS, hk⟩
 replace hK := hK.trans hk
 replace hN_l := hN_l.kp hk
 replace hL_l := hL_l.kp hk
 have hN_2 : NfL nf_api_Record F h_1 ([] : List T_api_Record) := NfL.nil _ _ _
 refine oA (.slice (some ⟨b_1, 0, none⟩) 0 0) rfl rfl ?_
 refine HO.nil (thenQ_normal (?_))
 refine HW.seq ?_
 refine HW.seq ?_
 refine HW.region ?_
 refine oA (.int .i64 0) rfl rfl ?_
 refine HO.nil (thenQ_normal (?_))
 refine HW.block ?_
 obtain ⟨I_1, m_1, hI_1, hR_1⟩ := hM
 refine HW.loop (S := List T_api_Record × Int) (fun s f h => match s with | (out_1, i_1) => ∃ (F' : Fz) (vout_1 : Value), f 0 = vl ∧ f 1 = .int .i64 most ∧ f 4 = .slice none 0 0 ∧ f 5 = vout_1 ∧ f 6 = .int .i64 i_1 ∧ Kp F h0 F' h ∧ St F' (Ow.own 89 19 e_api_Record vout_1 out_1 :: fr) h ∧ (NfL nf_api_Record F' h l) ∧ (SliceF F' h 19 e_api_Record vl l) ∧ (NfL nf_api_Record F' h ([] : List T_api_Record)) ∧ (NfL nf_api_Record F' h out_1) ∧ I_1 (out_1, i_1)) m_1 ([], 0) ⟨F, .slice (some ⟨b_1, 0, none⟩) 0 0, rfl, rfl, rfl, rfl, rfl, hK, hS, hN_l, hL_l, hN_2, hN_2, hI_1⟩ ?_
 rintro ⟨out_1, i_1⟩ f_1 h_2 ⟨F_1, vout_1, e0, e1, e4, e5, e6, hK, hS, hN_l, hL_l, hN_2, hN_3, hI0⟩
 obtain ⟨K_1, hKe_1⟩ : ∃ K : (List T_api_Record) → Int → Prop, K = fun out_1' i_1' => I_1 (out_1', i_1') ∧ m_1 (out_1', i_1') < m_1 (out_1, i_1) := ⟨_, rfl⟩
 have hM : law08_Records_l1 l most Q K_1 out_1 i_1 := by rw [hKe_1]; exact hR_1 (out_1, i_1) hI0
 unfold law08_Records_l1 at hM
 refine HW.fr [(0, vl), (1, .int .i64 most), (4, .slice none 0 0), (5, vout_1), (6, .int .i64 i_1)] ⟨e0, e1, e4, e5, e6, trivial⟩ ?_
 refine HW.seq ?_
 refine HW.seq_mid (fun f h => ∃ (F' : Fz) (b_2 : Bool), f 0 = vl ∧ f 1 = .int .i64 most ∧ f 4 = .slice none 0 0 ∧ f 5 = vout_1 ∧ f 6 = .int .i64 i_1 ∧ f 16 = .bool b_2 ∧ Kp F h0 F' h ∧ St F' (Ow.own 89 19 e_api_Record vout_1 out_1 :: fr) h ∧ (NfL nf_api_Record F' h l) ∧ (SliceF F' h 19 e_api_Record vl l) ∧ (NfL nf_api_Record F' h ([] : List T_api_Record)) ∧ (NfL nf_api_Record F' h out_1) ∧ law08_Records_j1 l Q out_1 i_1 K_1 b_2) ?_ ?_
 ·
  refine HW.region ?_
  refine oM (.int .i64 i_1) rfl rfl ?_
  refine oM (vl) rfl rfl ?_
  refine oV (.int .i64 (l.length : Int)) (q_len ts_22 (shp hL_l.is) rfl rfl) rfl ?_
  refine oV (.bool (decide (i_1 < (l.length : Int)))) (q_lss rfl rfl) rfl ?_
  refine oM (.bool (decide (i_1 < (l.length : Int)))) rfl rfl ?_
  rcases Bool.eq_false_or_eq_true (decide (i_1 < (l.length : Int))) with c_1 | c_1
  ·
   replace hM := hM.1 (of_decide_eq_true c_1)
   refine HO.val (v := .int .i64 i_1) (want_by rfl rfl c_1) rfl (q_move rfl) ?_
   refine HO.val (v := .int .i64 most) (want_by rfl rfl c_1) rfl (q_move rfl) ?_
   refine HO.val (v := .bool (decide (i_1 < most))) (want_by rfl rfl c_1) rfl (q_lss rfl rfl) ?_
   refine oV (.bool (decide (i_1 < most))) (q_pickK true rfl c_1 rfl) rfl ?_
   refine HO.nil (thenQ_normal (?_))
   exact ⟨F_1, decide (i_1 < most), rfl, rfl, rfl, rfl, rfl, rfl, hK, hS, hN_l, hL_l, hN_2, hN_3, hM⟩
  ·
   replace hM := hM.2 (of_decide_eq_false c_1)
   refine HO.past (past_by rfl rfl c_1) rfl ?_
   refine HO.past (past_by rfl rfl c_1) rfl ?_
   refine HO.past (past_by rfl rfl c_1) rfl ?_
   refine oV (.bool false) (q_pickK false rfl c_1 rfl) rfl ?_
   refine HO.nil (thenQ_normal (?_))
   exact ⟨F_1, false, rfl, rfl, rfl, rfl, rfl, rfl, hK, hS, hN_l, hL_l, hN_2, hN_3, hM⟩
 ·
  rintro f_2 h_3 ⟨F_2, b_2, e0, e1, e4, e5, e6, e16, hK, hS, hN_l, hL_l, hN_2, hN_3, hM⟩
  unfold law08_Records_j1 at hM
  refine HW.fr [(0, vl), (1, .int .i64 most), (4, .slice none 0 0), (5, vout_1), (6, .int .i64 i_1), (16, .bool b_2)] ⟨e0, e1, e4, e5, e6, e16, trivial⟩ ?_
  refine HW.cond b_2 rfl (fun c_2 => ?_) (fun c_2 => ?_)
  ·
   replace hM := hM.1 c_2
   refine HW.skip (thenQ_normal (?_))
   refine HW.seq ?_
   refine HW.block ?_
   refine HW.regionA 21 mixed (fun h => (SliceIs h 19 e_api_Record vl l)) [] (by kernel_rfl) ?_
   refine HA.val (k := 0) (v := vout_1) rfl rfl (by kernel_rfl) (by kernel_rfl) (want_none) rfl (fun _ hL_l => q_move rfl) ?_
   refine HA.val (k := 1) (v := vl) rfl rfl (by kernel_rfl) (by kernel_rfl) (want_none) rfl (fun _ hL_l => q_move rfl) ?_
   refine HA.val (k := 2) (v := .int .i64 i_1) rfl rfl (by kernel_rfl) (by kernel_rfl) (want_none) rfl (fun _ hL_l => q_move rfl) ?_
   obtain ⟨ho_1, hM⟩ := hM
   refine HA.val (k := 3) (v := elemPtr 19 vl (i_1).toNat) rfl rfl (by kernel_rfl) (by kernel_rfl) (want_none) rfl (fun _ hL_l => q_idx ts_22 hL_l rfl rfl ho_1) ?_
   refine HA.val (k := 4) (v := fieldPtr 19 vl (i_1).toNat 0) rfl rfl (by kernel_rfl) (by kernel_rfl) (want_none) rfl (fun _ hL_l => q_fldElem fa_89_0 hL_l rfl ho_1) ?_
   refine HA.val (k := 5) (v := .int .i64 ((gi l i_1).1)) rfl rfl (by kernel_rfl) (by kernel_rfl) (want_none) rfl (fun _ hL_l => q_ldField to_3 hL_l rfl ho_1 (by decide) rfl) ?_
   refine HA.val (k := 6) (v := vl) rfl rfl (by kernel_rfl) (by kernel_rfl) (want_none) rfl (fun _ hL_l => q_move rfl) ?_
   refine HA.val (k := 7) (v := .int .i64 i_1) rfl rfl (by kernel_rfl) (by kernel_rfl) (want_none) rfl (fun _ hL_l => q_move rfl) ?_
   refine HA.val (k := 8) (v := elemPtr 19 vl (i_1).toNat) rfl rfl (by kernel_rfl) (by kernel_rfl) (want_none) rfl (fun _ hL_l => q_idx ts_22 hL_l rfl rfl ho_1) ?_
   refine HA.val (k := 9) (v := fieldPtr 19 vl (i_1).toNat 1) rfl rfl (by kernel_rfl) (by kernel_rfl) (want_none) rfl (fun _ hL_l => q_fldElem fa_89_1 hL_l rfl ho_1) ?_
   refine HA.val (k := 10) (v := .agg (e_api_Addr ((gi l i_1).2.1)).toArray) rfl rfl (by kernel_rfl) (by kernel_rfl) (want_none) rfl (fun _ hL_l => q_ldFieldAgg (n := 17) (cs := (e_api_Addr ((gi l i_1).2.1))) ta_28 hL_l rfl ho_1 (by decide) rfl) ?_
   refine HA.val (k := 11) (v := vl) rfl rfl (by kernel_rfl) (by kernel_rfl) (want_none) rfl (fun _ hL_l => q_move rfl) ?_
   refine HA.val (k := 12) (v := .int .i64 i_1) rfl rfl (by kernel_rfl) (by kernel_rfl) (want_none) rfl (fun _ hL_l => q_move rfl) ?_
   refine HA.val (k := 13) (v := elemPtr 19 vl (i_1).toNat) rfl rfl (by kernel_rfl) (by kernel_rfl) (want_none) rfl (fun _ hL_l => q_idx ts_22 hL_l rfl rfl ho_1) ?_
   refine HA.val (k := 14) (v := fieldPtr 19 vl (i_1).toNat 18) rfl rfl (by kernel_rfl) (by kernel_rfl) (want_none) rfl (fun _ hL_l => q_fldElem fa_89_2 hL_l rfl ho_1) ?_
   refine HA.val (k := 15) (v := ((gi l i_1).2.2).1) rfl rfl (by kernel_rfl) (by kernel_rfl) (want_none) rfl (fun _ hL_l => q_ldField to_29 hL_l rfl ho_1 (by decide) rfl) ?_
   refine HA.one (k := 16) ⟨hL_l.is, (Go.Wk.at_nil _ _)⟩ (by kernel_rfl) ?_
   refine HS.call rfl (want_none) rfl (ec en_38 rfl rfl) (law08_Addrs_walk (fr := (Ow.own 89 19 e_api_Record vout_1 out_1 :: fr)) (((gi l i_1).2.2).2) 6 (((gi l i_1).2.2).1) hS (nff_api_Record_18 (NfL.at hN_l ho_1)) hM) ?_
   rintro vr_2 h_4 ⟨F_3, r_2, _, rfl, hk, hS, _, hM⟩
   replace hK := hK.trans hk
   replace hN_l := hN_l.kp hk
   replace hL_l := hL_l.kp hk
   replace hN_2 := hN_2.kp hk
   replace hN_3 := hN_3.kp hk
   refine Go.Wk.HA.re (fun h => (SliceIs h 19 e_api_Record vl l)) [(18, fun h => (OwnIs h 0 28 17 e_api_Addr vr_2 r_2))] (fun L_ h_ hL_ hL_l hs_ => ⟨hL_l, (Go.Wk.at_nil _ _)⟩) ?_
   refine Go.Wk.HA.valN (k := 17) (v := .agg #[.int .i64 ((gi l i_1).1), .bool (((gi l i_1).2.1).1), .int .u8 (b8 (((gi l i_1).2.1).2) 0), .int .u8 (b8 (((gi l i_1).2.1).2) 1), .int .u8 (b8 (((gi l i_1).2.1).2) 2), .int .u8 (b8 (((gi l i_1).2.1).2) 3), .int .u8 (b8 (((gi l i_1).2.1).2) 4), .int .u8 (b8 (((gi l i_1).2.1).2) 5), .int .u8 (b8 (((gi l i_1).2.1).2) 6), .int .u8 (b8 (((gi l i_1).2.1).2) 7), .int .u8 (b8 (((gi l i_1).2.1).2) 8), .int .u8 (b8 (((gi l i_1).2.1).2) 9), .int .u8 (b8 (((gi l i_1).2.1).2) 10), .int .u8 (b8 (((gi l i_1).2.1).2) 11), .int .u8 (b8 (((gi l i_1).2.1).2) 12), .int .u8 (b8 (((gi l i_1).2.1).2) 13), .int .u8 (b8 (((gi l i_1).2.1).2) 14), .int .u8 (b8 (((gi l i_1).2.1).2) 15), vr_2]) 0 18 (fun h => (OwnIs h 0 28 17 e_api_Addr vr_2 r_2)) rfl rfl (by kernel_rfl) (by kernel_rfl) (want_none) rfl rfl (by kernel_rfl) (fun _ hL_l c401 => q_build tp_89 (fill_cons (cs' := #[.int .i64 ((gi l i_1).1), .bool false, .int .u8 (b8 (default : Ba 16) 0), .int .u8 (b8 (default : Ba 16) 1), .int .u8 (b8 (default : Ba 16) 2), .int .u8 (b8 (default : Ba 16) 3), .int .u8 (b8 (default : Ba 16) 4), .int .u8 (b8 (default : Ba 16) 5), .int .u8 (b8 (default : Ba 16) 6), .int .u8 (b8 (default : Ba 16) 7), .int .u8 (b8 (default : Ba 16) 8), .int .u8 (b8 (default : Ba 16) 9), .int .u8 (b8 (default : Ba 16) 10), .int .u8 (b8 (default : Ba 16) 11), .int .u8 (b8 (default : Ba 16) 12), .int .u8 (b8 (default : Ba 16) 13), .int .u8 (b8 (default : Ba 16) 14), .int .u8 (b8 (default : Ba 16) 15), .slice none 0 0]) (vc := #[.int .i64 ((gi l i_1).1)]) rfl rfl rfl (Nat.le_of_ble_eq_true rfl) rfl (fill_cons (cs' := #[.int .i64 ((gi l i_1).1), .bool (((gi l i_1).2.1).1), .int .u8 (b8 (((gi l i_1).2.1).2) 0), .int .u8 (b8 (((gi l i_1).2.1).2) 1), .int .u8 (b8 (((gi l i_1).2.1).2) 2), .int .u8 (b8 (((gi l i_1).2.1).2) 3), .int .u8 (b8 (((gi l i_1).2.1).2) 4), .int .u8 (b8 (((gi l i_1).2.1).2) 5), .int .u8 (b8 (((gi l i_1).2.1).2) 6), .int .u8 (b8 (((gi l i_1).2.1).2) 7), .int .u8 (b8 (((gi l i_1).2.1).2) 8), .int .u8 (b8 (((gi l i_1).2.1).2) 9), .int .u8 (b8 (((gi l i_1).2.1).2) 10), .int .u8 (b8 (((gi l i_1).2.1).2) 11), .int .u8 (b8 (((gi l i_1).2.1).2) 12), .int .u8 (b8 (((gi l i_1).2.1).2) 13), .int .u8 (b8 (((gi l i_1).2.1).2) 14), .int .u8 (b8 (((gi l i_1).2.1).2) 15), .slice none 0 0]) (vc := (e_api_Addr ((gi l i_1).2.1)).toArray) rfl rfl rfl (Nat.le_of_ble_eq_true rfl) rfl (fill_cons (cs' := #[.int .i64 ((gi l i_1).1), .bool (((gi l i_1).2.1).1), .int .u8 (b8 (((gi l i_1).2.1).2) 0), .int .u8 (b8 (((gi l i_1).2.1).2) 1), .int .u8 (b8 (((gi l i_1).2.1).2) 2), .int .u8 (b8 (((gi l i_1).2.1).2) 3), .int .u8 (b8 (((gi l i_1).2.1).2) 4), .int .u8 (b8 (((gi l i_1).2.1).2) 5), .int .u8 (b8 (((gi l i_1).2.1).2) 6), .int .u8 (b8 (((gi l i_1).2.1).2) 7), .int .u8 (b8 (((gi l i_1).2.1).2) 8), .int .u8 (b8 (((gi l i_1).2.1).2) 9), .int .u8 (b8 (((gi l i_1).2.1).2) 10), .int .u8 (b8 (((gi l i_1).2.1).2) 11), .int .u8 (b8 (((gi l i_1).2.1).2) 12), .int .u8 (b8 (((gi l i_1).2.1).2) 13), .int .u8 (b8 (((gi l i_1).2.1).2) 14), .int .u8 (b8 (((gi l i_1).2.1).2) 15), vr_2]) (vc := #[vr_2]) rfl (shp c401.slice).cells rfl (Nat.le_of_ble_eq_true rfl) rfl rfl)))) ?_
   refine HA.one (k := 18) ⟨hL_l.is, (at_now (hS.own 0 rfl) (Go.Wk.at_nil _ _))⟩ (by kernel_rfl) ?_
   obtain ⟨F_4, hS, hk, hL_1⟩ := hS.freezeOwn
   replace hK := hK.trans hk
   replace hN_l := hN_l.kp hk
   replace hL_l := hL_l.kp hk
   replace hN_2 := hN_2.kp hk
   replace hN_3 := hN_3.kp hk
   replace hM := hM vr_2
   refine HS.eff rfl (want_none) rfl (st_lit (enc := e_api_Record) (cells := #[.int .i64 ((gi l i_1).1), .bool (((gi l i_1).2.1).1), .int .u8 (b8 (((gi l i_1).2.1).2) 0), .int .u8 (b8 (((gi l i_1).2.1).2) 1), .int .u8 (b8 (((gi l i_1).2.1).2) 2), .int .u8 (b8 (((gi l i_1).2.1).2) 3), .int .u8 (b8 (((gi l i_1).2.1).2) 4), .int .u8 (b8 (((gi l i_1).2.1).2) 5), .int .u8 (b8 (((gi l i_1).2.1).2) 6), .int .u8 (b8 (((gi l i_1).2.1).2) 7), .int .u8 (b8 (((gi l i_1).2.1).2) 8), .int .u8 (b8 (((gi l i_1).2.1).2) 9), .int .u8 (b8 (((gi l i_1).2.1).2) 10), .int .u8 (b8 (((gi l i_1).2.1).2) 11), .int .u8 (b8 (((gi l i_1).2.1).2) 12), .int .u8 (b8 (((gi l i_1).2.1).2) 13), .int .u8 (b8 (((gi l i_1).2.1).2) 14), .int .u8 (b8 (((gi l i_1).2.1).2) 15), vr_2]) #[.int .i64 0, .bool false, .int .u8 0, .int .u8 0, .int .u8 0, .int .u8 0, .int .u8 0, .int .u8 0, .int .u8 0, .int .u8 0, .int .u8 0, .int .u8 0, .int .u8 0, .int .u8 0, .int .u8 0, .int .u8 0, .int .u8 0, .int .u8 0, .slice none 0 0] ([((gi l i_1).1, ((gi l i_1).2.1), (vr_2, r_2))] : List T_api_Record) hS tl_22 (by decide) (by decide) (by kernel_rfl) (by kernel_rfl) rfl (by intro x hx; rfl) rfl) ?_
   rintro _ h_5 ⟨b_3, rfl, hS, hk⟩
   replace hK := hK.trans hk
   replace hN_l := hN_l.kp hk
   replace hL_l := hL_l.kp hk
   replace hN_2 := hN_2.kp hk
   replace hN_3 := hN_3.kp hk
   replace hL_1 := hL_1.kp hk
   have hN_4 : NfL nf_api_Record F_4 h_5 ([((gi l i_1).1, ((gi l i_1).2.1), (vr_2, r_2))] : List T_api_Record) := (NfL.cons (nfm_api_Record ((gi l i_1).1, ((gi l i_1).2.1), (vr_2, r_2)) hL_1) (NfL.nil _ _ _))
   refine HA.one (k := 19) ⟨hL_l.is, (at_done (by kernel_rfl) (Go.Wk.at_nil _ _))⟩ (by kernel_rfl) ?_
   obtain ⟨ho_2, hM⟩ := hM
   refine HS.eff rfl (want_none) rfl (st_append te_22 hS (i := 1) rfl (hS.own 0 rfl).slice rfl rfl rfl (fun a_ ha_ => nfo_api_Record (hN_4.is.all a_ ha_)) ho_2 (by omega)) ?_
   rintro v_1 h_6 ⟨hS, hk⟩
   replace hK := hK.trans hk
   replace hN_l := hN_l.kp hk
   replace hL_l := hL_l.kp hk
   replace hN_2 := hN_2.kp hk
   replace hN_3 := hN_3.kp hk
   replace hN_4 := hN_4.kp hk
   have hN_5 : NfL nf_api_Record F_4 h_6 (out_1 ++ ([((gi l i_1).1, ((gi l i_1).2.1), (vr_2, r_2))] : List T_api_Record)) := NfL.app hN_3 hN_4
   refine HA.val (k := 20) (v := v_1) rfl rfl (by kernel_rfl) (by kernel_rfl) (want_none) rfl (fun _ hL_l => q_assign rfl) ?_
   refine HA.nil ⟨hL_l.is, (at_done (by kernel_rfl) (Go.Wk.at_nil _ _))⟩ (by kernel_rfl) (blockQ_normal (thenQ_normal (?_)))
   refine HW.region ?_
   refine oM (.int .i64 i_1) rfl rfl ?_
   obtain ⟨ho_3, hM⟩ := hM
   refine oV (.int .i64 (i_1 + 1)) (q_addN _ rfl rfl rfl ho_3.1 ho_3.2) rfl ?_
   refine oA (.int .i64 (i_1 + 1)) rfl rfl ?_
   refine HO.nil (thenQ_normal (?_))
   replace hS : St F_4 (Ow.own 89 19 e_api_Record v_1 (out_1 ++ ([((gi l i_1).1, ((gi l i_1).2.1), (vr_2, r_2))] : List T_api_Record)) :: fr) h_6 := hS.perm2 [1] 2 rfl rfl
   rw [hKe_1] at hM
   exact ⟨(out_1 ++ ([((gi l i_1).1, ((gi l i_1).2.1), (vr_2, r_2))] : List T_api_Record), i_1 + 1), ⟨F_4, v_1, rfl, rfl, rfl, rfl, rfl, hK, hS, hN_l, hL_l, hN_2, hN_5, hM.1⟩, hM.2⟩
  ·
   replace hM := hM.2 c_2
   refine HW.exit (thenQ_exit (thenQ_exit (blockQ_exit (thenQ_normal (?_)))))
   refine HW.seq ?_
   refine HW.region ?_
   refine oM (vout_1) rfl rfl ?_
   refine oA (vout_1) rfl rfl ?_
   refine HO.nil (thenQ_normal (?_))
   refine HW.ret (?_)
   refine ⟨.inr rfl, vout_1, res1 rfl (rt rfl), ?_⟩
   exact ⟨F_2, out_1, vout_1, rfl, hK, hS, hN_l, hL_l, hN_3, hM⟩
def ref16_Last_W (v6 : Bool) (Q : Int → Prop) : Prop :=
 (v6 = true → Q 2) ∧ (v6 = false → Q 3)
theorem ref16_Last_walk {F : Fz} {fr : List Ow} {h0 : Heap} (v6 : Bool) (hS : St F (fr) h0)  {Q : Int → Prop} (hM : ref16_Last_W v6 Q) :
  HC Tryz.prog 9 #[.bool v6] h0 fun u h' => ∃ (F' : Fz) (r_1 : Int), u = .int .i64 r_1 ∧ Kp F h0 F' h' ∧ St F' (fr) h' ∧ Q r_1 := by
 unfold ref16_Last_W at hM
 have hK := Kp.refl F h0
 refine HC.of_HW (n := 4) Tryz.func9 rfl rfl (Nat.le_of_ble_eq_true rfl) ?_
 refine HW.seq ?_
 refine HW.region ?_
 refine oA (.int .i64 0) rfl rfl ?_
 refine HO.nil (thenQ_normal (?_))
 refine HW.seq ?_
 refine HW.seq ?_
 refine HW.region ?_
 refine oM (.bool v6) rfl rfl ?_
 refine HO.nil (thenQ_normal (?_))
 refine HW.cond v6 rfl (fun c_1 => ?_) (fun c_1 => ?_)
 ·
  replace hM := hM.1 c_1
  refine HW.seq ?_
  refine HW.region ?_
  refine oA (.int .i64 2) rfl rfl ?_
  refine HO.nil (thenQ_normal (?_))
  refine HW.ret (thenQ_ret (?_))
  refine ⟨.inr rfl, .int .i64 2, res1 rfl (rt rfl), ?_⟩
  exact ⟨F, 2, rfl, hK, hS, hM⟩
 ·
  replace hM := hM.2 c_1
  refine HW.skip (thenQ_normal (?_))
  refine HW.seq ?_
  refine HW.region ?_
  refine oA (.int .i64 3) rfl rfl ?_
  refine HO.nil (thenQ_normal (?_))
  refine HW.ret (?_)
  refine ⟨.inr rfl, .int .i64 3, res1 rfl (rt rfl), ?_⟩
  exact ⟨F, 3, rfl, hK, hS, hM⟩
def ref03_Group_W (a : T_api_Addr) (Q : Bool → Prop) : Prop :=
 (a.1 = true → ((b8 a.2 0) = 255 → Q true) ∧ (¬ ((b8 a.2 0) = 255) → ((!a.1) = true → (224 ≤ (b8 a.2 0) → Q (decide ((b8 a.2 0) ≤ 239))) ∧ (¬ (224 ≤ (b8 a.2 0)) → Q false)) ∧ ((!a.1) = false → Q false))) ∧ (a.1 = false → ((!a.1) = true → (224 ≤ (b8 a.2 0) → Q (decide ((b8 a.2 0) ≤ 239))) ∧ (¬ (224 ≤ (b8 a.2 0)) → Q false)) ∧ ((!a.1) = false → Q false))
theorem ref03_Group_walk {F : Fz} {fr : List Ow} {h0 : Heap} (a : T_api_Addr) (hS : St F (fr) h0)  {Q : Bool → Prop} (hM : ref03_Group_W a Q) :
  HC Tryz.prog 67 #[.agg (e_api_Addr a).toArray] h0 fun u h' => ∃ (F' : Fz) (r_1 : Bool), u = .bool r_1 ∧ Kp F h0 F' h' ∧ St F' (fr) h' ∧ Q r_1 := by
 unfold ref03_Group_W at hM
 have hK := Kp.refl F h0
 refine HC.of_HW (n := 28) Tryz.func67 rfl rfl (Nat.le_of_ble_eq_true rfl) ?_
 refine HW.seq ?_
 refine HW.region ?_
 refine HO.eff (want_none) rfl (st_box (c := (e_api_Addr a).toArray) (k' := 17) hS rfl rfl) ?_
 rintro _ h_1 ⟨b_1, rfl, hS, hk⟩
 replace hK := hK.trans hk
 refine oA (.bool false) rfl rfl ?_
 refine HO.nil (thenQ_normal (?_))
 refine HW.seq ?_
 refine HW.region ?_
 refine oV (.pointer (some ⟨b_1, 0, none⟩)) (q_fieldAddr fa_28_0 rfl rfl) rfl ?_
 refine oV (.bool a.1) (q_load to_4 rfl (Blk.cell (hS.box 0 rfl) rfl)) rfl ?_
 refine oM (.bool a.1) rfl rfl ?_
 rcases Bool.eq_false_or_eq_true a.1 with c_1 | c_1
 ·
  replace hM := hM.1 c_1
  refine HO.val (v := .pointer (some ⟨b_1, 1, none⟩)) (want_by rfl rfl c_1) rfl (q_fieldAddr fa_28_1 rfl rfl) ?_
  refine HO.val (v := .pointer (some ⟨b_1, 1, none⟩)) (want_by rfl rfl c_1) rfl (q_idxA (o := 1) (t := 0) tr_26 rfl rfl ⟨by decide, by decide⟩) ?_
  refine HO.val (v := .int .u8 (b8 a.2 0)) (want_by rfl rfl c_1) rfl (q_load to_5 rfl (Blk.cell (hS.box 0 rfl) rfl)) ?_
  refine HO.val (v := .bool (decide ((b8 a.2 0) = 255))) (want_by rfl rfl c_1) rfl (q_eql rfl rfl) ?_
  refine oV (.bool (decide ((b8 a.2 0) = 255))) (q_pickK true rfl c_1 rfl) rfl ?_
  refine oM (.bool (decide ((b8 a.2 0) = 255))) rfl rfl ?_
  rcases Bool.eq_false_or_eq_true (decide ((b8 a.2 0) = 255)) with c_2 | c_2
  ·
   replace hM := hM.1 (of_decide_eq_true c_2)
   refine HO.past (past_by rfl rfl c_2) rfl ?_
   refine HO.past (past_by rfl rfl c_2) rfl ?_
   refine HO.past (past_by rfl rfl c_2) rfl ?_
   refine HO.past (past_by rfl rfl c_2) rfl ?_
   refine HO.past (past_undef rfl rfl) rfl ?_
   refine HO.past (past_undef rfl rfl) rfl ?_
   refine HO.past (past_undef rfl rfl) rfl ?_
   refine HO.past (past_undef rfl rfl) rfl ?_
   refine HO.past (past_by rfl rfl c_2) rfl ?_
   refine HO.past (past_by rfl rfl c_2) rfl ?_
   refine HO.past (past_undef rfl rfl) rfl ?_
   refine HO.past (past_undef rfl rfl) rfl ?_
   refine HO.past (past_undef rfl rfl) rfl ?_
   refine HO.past (past_undef rfl rfl) rfl ?_
   refine HO.past (past_by rfl rfl c_2) rfl ?_
   refine oV (.bool true) (q_pickK true rfl c_2 rfl) rfl ?_
   refine oA (.bool true) rfl rfl ?_
   refine HO.nil (thenQ_normal (?_))
   refine HW.ret (?_)
   refine ⟨.inr rfl, .bool true, res1 rfl (rt rfl), ?_⟩
   replace hS : St F (fr) h_1 := hS.perm2 [] 1 rfl rfl
   exact ⟨F, true, rfl, hK, hS, hM⟩
  ·
   replace hM := hM.2 (of_decide_eq_false c_2)
   refine HO.val (v := .pointer (some ⟨b_1, 0, none⟩)) (want_by rfl rfl c_2) rfl (q_fieldAddr fa_28_0 rfl rfl) ?_
   refine HO.val (v := .bool a.1) (want_by rfl rfl c_2) rfl (q_load to_4 rfl (Blk.cell (hS.box 0 rfl) rfl)) ?_
   refine HO.val (v := .bool (!a.1)) (want_by rfl rfl c_2) rfl (q_not rfl) ?_
   refine HO.val (v := .bool (!a.1)) (want_by rfl rfl c_2) rfl (q_move rfl) ?_
   rcases Bool.eq_false_or_eq_true (!a.1) with c_3 | c_3
   ·
    replace hM := hM.1 c_3
    refine HO.val (v := .pointer (some ⟨b_1, 1, none⟩)) (want_by rfl rfl c_3) rfl (q_fieldAddr fa_28_1 rfl rfl) ?_
    refine HO.val (v := .pointer (some ⟨b_1, 1, none⟩)) (want_by rfl rfl c_3) rfl (q_idxA (o := 1) (t := 0) tr_26 rfl rfl ⟨by decide, by decide⟩) ?_
    refine HO.val (v := .int .u8 (b8 a.2 0)) (want_by rfl rfl c_3) rfl (q_load to_5 rfl (Blk.cell (hS.box 0 rfl) rfl)) ?_
    refine HO.val (v := .bool (decide (224 ≤ (b8 a.2 0)))) (want_by rfl rfl c_3) rfl (q_geq rfl rfl) ?_
    refine HO.val (v := .bool (decide (224 ≤ (b8 a.2 0)))) (want_by rfl rfl c_2) rfl (q_pickK true rfl c_3 rfl) ?_
    refine HO.val (v := .bool (decide (224 ≤ (b8 a.2 0)))) (want_by rfl rfl c_2) rfl (q_move rfl) ?_
    rcases Bool.eq_false_or_eq_true (decide (224 ≤ (b8 a.2 0))) with c_4 | c_4
    ·
     replace hM := hM.1 (of_decide_eq_true c_4)
     refine HO.val (v := .pointer (some ⟨b_1, 1, none⟩)) (want_by rfl rfl c_4) rfl (q_fieldAddr fa_28_1 rfl rfl) ?_
     refine HO.val (v := .pointer (some ⟨b_1, 1, none⟩)) (want_by rfl rfl c_4) rfl (q_idxA (o := 1) (t := 0) tr_26 rfl rfl ⟨by decide, by decide⟩) ?_
     refine HO.val (v := .int .u8 (b8 a.2 0)) (want_by rfl rfl c_4) rfl (q_load to_5 rfl (Blk.cell (hS.box 0 rfl) rfl)) ?_
     refine HO.val (v := .bool (decide ((b8 a.2 0) ≤ 239))) (want_by rfl rfl c_4) rfl (q_leq rfl rfl) ?_
     refine HO.val (v := .bool (decide ((b8 a.2 0) ≤ 239))) (want_by rfl rfl c_2) rfl (q_pickK true rfl c_4 rfl) ?_
     refine oV (.bool (decide ((b8 a.2 0) ≤ 239))) (q_pickK false rfl c_2 rfl) rfl ?_
     refine oA (.bool (decide ((b8 a.2 0) ≤ 239))) rfl rfl ?_
     refine HO.nil (thenQ_normal (?_))
     refine HW.ret (?_)
     refine ⟨.inr rfl, .bool (decide ((b8 a.2 0) ≤ 239)), res1 rfl (rt rfl), ?_⟩
     replace hS : St F (fr) h_1 := hS.perm2 [] 1 rfl rfl
     exact ⟨F, decide ((b8 a.2 0) ≤ 239), rfl, hK, hS, hM⟩
    ·
     replace hM := hM.2 (of_decide_eq_false c_4)
     refine HO.past (past_by rfl rfl c_4) rfl ?_
     refine HO.past (past_by rfl rfl c_4) rfl ?_
     refine HO.past (past_by rfl rfl c_4) rfl ?_
     refine HO.past (past_by rfl rfl c_4) rfl ?_
     refine HO.val (v := .bool false) (want_by rfl rfl c_2) rfl (q_pickK false rfl c_4 rfl) ?_
     refine oV (.bool false) (q_pickK false rfl c_2 rfl) rfl ?_
     refine oA (.bool false) rfl rfl ?_
     refine HO.nil (thenQ_normal (?_))
     refine HW.ret (?_)
     refine ⟨.inr rfl, .bool false, res1 rfl (rt rfl), ?_⟩
     replace hS : St F (fr) h_1 := hS.perm2 [] 1 rfl rfl
     exact ⟨F, false, rfl, hK, hS, hM⟩
   ·
    replace hM := hM.2 c_3
    refine HO.past (past_by rfl rfl c_3) rfl ?_
    refine HO.past (past_by rfl rfl c_3) rfl ?_
    refine HO.past (past_by rfl rfl c_3) rfl ?_
    refine HO.past (past_by rfl rfl c_3) rfl ?_
    refine HO.val (v := .bool false) (want_by rfl rfl c_2) rfl (q_pickK false rfl c_3 rfl) ?_
    refine HO.val (v := .bool false) (want_by rfl rfl c_2) rfl (q_move rfl) ?_
    refine HO.past (past_some rfl rfl) rfl ?_
    refine HO.past (past_some rfl rfl) rfl ?_
    refine HO.past (past_some rfl rfl) rfl ?_
    refine HO.past (past_some rfl rfl) rfl ?_
    refine HO.val (v := .bool false) (want_by rfl rfl c_2) rfl (q_pick rfl rfl) ?_
    refine oV (.bool false) (q_pickK false rfl c_2 rfl) rfl ?_
    refine oA (.bool false) rfl rfl ?_
    refine HO.nil (thenQ_normal (?_))
    refine HW.ret (?_)
    refine ⟨.inr rfl, .bool false, res1 rfl (rt rfl), ?_⟩
    replace hS : St F (fr) h_1 := hS.perm2 [] 1 rfl rfl
    exact ⟨F, false, rfl, hK, hS, hM⟩
 ·
  replace hM := hM.2 c_1
  refine HO.past (past_by rfl rfl c_1) rfl ?_
  refine HO.past (past_by rfl rfl c_1) rfl ?_
  refine HO.past (past_by rfl rfl c_1) rfl ?_
  refine HO.past (past_by rfl rfl c_1) rfl ?_
  refine oV (.bool false) (q_pickK false rfl c_1 rfl) rfl ?_
  refine oM (.bool false) rfl rfl ?_
  refine HO.val (v := .pointer (some ⟨b_1, 0, none⟩)) (want_some rfl rfl) rfl (q_fieldAddr fa_28_0 rfl rfl) ?_
  refine HO.val (v := .bool a.1) (want_some rfl rfl) rfl (q_load to_4 rfl (Blk.cell (hS.box 0 rfl) rfl)) ?_
  refine HO.val (v := .bool (!a.1)) (want_some rfl rfl) rfl (q_not rfl) ?_
  refine HO.val (v := .bool (!a.1)) (want_some rfl rfl) rfl (q_move rfl) ?_
  rcases Bool.eq_false_or_eq_true (!a.1) with c_5 | c_5
  ·
   replace hM := hM.1 c_5
   refine HO.val (v := .pointer (some ⟨b_1, 1, none⟩)) (want_by rfl rfl c_5) rfl (q_fieldAddr fa_28_1 rfl rfl) ?_
   refine HO.val (v := .pointer (some ⟨b_1, 1, none⟩)) (want_by rfl rfl c_5) rfl (q_idxA (o := 1) (t := 0) tr_26 rfl rfl ⟨by decide, by decide⟩) ?_
   refine HO.val (v := .int .u8 (b8 a.2 0)) (want_by rfl rfl c_5) rfl (q_load to_5 rfl (Blk.cell (hS.box 0 rfl) rfl)) ?_
   refine HO.val (v := .bool (decide (224 ≤ (b8 a.2 0)))) (want_by rfl rfl c_5) rfl (q_geq rfl rfl) ?_
   refine HO.val (v := .bool (decide (224 ≤ (b8 a.2 0)))) (want_some rfl rfl) rfl (q_pickK true rfl c_5 rfl) ?_
   refine HO.val (v := .bool (decide (224 ≤ (b8 a.2 0)))) (want_some rfl rfl) rfl (q_move rfl) ?_
   rcases Bool.eq_false_or_eq_true (decide (224 ≤ (b8 a.2 0))) with c_6 | c_6
   ·
    replace hM := hM.1 (of_decide_eq_true c_6)
    refine HO.val (v := .pointer (some ⟨b_1, 1, none⟩)) (want_by rfl rfl c_6) rfl (q_fieldAddr fa_28_1 rfl rfl) ?_
    refine HO.val (v := .pointer (some ⟨b_1, 1, none⟩)) (want_by rfl rfl c_6) rfl (q_idxA (o := 1) (t := 0) tr_26 rfl rfl ⟨by decide, by decide⟩) ?_
    refine HO.val (v := .int .u8 (b8 a.2 0)) (want_by rfl rfl c_6) rfl (q_load to_5 rfl (Blk.cell (hS.box 0 rfl) rfl)) ?_
    refine HO.val (v := .bool (decide ((b8 a.2 0) ≤ 239))) (want_by rfl rfl c_6) rfl (q_leq rfl rfl) ?_
    refine HO.val (v := .bool (decide ((b8 a.2 0) ≤ 239))) (want_some rfl rfl) rfl (q_pickK true rfl c_6 rfl) ?_
    refine oV (.bool (decide ((b8 a.2 0) ≤ 239))) (q_pick rfl rfl) rfl ?_
    refine oA (.bool (decide ((b8 a.2 0) ≤ 239))) rfl rfl ?_
    refine HO.nil (thenQ_normal (?_))
    refine HW.ret (?_)
    refine ⟨.inr rfl, .bool (decide ((b8 a.2 0) ≤ 239)), res1 rfl (rt rfl), ?_⟩
    replace hS : St F (fr) h_1 := hS.perm2 [] 1 rfl rfl
    exact ⟨F, decide ((b8 a.2 0) ≤ 239), rfl, hK, hS, hM⟩
   ·
    replace hM := hM.2 (of_decide_eq_false c_6)
    refine HO.past (past_by rfl rfl c_6) rfl ?_
    refine HO.past (past_by rfl rfl c_6) rfl ?_
    refine HO.past (past_by rfl rfl c_6) rfl ?_
    refine HO.past (past_by rfl rfl c_6) rfl ?_
    refine HO.val (v := .bool false) (want_some rfl rfl) rfl (q_pickK false rfl c_6 rfl) ?_
    refine oV (.bool false) (q_pick rfl rfl) rfl ?_
    refine oA (.bool false) rfl rfl ?_
    refine HO.nil (thenQ_normal (?_))
    refine HW.ret (?_)
    refine ⟨.inr rfl, .bool false, res1 rfl (rt rfl), ?_⟩
    replace hS : St F (fr) h_1 := hS.perm2 [] 1 rfl rfl
    exact ⟨F, false, rfl, hK, hS, hM⟩
  ·
   replace hM := hM.2 c_5
   refine HO.past (past_by rfl rfl c_5) rfl ?_
   refine HO.past (past_by rfl rfl c_5) rfl ?_
   refine HO.past (past_by rfl rfl c_5) rfl ?_
   refine HO.past (past_by rfl rfl c_5) rfl ?_
   refine HO.val (v := .bool false) (want_some rfl rfl) rfl (q_pickK false rfl c_5 rfl) ?_
   refine HO.val (v := .bool false) (want_some rfl rfl) rfl (q_move rfl) ?_
   refine HO.past (past_some rfl rfl) rfl ?_
   refine HO.past (past_some rfl rfl) rfl ?_
   refine HO.past (past_some rfl rfl) rfl ?_
   refine HO.past (past_some rfl rfl) rfl ?_
   refine HO.val (v := .bool false) (want_some rfl rfl) rfl (q_pick rfl rfl) ?_
   refine oV (.bool false) (q_pick rfl rfl) rfl ?_
   refine oA (.bool false) rfl rfl ?_
   refine HO.nil (thenQ_normal (?_))
   refine HW.ret (?_)
   refine ⟨.inr rfl, .bool false, res1 rfl (rt rfl), ?_⟩
   replace hS : St F (fr) h_1 := hS.perm2 [] 1 rfl rfl
   exact ⟨F, false, rfl, hK, hS, hM⟩
def ref09_Group_W (a : T_api_Addr) (Q : Bool → Prop) : Prop :=
 (a.1 = true → ref03_Group_W a (fun r_2 => Q r_2)) ∧ (a.1 = false → Q false)
theorem ref09_Group_walk {F : Fz} {fr : List Ow} {h0 : Heap} (a : T_api_Addr) (hS : St F (fr) h0)  {Q : Bool → Prop} (hM : ref09_Group_W a Q) :
  HC Tryz.prog 88 #[.agg (e_api_Addr a).toArray] h0 fun u h' => ∃ (F' : Fz) (r_1 : Bool), u = .bool r_1 ∧ Kp F h0 F' h' ∧ St F' (fr) h' ∧ Q r_1 := by
 unfold ref09_Group_W at hM
 have hK := Kp.refl F h0
 refine HC.of_HW (n := 9) Tryz.func88 rfl rfl (Nat.le_of_ble_eq_true rfl) ?_
 refine HW.seq ?_
 refine HW.region ?_
 refine HO.eff (want_none) rfl (st_box (c := (e_api_Addr a).toArray) (k' := 17) hS rfl rfl) ?_
 rintro _ h_1 ⟨b_1, rfl, hS, hk⟩
 replace hK := hK.trans hk
 refine oA (.bool false) rfl rfl ?_
 refine HO.nil (thenQ_normal (?_))
 refine HW.seq ?_
 refine HW.region ?_
 refine oV (.pointer (some ⟨b_1, 0, none⟩)) (q_fieldAddr fa_28_0 rfl rfl) rfl ?_
 refine oV (.bool a.1) (q_load to_4 rfl (Blk.cell (hS.box 0 rfl) rfl)) rfl ?_
 refine oM (.bool a.1) rfl rfl ?_
 rcases Bool.eq_false_or_eq_true a.1 with c_1 | c_1
 ·
  replace hM := hM.1 c_1
  refine HO.val (v := .agg (e_api_Addr a).toArray) (want_by rfl rfl c_1) rfl (q_loadAgg (cs := (e_api_Addr a)) ta_28 rfl rfl (Blk.cells (k := 17) (hS.box 0 rfl) rfl)) ?_
  refine HO.call (want_by rfl rfl c_1) rfl (ec en_67 rfl rfl) (ref03_Group_walk (fr := (Ow.box b_1 28 (e_api_Addr a).toArray :: fr)) a hS hM) ?_
  rintro _ h_2 ⟨F_1, r_2, rfl, hk, hS, hM⟩
  replace hK := hK.trans hk
  refine oV (.bool r_2) (q_pickK true rfl c_1 rfl) rfl ?_
  refine oA (.bool r_2) rfl rfl ?_
  refine HO.nil (thenQ_normal (?_))
  refine HW.ret (?_)
  refine ⟨.inr rfl, .bool r_2, res1 rfl (rt rfl), ?_⟩
  replace hS : St F_1 (fr) h_2 := hS.perm2 [] 1 rfl rfl
  exact ⟨F_1, r_2, rfl, hK, hS, hM⟩
 ·
  replace hM := hM.2 c_1
  refine HO.past (past_by rfl rfl c_1) rfl ?_
  refine HO.past (past_by rfl rfl c_1) rfl ?_
  refine oV (.bool false) (q_pickK false rfl c_1 rfl) rfl ?_
  refine oA (.bool false) rfl rfl ?_
  refine HO.nil (thenQ_normal (?_))
  refine HW.ret (?_)
  refine ⟨.inr rfl, .bool false, res1 rfl (rt rfl), ?_⟩
  replace hS : St F (fr) h_1 := hS.perm2 [] 1 rfl rfl
  exact ⟨F, false, rfl, hK, hS, hM⟩
def ref09_Sources_l1 (l : List T_api_Addr) (Q : Bool → Prop) (K_1 : Int → Prop) (i_1 : Int) : Prop :=
 (i_1 < (l.length : Int) → ((0 : Int) ≤ i_1 ∧ i_1 < (l.length : Int)) ∧ (((!((gi l i_1).1)) = true → Q false) ∧ ((!((gi l i_1).1)) = false → (I64 (i_1 + 1)) ∧ (K_1 (i_1 + 1))))) ∧ (¬ (i_1 < (l.length : Int)) → Q (decide ((l.length : Int) < 65)))
def ref09_Sources_W (l : List T_api_Addr) (Q : Bool → Prop) : Prop :=
 loopW (fun (K_1 : Int → Prop) (s : Int) => ref09_Sources_l1 l Q K_1 s) 0
theorem ref09_Sources_walk {F : Fz} {fr : List Ow} {h0 : Heap} (l : List T_api_Addr) (vl : Value) (hS : St F (fr) h0) (hL_l : SliceF F h0 17 e_api_Addr vl l) {Q : Bool → Prop} (hM : ref09_Sources_W l Q) :
  HC Tryz.prog 89 #[vl] h0 fun u h' => ∃ (F' : Fz) (r_1 : Bool), u = .bool r_1 ∧ Kp F h0 F' h' ∧ St F' (fr) h' ∧ (SliceF F' h' 17 e_api_Addr vl l) ∧ Q r_1 := by
 unfold ref09_Sources_W at hM
 have hK := Kp.refl F h0
 refine HC.of_HW (n := 19) Tryz.func89 rfl rfl (Nat.le_of_ble_eq_true rfl) ?_
 refine HW.seq ?_
 refine HW.region ?_
 refine oA (.bool false) rfl rfl ?_
 refine HO.nil (thenQ_normal (?_))
 refine HW.seq ?_
 refine HW.seq ?_
 refine HW.region ?_
 refine oA (.int .i64 0) rfl rfl ?_
 refine HO.nil (thenQ_normal (?_))
 refine HW.block ?_
 obtain ⟨I_1, m_1, hI_1, hR_1⟩ := hM
 refine HW.loop (S := Int) (fun i_1 f h => ∃ (F' : Fz), f 0 = vl ∧ f 2 = .bool false ∧ f 3 = .int .i64 i_1 ∧ Kp F h0 F' h ∧ St F' (fr) h ∧ (SliceF F' h 17 e_api_Addr vl l) ∧ I_1 i_1) m_1 0 ⟨F, rfl, rfl, rfl, hK, hS, hL_l, hI_1⟩ ?_
 rintro i_1 f_1 h_1 ⟨F_1, e0, e2, e3, hK, hS, hL_l, hI0⟩
 obtain ⟨K_1, hKe_1⟩ : ∃ K : Int → Prop, K = fun i_1' => I_1 i_1' ∧ m_1 i_1' < m_1 i_1 := ⟨_, rfl⟩
 have hM : ref09_Sources_l1 l Q K_1 i_1 := by rw [hKe_1]; exact hR_1 i_1 hI0
 unfold ref09_Sources_l1 at hM
 refine HW.fr [(0, vl), (2, .bool false), (3, .int .i64 i_1)] ⟨e0, e2, e3, trivial⟩ ?_
 refine HW.seq ?_
 refine HW.seq ?_
 refine HW.region ?_
 refine oM (.int .i64 i_1) rfl rfl ?_
 refine oM (vl) rfl rfl ?_
 refine oV (.int .i64 (l.length : Int)) (q_len ts_29 (shp hL_l.is) rfl rfl) rfl ?_
 refine oV (.bool (decide (i_1 < (l.length : Int)))) (q_lss rfl rfl) rfl ?_
 refine HO.nil (thenQ_normal (?_))
 refine HW.cond (decide (i_1 < (l.length : Int))) rfl (fun c_1 => ?_) (fun c_1 => ?_)
 ·
  replace hM := hM.1 (of_decide_eq_true c_1)
  refine HW.skip (thenQ_normal (?_))
  refine HW.seq ?_
  refine HW.block ?_
  refine HW.seq ?_
  refine HW.region ?_
  refine oM (vl) rfl rfl ?_
  refine oM (.int .i64 i_1) rfl rfl ?_
  obtain ⟨ho_1, hM⟩ := hM
  refine oV (elemPtr 17 vl (i_1).toNat) (q_idx ts_29 hL_l.is rfl rfl ho_1) rfl ?_
  refine oV (fieldPtr 17 vl (i_1).toNat 0) (q_fldElem fa_28_0 hL_l.is rfl ho_1) rfl ?_
  refine oV (.bool ((gi l i_1).1)) (q_ldField to_4 hL_l.is rfl ho_1 (by decide) rfl) rfl ?_
  refine oV (.bool (!((gi l i_1).1))) (q_not rfl) rfl ?_
  refine HO.nil (thenQ_normal (?_))
  refine HW.cond (!((gi l i_1).1)) rfl (fun c_2 => ?_) (fun c_2 => ?_)
  ·
   replace hM := hM.1 c_2
   refine HW.seq ?_
   refine HW.region ?_
   refine oA (.bool false) rfl rfl ?_
   refine HO.nil (thenQ_normal (?_))
   refine HW.ret (blockQ_ret (thenQ_ret (thenQ_ret (blockQ_ret (thenQ_ret (?_))))))
   refine ⟨.inr rfl, .bool false, res1 rfl (rt rfl), ?_⟩
   exact ⟨F_1, false, rfl, hK, hS, hL_l, hM⟩
  ·
   replace hM := hM.2 c_2
   refine HW.skip (blockQ_normal (thenQ_normal (?_)))
   refine HW.region ?_
   refine oM (.int .i64 i_1) rfl rfl ?_
   obtain ⟨ho_2, hM⟩ := hM
   refine oV (.int .i64 (i_1 + 1)) (q_addN _ rfl rfl rfl ho_2.1 ho_2.2) rfl ?_
   refine oA (.int .i64 (i_1 + 1)) rfl rfl ?_
   refine HO.nil (thenQ_normal (?_))
   rw [hKe_1] at hM
   exact ⟨i_1 + 1, ⟨F_1, rfl, rfl, rfl, hK, hS, hL_l, hM.1⟩, hM.2⟩
 ·
  replace hM := hM.2 (of_decide_eq_false c_1)
  refine HW.exit (thenQ_exit (thenQ_exit (blockQ_exit (thenQ_normal (?_)))))
  refine HW.seq ?_
  refine HW.region ?_
  refine oM (vl) rfl rfl ?_
  refine oV (.int .i64 (l.length : Int)) (q_len ts_29 (shp hL_l.is) rfl rfl) rfl ?_
  refine oV (.bool (decide ((l.length : Int) < 65))) (q_lss rfl rfl) rfl ?_
  refine oA (.bool (decide ((l.length : Int) < 65))) rfl rfl ?_
  refine HO.nil (thenQ_normal (?_))
  refine HW.ret (?_)
  refine ⟨.inr rfl, .bool (decide ((l.length : Int) < 65)), res1 rfl (rt rfl), ?_⟩
  exact ⟨F_1, decide ((l.length : Int) < 65), rfl, hK, hS, hL_l, hM⟩
def ref03_Zero_l1 (a : T_api_Addr) (Q : Bool → Prop) (K_1 : Int → Prop) (i_1 : Int) : Prop :=
 (i_1 < 16 → ((0 : Int) ≤ i_1 ∧ i_1 < 16) ∧ ((¬ ((b8 a.2 i_1) = 0) → Q false) ∧ ((b8 a.2 i_1) = 0 → (I64 (i_1 + 1)) ∧ (K_1 (i_1 + 1))))) ∧ (¬ (i_1 < 16) → Q true)
def ref03_Zero_W (a : T_api_Addr) (Q : Bool → Prop) : Prop :=
 loopW (fun (K_1 : Int → Prop) (s : Int) => ref03_Zero_l1 a Q K_1 s) 0
theorem ref03_Zero_walk {F : Fz} {fr : List Ow} {h0 : Heap} (a : T_api_Addr) (hS : St F (fr) h0)  {Q : Bool → Prop} (hM : ref03_Zero_W a Q) :
  HC Tryz.prog 90 #[.agg (e_api_Addr a).toArray] h0 fun u h' => ∃ (F' : Fz) (r_1 : Bool), u = .bool r_1 ∧ Kp F h0 F' h' ∧ St F' (fr) h' ∧ Q r_1 := by
 unfold ref03_Zero_W at hM
 have hK := Kp.refl F h0
 refine HC.of_HW (n := 13) Tryz.func90 rfl rfl (Nat.le_of_ble_eq_true rfl) ?_
 refine HW.seq ?_
 refine HW.region ?_
 refine HO.eff (want_none) rfl (st_box (c := (e_api_Addr a).toArray) (k' := 17) hS rfl rfl) ?_
 rintro _ h_1 ⟨b_1, rfl, hS, hk⟩
 replace hK := hK.trans hk
 refine oA (.bool false) rfl rfl ?_
 refine HO.nil (thenQ_normal (?_))
 refine HW.seq ?_
 refine HW.seq ?_
 refine HW.region ?_
 refine oA (.int .i64 0) rfl rfl ?_
 refine HO.nil (thenQ_normal (?_))
 refine HW.block ?_
 obtain ⟨I_1, m_1, hI_1, hR_1⟩ := hM
 refine HW.loop (S := Int) (fun i_1 f h => ∃ (F' : Fz), f 1 = .pointer (some ⟨b_1, 0, none⟩) ∧ f 2 = .bool false ∧ f 3 = .int .i64 i_1 ∧ Kp F h0 F' h ∧ St F' (Ow.box b_1 28 (e_api_Addr a).toArray :: fr) h ∧ I_1 i_1) m_1 0 ⟨F, rfl, rfl, rfl, hK, hS, hI_1⟩ ?_
 rintro i_1 f_1 h_2 ⟨F_1, e1, e2, e3, hK, hS, hI0⟩
 obtain ⟨K_1, hKe_1⟩ : ∃ K : Int → Prop, K = fun i_1' => I_1 i_1' ∧ m_1 i_1' < m_1 i_1 := ⟨_, rfl⟩
 have hM : ref03_Zero_l1 a Q K_1 i_1 := by rw [hKe_1]; exact hR_1 i_1 hI0
 unfold ref03_Zero_l1 at hM
 refine HW.fr [(1, .pointer (some ⟨b_1, 0, none⟩)), (2, .bool false), (3, .int .i64 i_1)] ⟨e1, e2, e3, trivial⟩ ?_
 refine HW.seq ?_
 refine HW.seq ?_
 refine HW.region ?_
 refine oM (.int .i64 i_1) rfl rfl ?_
 refine oV (.bool (decide (i_1 < 16))) (q_lss rfl rfl) rfl ?_
 refine HO.nil (thenQ_normal (?_))
 refine HW.cond (decide (i_1 < 16)) rfl (fun c_1 => ?_) (fun c_1 => ?_)
 ·
  replace hM := hM.1 (of_decide_eq_true c_1)
  refine HW.skip (thenQ_normal (?_))
  refine HW.seq ?_
  refine HW.block ?_
  refine HW.seq ?_
  refine HW.region ?_
  refine oM (.int .i64 i_1) rfl rfl ?_
  refine oV (.pointer (some ⟨b_1, 1, none⟩)) (q_fieldAddr fa_28_1 rfl rfl) rfl ?_
  obtain ⟨ho_1, hM⟩ := hM
  refine oV (.pointer (some ⟨b_1, 1 + (i_1).toNat, none⟩)) (q_idxA (o := 1) (t := i_1) tr_26 rfl rfl ho_1) rfl ?_
  refine oV (.int .u8 (b8 a.2 i_1)) (q_ldArr (o := 1) (t := i_1) (X := a.2) to_5 rfl (hS.box 0 rfl) rfl ho_1) rfl ?_
  refine oV (.bool (!decide ((b8 a.2 i_1) = 0))) (q_neq rfl rfl) rfl ?_
  refine HO.nil (thenQ_normal (?_))
  refine HW.cond (!decide ((b8 a.2 i_1) = 0)) rfl (fun c_2 => ?_) (fun c_2 => ?_)
  ·
   replace hM := hM.1 (nd_true c_2)
   refine HW.seq ?_
   refine HW.region ?_
   refine oA (.bool false) rfl rfl ?_
   refine HO.nil (thenQ_normal (?_))
   refine HW.ret (blockQ_ret (thenQ_ret (thenQ_ret (blockQ_ret (thenQ_ret (?_))))))
   refine ⟨.inr rfl, .bool false, res1 rfl (rt rfl), ?_⟩
   replace hS : St F_1 (fr) h_2 := hS.perm2 [] 1 rfl rfl
   exact ⟨F_1, false, rfl, hK, hS, hM⟩
  ·
   replace hM := hM.2 (nd_false c_2)
   refine HW.skip (blockQ_normal (thenQ_normal (?_)))
   refine HW.region ?_
   refine oM (.int .i64 i_1) rfl rfl ?_
   obtain ⟨ho_2, hM⟩ := hM
   refine oV (.int .i64 (i_1 + 1)) (q_addN _ rfl rfl rfl ho_2.1 ho_2.2) rfl ?_
   refine oA (.int .i64 (i_1 + 1)) rfl rfl ?_
   refine HO.nil (thenQ_normal (?_))
   rw [hKe_1] at hM
   exact ⟨i_1 + 1, ⟨F_1, rfl, rfl, rfl, hK, hS, hM.1⟩, hM.2⟩
 ·
  replace hM := hM.2 (of_decide_eq_false c_1)
  refine HW.exit (thenQ_exit (thenQ_exit (blockQ_exit (thenQ_normal (?_)))))
  refine HW.seq ?_
  refine HW.region ?_
  refine oA (.bool true) rfl rfl ?_
  refine HO.nil (thenQ_normal (?_))
  refine HW.ret (?_)
  refine ⟨.inr rfl, .bool true, res1 rfl (rt rfl), ?_⟩
  replace hS : St F_1 (fr) h_2 := hS.perm2 [] 1 rfl rfl
  exact ⟨F_1, true, rfl, hK, hS, hM⟩
def ref09_zero_W (a : T_api_Addr) (Q : Bool → Prop) : Prop :=
 (a.1 = true → ref03_Zero_W a (fun r_2 => Q r_2)) ∧ (a.1 = false → Q false)
theorem ref09_zero_walk {F : Fz} {fr : List Ow} {h0 : Heap} (a : T_api_Addr) (hS : St F (fr) h0)  {Q : Bool → Prop} (hM : ref09_zero_W a Q) :
  HC Tryz.prog 91 #[.agg (e_api_Addr a).toArray] h0 fun u h' => ∃ (F' : Fz) (r_1 : Bool), u = .bool r_1 ∧ Kp F h0 F' h' ∧ St F' (fr) h' ∧ Q r_1 := by
 unfold ref09_zero_W at hM
 have hK := Kp.refl F h0
 refine HC.of_HW (n := 9) Tryz.func91 rfl rfl (Nat.le_of_ble_eq_true rfl) ?_
 refine HW.seq ?_
 refine HW.region ?_
 refine HO.eff (want_none) rfl (st_box (c := (e_api_Addr a).toArray) (k' := 17) hS rfl rfl) ?_
 rintro _ h_1 ⟨b_1, rfl, hS, hk⟩
 replace hK := hK.trans hk
 refine oA (.bool false) rfl rfl ?_
 refine HO.nil (thenQ_normal (?_))
 refine HW.seq ?_
 refine HW.region ?_
 refine oV (.pointer (some ⟨b_1, 0, none⟩)) (q_fieldAddr fa_28_0 rfl rfl) rfl ?_
 refine oV (.bool a.1) (q_load to_4 rfl (Blk.cell (hS.box 0 rfl) rfl)) rfl ?_
 refine oM (.bool a.1) rfl rfl ?_
 rcases Bool.eq_false_or_eq_true a.1 with c_1 | c_1
 ·
  replace hM := hM.1 c_1
  refine HO.val (v := .agg (e_api_Addr a).toArray) (want_by rfl rfl c_1) rfl (q_loadAgg (cs := (e_api_Addr a)) ta_28 rfl rfl (Blk.cells (k := 17) (hS.box 0 rfl) rfl)) ?_
  refine HO.call (want_by rfl rfl c_1) rfl (ec en_90 rfl rfl) (ref03_Zero_walk (fr := (Ow.box b_1 28 (e_api_Addr a).toArray :: fr)) a hS hM) ?_
  rintro _ h_2 ⟨F_1, r_2, rfl, hk, hS, hM⟩
  replace hK := hK.trans hk
  refine oV (.bool r_2) (q_pickK true rfl c_1 rfl) rfl ?_
  refine oA (.bool r_2) rfl rfl ?_
  refine HO.nil (thenQ_normal (?_))
  refine HW.ret (?_)
  refine ⟨.inr rfl, .bool r_2, res1 rfl (rt rfl), ?_⟩
  replace hS : St F_1 (fr) h_2 := hS.perm2 [] 1 rfl rfl
  exact ⟨F_1, r_2, rfl, hK, hS, hM⟩
 ·
  replace hM := hM.2 c_1
  refine HO.past (past_by rfl rfl c_1) rfl ?_
  refine HO.past (past_by rfl rfl c_1) rfl ?_
  refine oV (.bool false) (q_pickK false rfl c_1 rfl) rfl ?_
  refine oA (.bool false) rfl rfl ?_
  refine HO.nil (thenQ_normal (?_))
  refine HW.ret (?_)
  refine ⟨.inr rfl, .bool false, res1 rfl (rt rfl), ?_⟩
  replace hS : St F (fr) h_1 := hS.perm2 [] 1 rfl rfl
  exact ⟨F, false, rfl, hK, hS, hM⟩
def ref07_value_l1 (Q : Int → Prop) (K_1 : Int → Int → Prop) (n_1 : Int) (k_1 : Int) : Prop :=
 (0 < k_1 → (I64 (2 * n_1)) ∧ ((I64 (k_1 - 1)) ∧ (K_1 (2 * n_1) (k_1 - 1)))) ∧ (¬ (0 < k_1) → Q n_1)
def ref07_value_W (c : Int) (unit : Int) (Q : Int → Prop) : Prop :=
 (I64 (8 * unit)) ∧ ((c < (8 * unit) → Q c) ∧ (¬ (c < (8 * unit)) → (unit ≠ 0) ∧ ((I64 ((c.tmod unit) + unit)) ∧ ((I64 (c.tdiv unit)) ∧ ((I64 (((c.tdiv unit).tmod 8) + 3)) ∧ (loopW (fun (K_1 : (Int × Int) → Prop) (s : Int × Int) => ref07_value_l1 Q (fun n_1 k_1 => K_1 (n_1, k_1)) s.1 s.2) ((c.tmod unit) + unit, ((c.tdiv unit).tmod 8) + 3)))))))
theorem ref07_value_walk {F : Fz} {fr : List Ow} {h0 : Heap} (c : Int) (unit : Int) (hS : St F (fr) h0)  {Q : Int → Prop} (hM : ref07_value_W c unit Q) :
  HC Tryz.prog 136 #[.int .i64 c, .int .i64 unit] h0 fun u h' => ∃ (F' : Fz) (r_1 : Int), u = .int .i64 r_1 ∧ Kp F h0 F' h' ∧ St F' (fr) h' ∧ Q r_1 := by
 unfold ref07_value_W at hM
 have hK := Kp.refl F h0
 refine HC.of_HW (n := 29) Tryz.func136 rfl rfl (Nat.le_of_ble_eq_true rfl) ?_
 refine HW.seq ?_
 refine HW.region ?_
 refine oA (.int .i64 0) rfl rfl ?_
 refine HO.nil (thenQ_normal (?_))
 refine HW.seq ?_
 refine HW.seq ?_
 refine HW.region ?_
 refine oM (.int .i64 c) rfl rfl ?_
 refine oM (.int .i64 unit) rfl rfl ?_
 obtain ⟨ho_1, hM⟩ := hM
 refine oV (.int .i64 (8 * unit)) (q_mulN _ rfl rfl rfl ho_1.1 ho_1.2) rfl ?_
 refine oV (.bool (decide (c < (8 * unit)))) (q_lss rfl rfl) rfl ?_
 refine HO.nil (thenQ_normal (?_))
 refine HW.cond (decide (c < (8 * unit))) rfl (fun c_1 => ?_) (fun c_1 => ?_)
 ·
  replace hM := hM.1 (of_decide_eq_true c_1)
  refine HW.seq ?_
  refine HW.region ?_
  refine oM (.int .i64 c) rfl rfl ?_
  refine oA (.int .i64 c) rfl rfl ?_
  refine HO.nil (thenQ_normal (?_))
  refine HW.ret (thenQ_ret (?_))
  refine ⟨.inr rfl, .int .i64 c, res1 rfl (rt rfl), ?_⟩
  exact ⟨F, c, rfl, hK, hS, hM⟩
 ·
  replace hM := hM.2 (of_decide_eq_false c_1)
  refine HW.skip (thenQ_normal (?_))
  refine HW.seq ?_
  refine HW.region ?_
  refine oM (.int .i64 c) rfl rfl ?_
  refine oM (.int .i64 unit) rfl rfl ?_
  obtain ⟨ho_2, hM⟩ := hM
  refine oV (.int .i64 (c.tmod unit)) (q_rem rfl rfl ho_2) rfl ?_
  refine oM (.int .i64 unit) rfl rfl ?_
  obtain ⟨ho_3, hM⟩ := hM
  refine oV (.int .i64 ((c.tmod unit) + unit)) (q_addN _ rfl rfl rfl ho_3.1 ho_3.2) rfl ?_
  refine oA (.int .i64 ((c.tmod unit) + unit)) rfl rfl ?_
  refine HO.nil (thenQ_normal (?_))
  refine HW.seq ?_
  refine HW.seq ?_
  refine HW.region ?_
  refine oM (.int .i64 c) rfl rfl ?_
  refine oM (.int .i64 unit) rfl rfl ?_
  obtain ⟨ho_4, hM⟩ := hM
  refine oV (.int .i64 (c.tdiv unit)) (q_quoN _ rfl rfl ho_2 rfl ho_4.1 ho_4.2) rfl ?_
  refine oV (.int .i64 ((c.tdiv unit).tmod 8)) (q_rem rfl rfl (by decide)) rfl ?_
  obtain ⟨ho_5, hM⟩ := hM
  refine oV (.int .i64 (((c.tdiv unit).tmod 8) + 3)) (q_addN _ rfl rfl rfl ho_5.1 ho_5.2) rfl ?_
  refine oA (.int .i64 (((c.tdiv unit).tmod 8) + 3)) rfl rfl ?_
  refine HO.nil (thenQ_normal (?_))
  refine HW.block ?_
  obtain ⟨I_1, m_1, hI_1, hR_1⟩ := hM
  refine HW.loop (S := Int × Int) (fun s f h => match s with | (n_1, k_1) => ∃ (F' : Fz), f 4 = .int .i64 0 ∧ f 5 = .int .i64 n_1 ∧ f 6 = .int .i64 k_1 ∧ Kp F h0 F' h ∧ St F' (fr) h ∧ I_1 (n_1, k_1)) m_1 ((c.tmod unit) + unit, ((c.tdiv unit).tmod 8) + 3) ⟨F, rfl, rfl, rfl, hK, hS, hI_1⟩ ?_
  rintro ⟨n_1, k_1⟩ f_1 h_1 ⟨F_1, e4, e5, e6, hK, hS, hI0⟩
  obtain ⟨K_1, hKe_1⟩ : ∃ K : Int → Int → Prop, K = fun n_1' k_1' => I_1 (n_1', k_1') ∧ m_1 (n_1', k_1') < m_1 (n_1, k_1) := ⟨_, rfl⟩
  have hM : ref07_value_l1 Q K_1 n_1 k_1 := by rw [hKe_1]; exact hR_1 (n_1, k_1) hI0
  unfold ref07_value_l1 at hM
  refine HW.fr [(4, .int .i64 0), (5, .int .i64 n_1), (6, .int .i64 k_1)] ⟨e4, e5, e6, trivial⟩ ?_
  refine HW.seq ?_
  refine HW.seq ?_
  refine HW.region ?_
  refine oM (.int .i64 k_1) rfl rfl ?_
  refine oV (.bool (decide (0 < k_1))) (q_gtr rfl rfl) rfl ?_
  refine HO.nil (thenQ_normal (?_))
  refine HW.cond (decide (0 < k_1)) rfl (fun c_2 => ?_) (fun c_2 => ?_)
  ·
   replace hM := hM.1 (of_decide_eq_true c_2)
   refine HW.skip (thenQ_normal (?_))
   refine HW.seq ?_
   refine HW.block ?_
   refine HW.region ?_
   refine oM (.int .i64 n_1) rfl rfl ?_
   obtain ⟨ho_6, hM⟩ := hM
   refine oV (.int .i64 (2 * n_1)) (q_mulN _ rfl rfl rfl ho_6.1 ho_6.2) rfl ?_
   refine oA (.int .i64 (2 * n_1)) rfl rfl ?_
   refine HO.nil (blockQ_normal (thenQ_normal (?_)))
   refine HW.region ?_
   refine oM (.int .i64 k_1) rfl rfl ?_
   obtain ⟨ho_7, hM⟩ := hM
   refine oV (.int .i64 (k_1 - 1)) (q_subN _ rfl rfl rfl ho_7.1 ho_7.2) rfl ?_
   refine oA (.int .i64 (k_1 - 1)) rfl rfl ?_
   refine HO.nil (thenQ_normal (?_))
   rw [hKe_1] at hM
   exact ⟨(2 * n_1, k_1 - 1), ⟨F_1, rfl, rfl, rfl, hK, hS, hM.1⟩, hM.2⟩
  ·
   replace hM := hM.2 (of_decide_eq_false c_2)
   refine HW.exit (thenQ_exit (thenQ_exit (blockQ_exit (thenQ_normal (?_)))))
   refine HW.seq ?_
   refine HW.region ?_
   refine oM (.int .i64 n_1) rfl rfl ?_
   refine oA (.int .i64 n_1) rfl rfl ?_
   refine HO.nil (thenQ_normal (?_))
   refine HW.ret (?_)
   refine ⟨.inr rfl, .int .i64 n_1, res1 rfl (rt rfl), ?_⟩
   exact ⟨F_1, n_1, rfl, hK, hS, hM⟩
def ref07_code_l1 (n : Int) (unit : Int) (Q : Int → Prop) (K_1 : Int → Int → Prop) (low_1 : Int) (high_1 : Int) : Prop :=
 (low_1 < high_1 → (I64 (low_1 + high_1)) ∧ ((I64 ((low_1 + high_1) + 1)) ∧ ((I64 (((low_1 + high_1) + 1).tdiv 2)) ∧ (ref07_value_W (((low_1 + high_1) + 1).tdiv 2) unit (fun r_2 => (r_2 ≤ n → K_1 (((low_1 + high_1) + 1).tdiv 2) high_1) ∧ (¬ (r_2 ≤ n) → (I64 ((((low_1 + high_1) + 1).tdiv 2) - 1)) ∧ (K_1 low_1 ((((low_1 + high_1) + 1).tdiv 2) - 1)))))))) ∧ (¬ (low_1 < high_1) → Q low_1)
def ref07_code_W (n : Int) (unit : Int) (most : Int) (Q : Int → Prop) : Prop :=
 loopW (fun (K_1 : (Int × Int) → Prop) (s : Int × Int) => ref07_code_l1 n unit Q (fun low_1 high_1 => K_1 (low_1, high_1)) s.1 s.2) (0, most)
theorem ref07_code_walk {F : Fz} {fr : List Ow} {h0 : Heap} (n : Int) (unit : Int) (most : Int) (hS : St F (fr) h0)  {Q : Int → Prop} (hM : ref07_code_W n unit most Q) :
  HC Tryz.prog 137 #[.int .i64 n, .int .i64 unit, .int .i64 most] h0 fun u h' => ∃ (F' : Fz) (r_1 : Int), u = .int .i64 r_1 ∧ Kp F h0 F' h' ∧ St F' (fr) h' ∧ Q r_1 := by
 unfold ref07_code_W at hM
 have hK := Kp.refl F h0
 refine HC.of_HW (n := 28) Tryz.func137 rfl rfl (Nat.le_of_ble_eq_true rfl) ?_
 refine HW.seq ?_
 refine HW.region ?_
 refine oA (.int .i64 0) rfl rfl ?_
 refine HO.nil (thenQ_normal (?_))
 refine HW.seq ?_
 refine HW.region ?_
 refine oM (.int .i64 most) rfl rfl ?_
 refine oA (.int .i64 0) rfl rfl ?_
 refine oA (.int .i64 most) rfl rfl ?_
 refine HO.nil (thenQ_normal (?_))
 refine HW.seq ?_
 refine HW.block ?_
 obtain ⟨I_1, m_1, hI_1, hR_1⟩ := hM
 refine HW.loop (S := Int × Int) (fun s f h => match s with | (low_1, high_1) => ∃ (F' : Fz), f 0 = .int .i64 n ∧ f 1 = .int .i64 unit ∧ f 6 = .int .i64 0 ∧ f 7 = .int .i64 low_1 ∧ f 8 = .int .i64 high_1 ∧ Kp F h0 F' h ∧ St F' (fr) h ∧ I_1 (low_1, high_1)) m_1 (0, most) ⟨F, rfl, rfl, rfl, rfl, rfl, hK, hS, hI_1⟩ ?_
 rintro ⟨low_1, high_1⟩ f_1 h_1 ⟨F_1, e0, e1, e6, e7, e8, hK, hS, hI0⟩
 obtain ⟨K_1, hKe_1⟩ : ∃ K : Int → Int → Prop, K = fun low_1' high_1' => I_1 (low_1', high_1') ∧ m_1 (low_1', high_1') < m_1 (low_1, high_1) := ⟨_, rfl⟩
 have hM : ref07_code_l1 n unit Q K_1 low_1 high_1 := by rw [hKe_1]; exact hR_1 (low_1, high_1) hI0
 unfold ref07_code_l1 at hM
 refine HW.fr [(0, .int .i64 n), (1, .int .i64 unit), (6, .int .i64 0), (7, .int .i64 low_1), (8, .int .i64 high_1)] ⟨e0, e1, e6, e7, e8, trivial⟩ ?_
 refine HW.seq ?_
 refine HW.seq ?_
 refine HW.region ?_
 refine oM (.int .i64 low_1) rfl rfl ?_
 refine oM (.int .i64 high_1) rfl rfl ?_
 refine oV (.bool (decide (low_1 < high_1))) (q_lss rfl rfl) rfl ?_
 refine HO.nil (thenQ_normal (?_))
 refine HW.cond (decide (low_1 < high_1)) rfl (fun c_1 => ?_) (fun c_1 => ?_)
 ·
  replace hM := hM.1 (of_decide_eq_true c_1)
  refine HW.skip (thenQ_normal (?_))
  refine HW.block ?_
  refine HW.seq ?_
  refine HW.region ?_
  refine oM (.int .i64 low_1) rfl rfl ?_
  refine oM (.int .i64 high_1) rfl rfl ?_
  obtain ⟨ho_1, hM⟩ := hM
  refine oV (.int .i64 (low_1 + high_1)) (q_addN _ rfl rfl rfl ho_1.1 ho_1.2) rfl ?_
  obtain ⟨ho_2, hM⟩ := hM
  refine oV (.int .i64 ((low_1 + high_1) + 1)) (q_addN _ rfl rfl rfl ho_2.1 ho_2.2) rfl ?_
  obtain ⟨ho_3, hM⟩ := hM
  refine oV (.int .i64 (((low_1 + high_1) + 1).tdiv 2)) (q_quoN _ rfl rfl (by decide) rfl ho_3.1 ho_3.2) rfl ?_
  refine oA (.int .i64 (((low_1 + high_1) + 1).tdiv 2)) rfl rfl ?_
  refine HO.nil (thenQ_normal (?_))
  refine HW.seq ?_
  refine HW.region ?_
  refine oM (.int .i64 (((low_1 + high_1) + 1).tdiv 2)) rfl rfl ?_
  refine oM (.int .i64 unit) rfl rfl ?_
  refine HO.call (want_none) rfl (ec en_136 rfl rfl) (ref07_value_walk (fr := (fr)) (((low_1 + high_1) + 1).tdiv 2) unit hS hM) ?_
  rintro _ h_2 ⟨F_2, r_2, rfl, hk, hS, hM⟩
  replace hK := hK.trans hk
  refine oM (.int .i64 n) rfl rfl ?_
  refine oV (.bool (decide (r_2 ≤ n))) (q_leq rfl rfl) rfl ?_
  refine HO.nil (thenQ_normal (?_))
  refine HW.cond (decide (r_2 ≤ n)) rfl (fun c_2 => ?_) (fun c_2 => ?_)
  ·
   replace hM := hM.1 (of_decide_eq_true c_2)
   refine HW.region ?_
   refine oM (.int .i64 (((low_1 + high_1) + 1).tdiv 2)) rfl rfl ?_
   refine oA (.int .i64 (((low_1 + high_1) + 1).tdiv 2)) rfl rfl ?_
   refine HO.nil (blockQ_normal (thenQ_normal (?_)))
   rw [hKe_1] at hM
   exact ⟨(((low_1 + high_1) + 1).tdiv 2, high_1), ⟨F_2, rfl, rfl, rfl, rfl, rfl, hK, hS, hM.1⟩, hM.2⟩
  ·
   replace hM := hM.2 (of_decide_eq_false c_2)
   refine HW.region ?_
   refine oM (.int .i64 (((low_1 + high_1) + 1).tdiv 2)) rfl rfl ?_
   obtain ⟨ho_4, hM⟩ := hM
   refine oV (.int .i64 ((((low_1 + high_1) + 1).tdiv 2) - 1)) (q_subN _ rfl rfl rfl ho_4.1 ho_4.2) rfl ?_
   refine oA (.int .i64 ((((low_1 + high_1) + 1).tdiv 2) - 1)) rfl rfl ?_
   refine HO.nil (blockQ_normal (thenQ_normal (?_)))
   rw [hKe_1] at hM
   exact ⟨(low_1, (((low_1 + high_1) + 1).tdiv 2) - 1), ⟨F_2, rfl, rfl, rfl, rfl, rfl, hK, hS, hM.1⟩, hM.2⟩
 ·
  replace hM := hM.2 (of_decide_eq_false c_1)
  refine HW.exit (thenQ_exit (thenQ_exit (blockQ_exit (thenQ_normal (?_)))))
  refine HW.seq ?_
  refine HW.region ?_
  refine oM (.int .i64 low_1) rfl rfl ?_
  refine oA (.int .i64 low_1) rfl rfl ?_
  refine HO.nil (thenQ_normal (?_))
  refine HW.ret (?_)
  refine ⟨.inr rfl, .int .i64 low_1, res1 rfl (rt rfl), ?_⟩
  exact ⟨F_1, low_1, rfl, hK, hS, hM⟩
def ref07_Code16_W (n : Int) (Q : Int → Prop) : Prop :=
 ref07_code_W n 4096 65535 (fun r_2 => Q r_2)
theorem ref07_Code16_walk {F : Fz} {fr : List Ow} {h0 : Heap} (n : Int) (hS : St F (fr) h0)  {Q : Int → Prop} (hM : ref07_Code16_W n Q) :
  HC Tryz.prog 93 #[.int .i64 n] h0 fun u h' => ∃ (F' : Fz) (r_1 : Int), u = .int .i64 r_1 ∧ Kp F h0 F' h' ∧ St F' (fr) h' ∧ Q r_1 := by
 unfold ref07_Code16_W at hM
 have hK := Kp.refl F h0
 refine HC.of_HW (n := 5) Tryz.func93 rfl rfl (Nat.le_of_ble_eq_true rfl) ?_
 refine HW.seq ?_
 refine HW.region ?_
 refine oA (.int .i64 0) rfl rfl ?_
 refine HO.nil (thenQ_normal (?_))
 refine HW.seq ?_
 refine HW.region ?_
 refine oM (.int .i64 n) rfl rfl ?_
 refine HO.call (want_none) rfl (ec en_137 rfl rfl) (ref07_code_walk (fr := (fr)) n 4096 65535 hS hM) ?_
 rintro _ h_1 ⟨F_1, r_2, rfl, hk, hS, hM⟩
 replace hK := hK.trans hk
 refine oA (.int .i64 r_2) rfl rfl ?_
 refine HO.nil (thenQ_normal (?_))
 refine HW.ret (?_)
 refine ⟨.inr rfl, .int .i64 r_2, res1 rfl (rt rfl), ?_⟩
 exact ⟨F_1, r_2, rfl, hK, hS, hM⟩
def ref01_Within_W (n : Int) (least : Int) (most : Int) (Q : Int → Prop) : Prop :=
 (n < least → Q least) ∧ (¬ (n < least) → (most < n → Q most) ∧ (¬ (most < n) → Q n))
theorem ref01_Within_walk {F : Fz} {fr : List Ow} {h0 : Heap} (n : Int) (least : Int) (most : Int) (hS : St F (fr) h0)  {Q : Int → Prop} (hM : ref01_Within_W n least most Q) :
  HC Tryz.prog 46 #[.int .i64 n, .int .i64 least, .int .i64 most] h0 fun u h' => ∃ (F' : Fz) (r_1 : Int), u = .int .i64 r_1 ∧ Kp F h0 F' h' ∧ St F' (fr) h' ∧ Q r_1 := by
 unfold ref01_Within_W at hM
 have hK := Kp.refl F h0
 refine HC.of_HW (n := 16) Tryz.func46 rfl rfl (Nat.le_of_ble_eq_true rfl) ?_
 refine HW.seq ?_
 refine HW.region ?_
 refine oA (.int .i64 0) rfl rfl ?_
 refine HO.nil (thenQ_normal (?_))
 refine HW.seq ?_
 refine HW.seq ?_
 refine HW.region ?_
 refine oM (.int .i64 n) rfl rfl ?_
 refine oM (.int .i64 least) rfl rfl ?_
 refine oV (.bool (decide (n < least))) (q_lss rfl rfl) rfl ?_
 refine HO.nil (thenQ_normal (?_))
 refine HW.cond (decide (n < least)) rfl (fun c_1 => ?_) (fun c_1 => ?_)
 ·
  replace hM := hM.1 (of_decide_eq_true c_1)
  refine HW.seq ?_
  refine HW.region ?_
  refine oM (.int .i64 least) rfl rfl ?_
  refine oA (.int .i64 least) rfl rfl ?_
  refine HO.nil (thenQ_normal (?_))
  refine HW.ret (thenQ_ret (?_))
  refine ⟨.inr rfl, .int .i64 least, res1 rfl (rt rfl), ?_⟩
  exact ⟨F, least, rfl, hK, hS, hM⟩
 ·
  replace hM := hM.2 (of_decide_eq_false c_1)
  refine HW.skip (thenQ_normal (?_))
  refine HW.seq ?_
  refine HW.seq ?_
  refine HW.region ?_
  refine oM (.int .i64 n) rfl rfl ?_
  refine oM (.int .i64 most) rfl rfl ?_
  refine oV (.bool (decide (most < n))) (q_gtr rfl rfl) rfl ?_
  refine HO.nil (thenQ_normal (?_))
  refine HW.cond (decide (most < n)) rfl (fun c_2 => ?_) (fun c_2 => ?_)
  ·
   replace hM := hM.1 (of_decide_eq_true c_2)
   refine HW.seq ?_
   refine HW.region ?_
   refine oM (.int .i64 most) rfl rfl ?_
   refine oA (.int .i64 most) rfl rfl ?_
   refine HO.nil (thenQ_normal (?_))
   refine HW.ret (thenQ_ret (?_))
   refine ⟨.inr rfl, .int .i64 most, res1 rfl (rt rfl), ?_⟩
   exact ⟨F, most, rfl, hK, hS, hM⟩
  ·
   replace hM := hM.2 (of_decide_eq_false c_2)
   refine HW.skip (thenQ_normal (?_))
   refine HW.seq ?_
   refine HW.region ?_
   refine oM (.int .i64 n) rfl rfl ?_
   refine oA (.int .i64 n) rfl rfl ?_
   refine HO.nil (thenQ_normal (?_))
   refine HW.ret (?_)
   refine ⟨.inr rfl, .int .i64 n, res1 rfl (rt rfl), ?_⟩
   exact ⟨F, n, rfl, hK, hS, hM⟩
def ref07_Value16_W (c : Int) (Q : Int → Prop) : Prop :=
 ref01_Within_W c 0 65535 (fun r_2 => ref07_value_W r_2 4096 (fun r_3 => Q r_3))
theorem ref07_Value16_walk {F : Fz} {fr : List Ow} {h0 : Heap} (c : Int) (hS : St F (fr) h0)  {Q : Int → Prop} (hM : ref07_Value16_W c Q) :
  HC Tryz.prog 92 #[.int .i64 c] h0 fun u h' => ∃ (F' : Fz) (r_1 : Int), u = .int .i64 r_1 ∧ Kp F h0 F' h' ∧ St F' (fr) h' ∧ Q r_1 := by
 unfold ref07_Value16_W at hM
 have hK := Kp.refl F h0
 refine HC.of_HW (n := 6) Tryz.func92 rfl rfl (Nat.le_of_ble_eq_true rfl) ?_
 refine HW.seq ?_
 refine HW.region ?_
 refine oA (.int .i64 0) rfl rfl ?_
 refine HO.nil (thenQ_normal (?_))
 refine HW.seq ?_
 refine HW.region ?_
 refine oM (.int .i64 c) rfl rfl ?_
 refine HO.call (want_none) rfl (ec en_46 rfl rfl) (ref01_Within_walk (fr := (fr)) c 0 65535 hS hM) ?_
 rintro _ h_1 ⟨F_1, r_2, rfl, hk, hS, hM⟩
 replace hK := hK.trans hk
 refine HO.call (want_none) rfl (ec en_136 rfl rfl) (ref07_value_walk (fr := (fr)) r_2 4096 hS hM) ?_
 rintro _ h_2 ⟨F_2, r_3, rfl, hk, hS, hM⟩
 replace hK := hK.trans hk
 refine oA (.int .i64 r_3) rfl rfl ?_
 refine HO.nil (thenQ_normal (?_))
 refine HW.ret (?_)
 refine ⟨.inr rfl, .int .i64 r_3, res1 rfl (rt rfl), ?_⟩
 exact ⟨F_2, r_3, rfl, hK, hS, hM⟩
def ref07_Code8_W (n : Int) (Q : Int → Prop) : Prop :=
 ref07_code_W n 16 255 (fun r_2 => Q r_2)
theorem ref07_Code8_walk {F : Fz} {fr : List Ow} {h0 : Heap} (n : Int) (hS : St F (fr) h0)  {Q : Int → Prop} (hM : ref07_Code8_W n Q) :
  HC Tryz.prog 95 #[.int .i64 n] h0 fun u h' => ∃ (F' : Fz) (r_1 : Int), u = .int .i64 r_1 ∧ Kp F h0 F' h' ∧ St F' (fr) h' ∧ Q r_1 := by
 unfold ref07_Code8_W at hM
 have hK := Kp.refl F h0
 refine HC.of_HW (n := 5) Tryz.func95 rfl rfl (Nat.le_of_ble_eq_true rfl) ?_
 refine HW.seq ?_
 refine HW.region ?_
 refine oA (.int .i64 0) rfl rfl ?_
 refine HO.nil (thenQ_normal (?_))
 refine HW.seq ?_
 refine HW.region ?_
 refine oM (.int .i64 n) rfl rfl ?_
 refine HO.call (want_none) rfl (ec en_137 rfl rfl) (ref07_code_walk (fr := (fr)) n 16 255 hS hM) ?_
 rintro _ h_1 ⟨F_1, r_2, rfl, hk, hS, hM⟩
 replace hK := hK.trans hk
 refine oA (.int .i64 r_2) rfl rfl ?_
 refine HO.nil (thenQ_normal (?_))
 refine HW.ret (?_)
 refine ⟨.inr rfl, .int .i64 r_2, res1 rfl (rt rfl), ?_⟩
 exact ⟨F_1, r_2, rfl, hK, hS, hM⟩
def ref07_Value8_W (c : Int) (Q : Int → Prop) : Prop :=
 ref01_Within_W c 0 255 (fun r_2 => ref07_value_W r_2 16 (fun r_3 => Q r_3))
theorem ref07_Value8_walk {F : Fz} {fr : List Ow} {h0 : Heap} (c : Int) (hS : St F (fr) h0)  {Q : Int → Prop} (hM : ref07_Value8_W c Q) :
  HC Tryz.prog 94 #[.int .i64 c] h0 fun u h' => ∃ (F' : Fz) (r_1 : Int), u = .int .i64 r_1 ∧ Kp F h0 F' h' ∧ St F' (fr) h' ∧ Q r_1 := by
 unfold ref07_Value8_W at hM
 have hK := Kp.refl F h0
 refine HC.of_HW (n := 6) Tryz.func94 rfl rfl (Nat.le_of_ble_eq_true rfl) ?_
 refine HW.seq ?_
 refine HW.region ?_
 refine oA (.int .i64 0) rfl rfl ?_
 refine HO.nil (thenQ_normal (?_))
 refine HW.seq ?_
 refine HW.region ?_
 refine oM (.int .i64 c) rfl rfl ?_
 refine HO.call (want_none) rfl (ec en_46 rfl rfl) (ref01_Within_walk (fr := (fr)) c 0 255 hS hM) ?_
 rintro _ h_1 ⟨F_1, r_2, rfl, hk, hS, hM⟩
 replace hK := hK.trans hk
 refine HO.call (want_none) rfl (ec en_136 rfl rfl) (ref07_value_walk (fr := (fr)) r_2 16 hS hM) ?_
 rintro _ h_2 ⟨F_2, r_3, rfl, hk, hS, hM⟩
 replace hK := hK.trans hk
 refine oA (.int .i64 r_3) rfl rfl ?_
 refine HO.nil (thenQ_normal (?_))
 refine HW.ret (?_)
 refine ⟨.inr rfl, .int .i64 r_3, res1 rfl (rt rfl), ?_⟩
 exact ⟨F_2, r_3, rfl, hK, hS, hM⟩
def ref09_Good_j5 (Q : Bool → Prop) (n_1 : Int) (i_1 : Int) (K_1 : Int → Int → Prop) (r_18_1 : List T_api_Addr) (b_4 : Bool) : Prop :=
 (b_4 = true → Q false) ∧ (b_4 = false → (I64 (n_1 + 20)) ∧ ((I64 (16 * (r_18_1.length : Int))) ∧ ((I64 ((n_1 + 20) + (16 * (r_18_1.length : Int)))) ∧ ((I64 (i_1 + 1)) ∧ (K_1 ((n_1 + 20) + (16 * (r_18_1.length : Int))) (i_1 + 1))))))
def ref09_Good_j6 (Q : Bool → Prop) (b_5 : Bool) : Prop :=
 Q b_5
def ref09_Good_l1 (t_Group : T_api_Addr) (t_Records : List T_api_Record) (Q : Bool → Prop) (K_1 : Int → Int → Prop) (n_1 : Int) (i_1 : Int) : Prop :=
 (i_1 < (t_Records.length : Int) → ((0 : Int) ≤ i_1 ∧ i_1 < (t_Records.length : Int)) ∧ ((((gi t_Records i_1).1) < 1 → ref09_Good_j5 Q n_1 i_1 K_1 (((gi t_Records i_1).2.2).2) true) ∧ (¬ (((gi t_Records i_1).1) < 1) → (6 < ((gi t_Records i_1).1) → ref09_Good_j5 Q n_1 i_1 K_1 (((gi t_Records i_1).2.2).2) true) ∧ (¬ (6 < ((gi t_Records i_1).1)) → ref09_Group_W ((gi t_Records i_1).2.1) (fun r_2 => ((!r_2) = true → ref09_Good_j5 Q n_1 i_1 K_1 (((gi t_Records i_1).2.2).2) true) ∧ ((!r_2) = false → ref09_Sources_W (((gi t_Records i_1).2.2).2) (fun r_3 => ref09_Good_j5 Q n_1 i_1 K_1 (((gi t_Records i_1).2.2).2) (!r_3)))))))) ∧ (¬ (i_1 < (t_Records.length : Int)) → ((!t_Group.1) = true → ref03_Zero_W t_Group (fun r_4 => (r_4 = true → ((t_Records.length : Int) < 65 → ref09_Good_j6 Q (decide (n_1 < 1401))) ∧ (¬ ((t_Records.length : Int) < 65) → ref09_Good_j6 Q false)) ∧ (r_4 = false → ref09_Good_j6 Q false))) ∧ ((!t_Group.1) = false → ref09_Good_j6 Q false))
def ref09_Good_j8 (t_Group : T_api_Addr) (t_Robust : Int) (t_Sources : List T_api_Addr) (Q : Bool → Prop) (exact_1 : Bool) : Prop :=
 (exact_1 = true → (0 ≤ t_Robust → (t_Robust < 8 → ref09_Sources_W t_Sources (fun r_12 => (r_12 = true → ref09_zero_W t_Group (fun r_13 => ((!r_13) = true → Q true) ∧ ((!r_13) = false → Q (decide ((t_Sources.length : Int) = 0))))) ∧ (r_12 = false → Q false))) ∧ (¬ (t_Robust < 8) → Q false)) ∧ (¬ (0 ≤ t_Robust) → Q false)) ∧ (exact_1 = false → Q false)
def ref09_Good_j7 (t_Version : Int) (t_Resp : Int) (t_Group : T_api_Addr) (t_Robust : Int) (t_Every : Int) (t_Sources : List T_api_Addr) (Q : Bool → Prop) : Prop :=
 (t_Version = 1 → Q (decide (t_Resp < 65536))) ∧ (¬ (t_Version = 1) → ref07_Code16_W t_Resp (fun r_8 => ref07_Value16_W r_8 (fun r_9 => (r_9 = t_Resp → (0 ≤ t_Every → ref07_Code8_W t_Every (fun r_10 => ref07_Value8_W r_10 (fun r_11 => ref09_Good_j8 t_Group t_Robust t_Sources Q (decide (r_11 = t_Every))))) ∧ (¬ (0 ≤ t_Every) → ref09_Good_j8 t_Group t_Robust t_Sources Q false)) ∧ (¬ (r_9 = t_Resp) → ref09_Good_j8 t_Group t_Robust t_Sources Q false))))
def ref09_Good_j4 (t_Version : Int) (t_Kind : Int) (t_Resp : Int) (t_Group : T_api_Addr) (t_Robust : Int) (t_Every : Int) (t_Sources : List T_api_Addr) (t_Records : List T_api_Record) (Q : Bool → Prop) (b_2 : Bool) : Prop :=
 (b_2 = true → loopW (fun (K_1 : (Int × Int) → Prop) (s : Int × Int) => ref09_Good_l1 t_Group t_Records Q (fun n_1 i_1 => K_1 (n_1, i_1)) s.1 s.2) (8, 0)) ∧ (b_2 = false → (0 < (t_Records.length : Int) → Q false) ∧ (¬ (0 < (t_Records.length : Int)) → (1 < t_Kind → ref09_Group_W t_Group (fun r_5 => Q r_5)) ∧ (¬ (1 < t_Kind) → ref09_zero_W t_Group (fun r_6 => ((!r_6) = true → ref09_Group_W t_Group (fun r_7 => ((!r_7) = true → Q false) ∧ ((!r_7) = false → (t_Resp < 0 → Q false) ∧ (¬ (t_Resp < 0) → ref09_Good_j7 t_Version t_Resp t_Group t_Robust t_Every t_Sources Q)))) ∧ ((!r_6) = false → (t_Resp < 0 → Q false) ∧ (¬ (t_Resp < 0) → ref09_Good_j7 t_Version t_Resp t_Group t_Robust t_Every t_Sources Q))))))
def ref09_Good_j3 (t_Version : Int) (t_Kind : Int) (t_Resp : Int) (t_Group : T_api_Addr) (t_Robust : Int) (t_Every : Int) (t_Sources : List T_api_Addr) (t_Records : List T_api_Record) (Q : Bool → Prop) : Prop :=
 (t_Version = 2 → ref09_Good_j4 t_Version t_Kind t_Resp t_Group t_Robust t_Every t_Sources t_Records Q (decide (t_Kind = 2))) ∧ (¬ (t_Version = 2) → ref09_Good_j4 t_Version t_Kind t_Resp t_Group t_Robust t_Every t_Sources t_Records Q false)
def ref09_Good_j2 (t_Version : Int) (t_Kind : Int) (t_Resp : Int) (t_Group : T_api_Addr) (t_Quiet : Bool) (t_Robust : Int) (t_Every : Int) (t_Sources : List T_api_Addr) (t_Records : List T_api_Record) (Q : Bool → Prop) (full_1 : Bool) : Prop :=
 ((!full_1) = true → (t_Quiet = true → Q false) ∧ (t_Quiet = false → (¬ (t_Robust = 0) → Q false) ∧ (t_Robust = 0 → (¬ (t_Every = 0) → Q false) ∧ (t_Every = 0 → (0 < (t_Sources.length : Int) → Q false) ∧ (¬ (0 < (t_Sources.length : Int)) → (¬ (t_Kind = 1) → (¬ (t_Resp = 0) → Q false) ∧ (t_Resp = 0 → ref09_Good_j3 t_Version t_Kind t_Resp t_Group t_Robust t_Every t_Sources t_Records Q)) ∧ (t_Kind = 1 → ref09_Good_j3 t_Version t_Kind t_Resp t_Group t_Robust t_Every t_Sources t_Records Q)))))) ∧ ((!full_1) = false → (¬ (t_Kind = 1) → (¬ (t_Resp = 0) → Q false) ∧ (t_Resp = 0 → ref09_Good_j3 t_Version t_Kind t_Resp t_Group t_Robust t_Every t_Sources t_Records Q)) ∧ (t_Kind = 1 → ref09_Good_j3 t_Version t_Kind t_Resp t_Group t_Robust t_Every t_Sources t_Records Q))
def ref09_Good_j1 (t_Version : Int) (t_Kind : Int) (t_Resp : Int) (t_Group : T_api_Addr) (t_Quiet : Bool) (t_Robust : Int) (t_Every : Int) (t_Sources : List T_api_Addr) (t_Records : List T_api_Record) (Q : Bool → Prop) : Prop :=
 (t_Version = 2 → ref09_Good_j2 t_Version t_Kind t_Resp t_Group t_Quiet t_Robust t_Every t_Sources t_Records Q (decide (t_Kind = 1))) ∧ (¬ (t_Version = 2) → ref09_Good_j2 t_Version t_Kind t_Resp t_Group t_Quiet t_Robust t_Every t_Sources t_Records Q false)
def ref09_Good_W (t_V6 : Bool) (t_Version : Int) (t_Kind : Int) (t_Resp : Int) (t_Group : T_api_Addr) (t_Quiet : Bool) (t_Robust : Int) (t_Every : Int) (t_Sources : List T_api_Addr) (t_Records : List T_api_Record) (Q : Bool → Prop) : Prop :=
 ((!t_V6) = true → Q false) ∧ ((!t_V6) = false → (t_Version < 1 → Q false) ∧ (¬ (t_Version < 1) → (2 < t_Version → Q false) ∧ (¬ (2 < t_Version) → (t_Kind < 1 → Q false) ∧ (¬ (t_Kind < 1) → (3 < t_Kind → Q false) ∧ (¬ (3 < t_Kind) → (t_Version = 2 → (t_Kind = 3 → Q false) ∧ (¬ (t_Kind = 3) → ref09_Good_j1 t_Version t_Kind t_Resp t_Group t_Quiet t_Robust t_Every t_Sources t_Records Q)) ∧ (¬ (t_Version = 2) → ref09_Good_j1 t_Version t_Kind t_Resp t_Group t_Quiet t_Robust t_Every t_Sources t_Records Q))))))
theorem ref09_Good_walk {F : Fz} {fr : List Ow} {h0 : Heap} (t_V6 : Bool) (t_Version : Int) (t_Kind : Int) (t_Resp : Int) (t_Group : T_api_Addr) (t_Quiet : Bool) (t_Robust : Int) (t_Every : Int) (t_Sources : List T_api_Addr) (t_Records : List T_api_Record) (vt_Sources : Value) (vt_Records : Value) (hS : St F (fr) h0) (hL_t_Sources : SliceF F h0 17 e_api_Addr vt_Sources t_Sources) (hN_t_Records : NfL nf_api_Record F h0 t_Records) (hL_t_Records : SliceF F h0 19 e_api_Record vt_Records t_Records) {Q : Bool → Prop} (hM : ref09_Good_W t_V6 t_Version t_Kind t_Resp t_Group t_Quiet t_Robust t_Every t_Sources t_Records Q) :
  HC Tryz.prog 39 #[.agg (c_api_Talk (.bool t_V6) (.int .i64 t_Version) (.int .i64 t_Kind) (.int .i64 t_Resp) t_Group (.bool t_Quiet) (.int .i64 t_Robust) (.int .i64 t_Every) vt_Sources vt_Records).toArray] h0 fun u h' => ∃ (F' : Fz) (r_1 : Bool), u = .bool r_1 ∧ Kp F h0 F' h' ∧ St F' (fr) h' ∧ (SliceF F' h' 17 e_api_Addr vt_Sources t_Sources) ∧ (NfL nf_api_Record F' h' t_Records) ∧ (SliceF F' h' 19 e_api_Record vt_Records t_Records) ∧ Q r_1 := by
 unfold ref09_Good_W at hM
 have hK := Kp.refl F h0
 refine HC.of_HW (n := 227) Tryz.func39 rfl rfl (Nat.le_of_ble_eq_true rfl) ?_
 refine HW.seq ?_
 refine HW.region ?_
 refine HO.eff (want_none) rfl (st_box (c := (c_api_Talk (.bool t_V6) (.int .i64 t_Version) (.int .i64 t_Kind) (.int .i64 t_Resp) t_Group (.bool t_Quiet) (.int .i64 t_Robust) (.int .i64 t_Every) vt_Sources vt_Records).toArray) (k' := 26) hS rfl rfl) ?_
 rintro _ h_1 ⟨b_1, rfl, hS, hk⟩
 replace hK := hK.trans hk
 replace hL_t_Sources := hL_t_Sources.kp hk
 replace hN_t_Records := hN_t_Records.kp hk
 replace hL_t_Records := hL_t_Records.kp hk
 refine oA (.bool false) rfl rfl ?_
 refine HO.nil (thenQ_normal (?_))
 refine HW.seq_mid (fun f h => ∃ (F' : Fz), f 1 = .pointer (some ⟨b_1, 0, none⟩) ∧ f 2 = .bool false ∧ Kp F h0 F' h ∧ St F' (Ow.box b_1 31 (c_api_Talk (.bool t_V6) (.int .i64 t_Version) (.int .i64 t_Kind) (.int .i64 t_Resp) t_Group (.bool t_Quiet) (.int .i64 t_Robust) (.int .i64 t_Every) vt_Sources vt_Records).toArray :: fr) h ∧ (SliceF F' h 17 e_api_Addr vt_Sources t_Sources) ∧ (NfL nf_api_Record F' h t_Records) ∧ (SliceF F' h 19 e_api_Record vt_Records t_Records) ∧ ref09_Good_j1 t_Version t_Kind t_Resp t_Group t_Quiet t_Robust t_Every t_Sources t_Records Q) ?_ ?_
 ·
  refine HW.seq ?_
  refine HW.region ?_
  refine oV (.pointer (some ⟨b_1, 0, none⟩)) (q_fieldAddr fa_31_0 rfl rfl) rfl ?_
  refine oV (.bool t_V6) (q_load to_4 rfl (Blk.cell (hS.box 0 rfl) rfl)) rfl ?_
  refine oV (.bool (!t_V6)) (q_not rfl) rfl ?_
  refine oM (.bool (!t_V6)) rfl rfl ?_
  rcases Bool.eq_false_or_eq_true (!t_V6) with c_1 | c_1
  ·
   replace hM := hM.1 c_1
   refine HO.past (past_by rfl rfl c_1) rfl ?_
   refine HO.past (past_by rfl rfl c_1) rfl ?_
   refine HO.past (past_by rfl rfl c_1) rfl ?_
   refine oV (.bool true) (q_pickK true rfl c_1 rfl) rfl ?_
   refine oM (.bool true) rfl rfl ?_
   refine HO.past (past_some rfl rfl) rfl ?_
   refine HO.past (past_some rfl rfl) rfl ?_
   refine HO.past (past_some rfl rfl) rfl ?_
   refine oV (.bool true) (q_pick rfl rfl) rfl ?_
   refine oM (.bool true) rfl rfl ?_
   refine HO.past (past_some rfl rfl) rfl ?_
   refine HO.past (past_some rfl rfl) rfl ?_
   refine HO.past (past_some rfl rfl) rfl ?_
   refine oV (.bool true) (q_pick rfl rfl) rfl ?_
   refine oM (.bool true) rfl rfl ?_
   refine HO.past (past_some rfl rfl) rfl ?_
   refine HO.past (past_some rfl rfl) rfl ?_
   refine HO.past (past_some rfl rfl) rfl ?_
   refine oV (.bool true) (q_pick rfl rfl) rfl ?_
   refine oM (.bool true) rfl rfl ?_
   refine HO.past (past_some rfl rfl) rfl ?_
   refine HO.past (past_some rfl rfl) rfl ?_
   refine HO.past (past_some rfl rfl) rfl ?_
   refine HO.past (past_some rfl rfl) rfl ?_
   refine HO.past (past_undef rfl rfl) rfl ?_
   refine HO.past (past_undef rfl rfl) rfl ?_
   refine HO.past (past_undef rfl rfl) rfl ?_
   refine HO.past (past_some rfl rfl) rfl ?_
   refine oV (.bool true) (q_pick rfl rfl) rfl ?_
   refine HO.nil (thenQ_normal (?_))
   refine HW.condT rfl ?_
   refine HW.seq ?_
   refine HW.region ?_
   refine oA (.bool false) rfl rfl ?_
   refine HO.nil (thenQ_normal (?_))
   refine HW.ret (thenQ_ret (?_))
   refine ⟨.inr rfl, .bool false, res1 rfl (rt rfl), ?_⟩
   replace hS : St F (fr) h_1 := hS.perm2 [] 1 rfl rfl
   exact ⟨F, false, rfl, hK, hS, hL_t_Sources, hN_t_Records, hL_t_Records, hM⟩
  ·
   replace hM := hM.2 c_1
   refine HO.val (v := .pointer (some ⟨b_1, 1, none⟩)) (want_by rfl rfl c_1) rfl (q_fieldAddr fa_31_1 rfl rfl) ?_
   refine HO.val (v := .int .i64 t_Version) (want_by rfl rfl c_1) rfl (q_load to_3 rfl (Blk.cell (hS.box 0 rfl) rfl)) ?_
   refine HO.val (v := .bool (decide (t_Version < 1))) (want_by rfl rfl c_1) rfl (q_lss rfl rfl) ?_
   refine oV (.bool (decide (t_Version < 1))) (q_pickK false rfl c_1 rfl) rfl ?_
   refine oM (.bool (decide (t_Version < 1))) rfl rfl ?_
   rcases Bool.eq_false_or_eq_true (decide (t_Version < 1)) with c_2 | c_2
   ·
    replace hM := hM.1 (of_decide_eq_true c_2)
    refine HO.past (past_by rfl rfl c_2) rfl ?_
    refine HO.past (past_by rfl rfl c_2) rfl ?_
    refine HO.past (past_by rfl rfl c_2) rfl ?_
    refine oV (.bool true) (q_pickK true rfl c_2 rfl) rfl ?_
    refine oM (.bool true) rfl rfl ?_
    refine HO.past (past_some rfl rfl) rfl ?_
    refine HO.past (past_some rfl rfl) rfl ?_
    refine HO.past (past_some rfl rfl) rfl ?_
    refine oV (.bool true) (q_pick rfl rfl) rfl ?_
    refine oM (.bool true) rfl rfl ?_
    refine HO.past (past_some rfl rfl) rfl ?_
    refine HO.past (past_some rfl rfl) rfl ?_
    refine HO.past (past_some rfl rfl) rfl ?_
    refine oV (.bool true) (q_pick rfl rfl) rfl ?_
    refine oM (.bool true) rfl rfl ?_
    refine HO.past (past_some rfl rfl) rfl ?_
    refine HO.past (past_some rfl rfl) rfl ?_
    refine HO.past (past_some rfl rfl) rfl ?_
    refine HO.past (past_some rfl rfl) rfl ?_
    refine HO.past (past_undef rfl rfl) rfl ?_
    refine HO.past (past_undef rfl rfl) rfl ?_
    refine HO.past (past_undef rfl rfl) rfl ?_
    refine HO.past (past_some rfl rfl) rfl ?_
    refine oV (.bool true) (q_pick rfl rfl) rfl ?_
    refine HO.nil (thenQ_normal (?_))
    refine HW.condT rfl ?_
    refine HW.seq ?_
    refine HW.region ?_
    refine oA (.bool false) rfl rfl ?_
    refine HO.nil (thenQ_normal (?_))
    refine HW.ret (thenQ_ret (?_))
    refine ⟨.inr rfl, .bool false, res1 rfl (rt rfl), ?_⟩
    replace hS : St F (fr) h_1 := hS.perm2 [] 1 rfl rfl
    exact ⟨F, false, rfl, hK, hS, hL_t_Sources, hN_t_Records, hL_t_Records, hM⟩
   ·
    replace hM := hM.2 (of_decide_eq_false c_2)
    refine HO.val (v := .pointer (some ⟨b_1, 1, none⟩)) (want_by rfl rfl c_2) rfl (q_fieldAddr fa_31_1 rfl rfl) ?_
    refine HO.val (v := .int .i64 t_Version) (want_by rfl rfl c_2) rfl (q_load to_3 rfl (Blk.cell (hS.box 0 rfl) rfl)) ?_
    refine HO.val (v := .bool (decide (2 < t_Version))) (want_by rfl rfl c_2) rfl (q_gtr rfl rfl) ?_
    refine oV (.bool (decide (2 < t_Version))) (q_pickK false rfl c_2 rfl) rfl ?_
    refine oM (.bool (decide (2 < t_Version))) rfl rfl ?_
    rcases Bool.eq_false_or_eq_true (decide (2 < t_Version)) with c_3 | c_3
    ·
     replace hM := hM.1 (of_decide_eq_true c_3)
     refine HO.past (past_by rfl rfl c_3) rfl ?_
     refine HO.past (past_by rfl rfl c_3) rfl ?_
     refine HO.past (past_by rfl rfl c_3) rfl ?_
     refine oV (.bool true) (q_pickK true rfl c_3 rfl) rfl ?_
     refine oM (.bool true) rfl rfl ?_
     refine HO.past (past_some rfl rfl) rfl ?_
     refine HO.past (past_some rfl rfl) rfl ?_
     refine HO.past (past_some rfl rfl) rfl ?_
     refine oV (.bool true) (q_pick rfl rfl) rfl ?_
     refine oM (.bool true) rfl rfl ?_
     refine HO.past (past_some rfl rfl) rfl ?_
     refine HO.past (past_some rfl rfl) rfl ?_
     refine HO.past (past_some rfl rfl) rfl ?_
     refine HO.past (past_some rfl rfl) rfl ?_
     refine HO.past (past_undef rfl rfl) rfl ?_
     refine HO.past (past_undef rfl rfl) rfl ?_
     refine HO.past (past_undef rfl rfl) rfl ?_
     refine HO.past (past_some rfl rfl) rfl ?_
     refine oV (.bool true) (q_pick rfl rfl) rfl ?_
     refine HO.nil (thenQ_normal (?_))
     refine HW.condT rfl ?_
     refine HW.seq ?_
     refine HW.region ?_
     refine oA (.bool false) rfl rfl ?_
     refine HO.nil (thenQ_normal (?_))
     refine HW.ret (thenQ_ret (?_))
     refine ⟨.inr rfl, .bool false, res1 rfl (rt rfl), ?_⟩
     replace hS : St F (fr) h_1 := hS.perm2 [] 1 rfl rfl
     exact ⟨F, false, rfl, hK, hS, hL_t_Sources, hN_t_Records, hL_t_Records, hM⟩
    ·
     replace hM := hM.2 (of_decide_eq_false c_3)
     refine HO.val (v := .pointer (some ⟨b_1, 2, none⟩)) (want_by rfl rfl c_3) rfl (q_fieldAddr fa_31_2 rfl rfl) ?_
     refine HO.val (v := .int .i64 t_Kind) (want_by rfl rfl c_3) rfl (q_load to_3 rfl (Blk.cell (hS.box 0 rfl) rfl)) ?_
     refine HO.val (v := .bool (decide (t_Kind < 1))) (want_by rfl rfl c_3) rfl (q_lss rfl rfl) ?_
     refine oV (.bool (decide (t_Kind < 1))) (q_pickK false rfl c_3 rfl) rfl ?_
     refine oM (.bool (decide (t_Kind < 1))) rfl rfl ?_
     rcases Bool.eq_false_or_eq_true (decide (t_Kind < 1)) with c_4 | c_4
     ·
      replace hM := hM.1 (of_decide_eq_true c_4)
      refine HO.past (past_by rfl rfl c_4) rfl ?_
      refine HO.past (past_by rfl rfl c_4) rfl ?_
      refine HO.past (past_by rfl rfl c_4) rfl ?_
      refine oV (.bool true) (q_pickK true rfl c_4 rfl) rfl ?_
      refine oM (.bool true) rfl rfl ?_
      refine HO.past (past_some rfl rfl) rfl ?_
      refine HO.past (past_some rfl rfl) rfl ?_
      refine HO.past (past_some rfl rfl) rfl ?_
      refine HO.past (past_some rfl rfl) rfl ?_
      refine HO.past (past_undef rfl rfl) rfl ?_
      refine HO.past (past_undef rfl rfl) rfl ?_
      refine HO.past (past_undef rfl rfl) rfl ?_
      refine HO.past (past_some rfl rfl) rfl ?_
      refine oV (.bool true) (q_pick rfl rfl) rfl ?_
      refine HO.nil (thenQ_normal (?_))
      refine HW.condT rfl ?_
      refine HW.seq ?_
      refine HW.region ?_
      refine oA (.bool false) rfl rfl ?_
      refine HO.nil (thenQ_normal (?_))
      refine HW.ret (thenQ_ret (?_))
      refine ⟨.inr rfl, .bool false, res1 rfl (rt rfl), ?_⟩
      replace hS : St F (fr) h_1 := hS.perm2 [] 1 rfl rfl
      exact ⟨F, false, rfl, hK, hS, hL_t_Sources, hN_t_Records, hL_t_Records, hM⟩
     ·
      replace hM := hM.2 (of_decide_eq_false c_4)
      refine HO.val (v := .pointer (some ⟨b_1, 2, none⟩)) (want_by rfl rfl c_4) rfl (q_fieldAddr fa_31_2 rfl rfl) ?_
      refine HO.val (v := .int .i64 t_Kind) (want_by rfl rfl c_4) rfl (q_load to_3 rfl (Blk.cell (hS.box 0 rfl) rfl)) ?_
      refine HO.val (v := .bool (decide (3 < t_Kind))) (want_by rfl rfl c_4) rfl (q_gtr rfl rfl) ?_
      refine oV (.bool (decide (3 < t_Kind))) (q_pickK false rfl c_4 rfl) rfl ?_
      refine oM (.bool (decide (3 < t_Kind))) rfl rfl ?_
      rcases Bool.eq_false_or_eq_true (decide (3 < t_Kind)) with c_5 | c_5
      ·
       replace hM := hM.1 (of_decide_eq_true c_5)
       refine HO.past (past_by rfl rfl c_5) rfl ?_
       refine HO.past (past_by rfl rfl c_5) rfl ?_
       refine HO.past (past_by rfl rfl c_5) rfl ?_
       refine HO.past (past_by rfl rfl c_5) rfl ?_
       refine HO.past (past_undef rfl rfl) rfl ?_
       refine HO.past (past_undef rfl rfl) rfl ?_
       refine HO.past (past_undef rfl rfl) rfl ?_
       refine HO.past (past_by rfl rfl c_5) rfl ?_
       refine oV (.bool true) (q_pickK true rfl c_5 rfl) rfl ?_
       refine HO.nil (thenQ_normal (?_))
       refine HW.condT rfl ?_
       refine HW.seq ?_
       refine HW.region ?_
       refine oA (.bool false) rfl rfl ?_
       refine HO.nil (thenQ_normal (?_))
       refine HW.ret (thenQ_ret (?_))
       refine ⟨.inr rfl, .bool false, res1 rfl (rt rfl), ?_⟩
       replace hS : St F (fr) h_1 := hS.perm2 [] 1 rfl rfl
       exact ⟨F, false, rfl, hK, hS, hL_t_Sources, hN_t_Records, hL_t_Records, hM⟩
      ·
       replace hM := hM.2 (of_decide_eq_false c_5)
       refine HO.val (v := .pointer (some ⟨b_1, 1, none⟩)) (want_by rfl rfl c_5) rfl (q_fieldAddr fa_31_1 rfl rfl) ?_
       refine HO.val (v := .int .i64 t_Version) (want_by rfl rfl c_5) rfl (q_load to_3 rfl (Blk.cell (hS.box 0 rfl) rfl)) ?_
       refine HO.val (v := .bool (decide (t_Version = 2))) (want_by rfl rfl c_5) rfl (q_eql rfl rfl) ?_
       refine HO.val (v := .bool (decide (t_Version = 2))) (want_by rfl rfl c_5) rfl (q_move rfl) ?_
       rcases Bool.eq_false_or_eq_true (decide (t_Version = 2)) with c_6 | c_6
       ·
        replace hM := hM.1 (of_decide_eq_true c_6)
        refine HO.val (v := .pointer (some ⟨b_1, 2, none⟩)) (want_by rfl rfl c_6) rfl (q_fieldAddr fa_31_2 rfl rfl) ?_
        refine HO.val (v := .int .i64 t_Kind) (want_by rfl rfl c_6) rfl (q_load to_3 rfl (Blk.cell (hS.box 0 rfl) rfl)) ?_
        refine HO.val (v := .bool (decide (t_Kind = 3))) (want_by rfl rfl c_6) rfl (q_eql rfl rfl) ?_
        refine HO.val (v := .bool (decide (t_Kind = 3))) (want_by rfl rfl c_5) rfl (q_pickK true rfl c_6 rfl) ?_
        refine oV (.bool (decide (t_Kind = 3))) (q_pickK false rfl c_5 rfl) rfl ?_
        refine HO.nil (thenQ_normal (?_))
        refine HW.cond (decide (t_Kind = 3)) rfl (fun c_7 => ?_) (fun c_7 => ?_)
        ·
         replace hM := hM.1 (of_decide_eq_true c_7)
         refine HW.seq ?_
         refine HW.region ?_
         refine oA (.bool false) rfl rfl ?_
         refine HO.nil (thenQ_normal (?_))
         refine HW.ret (thenQ_ret (?_))
         refine ⟨.inr rfl, .bool false, res1 rfl (rt rfl), ?_⟩
         replace hS : St F (fr) h_1 := hS.perm2 [] 1 rfl rfl
         exact ⟨F, false, rfl, hK, hS, hL_t_Sources, hN_t_Records, hL_t_Records, hM⟩
        ·
         replace hM := hM.2 (of_decide_eq_false c_7)
         refine HW.skip (thenQ_normal (?_))
         exact ⟨F, rfl, rfl, hK, hS, hL_t_Sources, hN_t_Records, hL_t_Records, hM⟩
       ·
        replace hM := hM.2 (of_decide_eq_false c_6)
        refine HO.past (past_by rfl rfl c_6) rfl ?_
        refine HO.past (past_by rfl rfl c_6) rfl ?_
        refine HO.past (past_by rfl rfl c_6) rfl ?_
        refine HO.val (v := .bool false) (want_by rfl rfl c_5) rfl (q_pickK false rfl c_6 rfl) ?_
        refine oV (.bool false) (q_pickK false rfl c_5 rfl) rfl ?_
        refine HO.nil (thenQ_normal (?_))
        refine HW.condF rfl ?_
        refine HW.skip (thenQ_normal (?_))
        exact ⟨F, rfl, rfl, hK, hS, hL_t_Sources, hN_t_Records, hL_t_Records, hM⟩
 ·
  rintro f_1 h_2 ⟨F_1, e1, e2, hK, hS, hL_t_Sources, hN_t_Records, hL_t_Records, hM⟩
  unfold ref09_Good_j1 at hM
  refine HW.fr [(1, .pointer (some ⟨b_1, 0, none⟩)), (2, .bool false)] ⟨e1, e2, trivial⟩ ?_
  refine HW.seq_mid (fun f h => ∃ (F' : Fz) (full_1 : Bool), f 1 = .pointer (some ⟨b_1, 0, none⟩) ∧ f 2 = .bool false ∧ f 3 = .bool full_1 ∧ Kp F h0 F' h ∧ St F' (Ow.box b_1 31 (c_api_Talk (.bool t_V6) (.int .i64 t_Version) (.int .i64 t_Kind) (.int .i64 t_Resp) t_Group (.bool t_Quiet) (.int .i64 t_Robust) (.int .i64 t_Every) vt_Sources vt_Records).toArray :: fr) h ∧ (SliceF F' h 17 e_api_Addr vt_Sources t_Sources) ∧ (NfL nf_api_Record F' h t_Records) ∧ (SliceF F' h 19 e_api_Record vt_Records t_Records) ∧ ref09_Good_j2 t_Version t_Kind t_Resp t_Group t_Quiet t_Robust t_Every t_Sources t_Records Q full_1) ?_ ?_
  ·
   refine HW.region ?_
   refine oV (.pointer (some ⟨b_1, 1, none⟩)) (q_fieldAddr fa_31_1 rfl rfl) rfl ?_
   refine oV (.int .i64 t_Version) (q_load to_3 rfl (Blk.cell (hS.box 0 rfl) rfl)) rfl ?_
   refine oV (.bool (decide (t_Version = 2))) (q_eql rfl rfl) rfl ?_
   refine oM (.bool (decide (t_Version = 2))) rfl rfl ?_
   rcases Bool.eq_false_or_eq_true (decide (t_Version = 2)) with c_8 | c_8
   ·
    replace hM := hM.1 (of_decide_eq_true c_8)
    refine HO.val (v := .pointer (some ⟨b_1, 2, none⟩)) (want_by rfl rfl c_8) rfl (q_fieldAddr fa_31_2 rfl rfl) ?_
    refine HO.val (v := .int .i64 t_Kind) (want_by rfl rfl c_8) rfl (q_load to_3 rfl (Blk.cell (hS.box 0 rfl) rfl)) ?_
    refine HO.val (v := .bool (decide (t_Kind = 1))) (want_by rfl rfl c_8) rfl (q_eql rfl rfl) ?_
    refine oV (.bool (decide (t_Kind = 1))) (q_pickK true rfl c_8 rfl) rfl ?_
    refine oA (.bool (decide (t_Kind = 1))) rfl rfl ?_
    refine HO.nil (thenQ_normal (?_))
    exact ⟨F_1, decide (t_Kind = 1), rfl, rfl, rfl, hK, hS, hL_t_Sources, hN_t_Records, hL_t_Records, hM⟩
   ·
    replace hM := hM.2 (of_decide_eq_false c_8)
    refine HO.past (past_by rfl rfl c_8) rfl ?_
    refine HO.past (past_by rfl rfl c_8) rfl ?_
    refine HO.past (past_by rfl rfl c_8) rfl ?_
    refine oV (.bool false) (q_pickK false rfl c_8 rfl) rfl ?_
    refine oA (.bool false) rfl rfl ?_
    refine HO.nil (thenQ_normal (?_))
    exact ⟨F_1, false, rfl, rfl, rfl, hK, hS, hL_t_Sources, hN_t_Records, hL_t_Records, hM⟩
  ·
   rintro f_2 h_3 ⟨F_2, full_1, e1, e2, e3, hK, hS, hL_t_Sources, hN_t_Records, hL_t_Records, hM⟩
   unfold ref09_Good_j2 at hM
   refine HW.fr [(1, .pointer (some ⟨b_1, 0, none⟩)), (2, .bool false), (3, .bool full_1)] ⟨e1, e2, e3, trivial⟩ ?_
   refine HW.seq_mid (fun f h => ∃ (F' : Fz), f 1 = .pointer (some ⟨b_1, 0, none⟩) ∧ f 2 = .bool false ∧ Kp F h0 F' h ∧ St F' (Ow.box b_1 31 (c_api_Talk (.bool t_V6) (.int .i64 t_Version) (.int .i64 t_Kind) (.int .i64 t_Resp) t_Group (.bool t_Quiet) (.int .i64 t_Robust) (.int .i64 t_Every) vt_Sources vt_Records).toArray :: fr) h ∧ (SliceF F' h 17 e_api_Addr vt_Sources t_Sources) ∧ (NfL nf_api_Record F' h t_Records) ∧ (SliceF F' h 19 e_api_Record vt_Records t_Records) ∧ ref09_Good_j3 t_Version t_Kind t_Resp t_Group t_Robust t_Every t_Sources t_Records Q) ?_ ?_
   ·
    refine HW.seq ?_
    refine HW.region ?_
    refine oM (.bool full_1) rfl rfl ?_
    refine oV (.bool (!full_1)) (q_not rfl) rfl ?_
    refine oM (.bool (!full_1)) rfl rfl ?_
    rcases Bool.eq_false_or_eq_true (!full_1) with c_9 | c_9
    ·
     replace hM := hM.1 c_9
     refine HO.val (v := .pointer (some ⟨b_1, 21, none⟩)) (want_by rfl rfl c_9) rfl (q_fieldAddr fa_31_5 rfl rfl) ?_
     refine HO.val (v := .bool t_Quiet) (want_by rfl rfl c_9) rfl (q_load to_4 rfl (Blk.cell (hS.box 0 rfl) rfl)) ?_
     refine HO.val (v := .bool t_Quiet) (want_by rfl rfl c_9) rfl (q_move rfl) ?_
     rcases Bool.eq_false_or_eq_true t_Quiet with c_10 | c_10
     ·
      replace hM := hM.1 c_10
      refine HO.past (past_by rfl rfl c_10) rfl ?_
      refine HO.past (past_by rfl rfl c_10) rfl ?_
      refine HO.past (past_by rfl rfl c_10) rfl ?_
      refine HO.val (v := .bool true) (want_by rfl rfl c_9) rfl (q_pickK true rfl c_10 rfl) ?_
      refine HO.val (v := .bool true) (want_by rfl rfl c_9) rfl (q_move rfl) ?_
      refine HO.past (past_some rfl rfl) rfl ?_
      refine HO.past (past_some rfl rfl) rfl ?_
      refine HO.past (past_some rfl rfl) rfl ?_
      refine HO.val (v := .bool true) (want_by rfl rfl c_9) rfl (q_pick rfl rfl) ?_
      refine HO.val (v := .bool true) (want_by rfl rfl c_9) rfl (q_move rfl) ?_
      refine HO.past (past_some rfl rfl) rfl ?_
      refine HO.past (past_some rfl rfl) rfl ?_
      refine HO.past (past_some rfl rfl) rfl ?_
      refine HO.past (past_some rfl rfl) rfl ?_
      refine HO.val (v := .bool true) (want_by rfl rfl c_9) rfl (q_pick rfl rfl) ?_
      refine oV (.bool true) (q_pickK true rfl c_9 rfl) rfl ?_
      refine oM (.bool true) rfl rfl ?_
      refine HO.past (past_some rfl rfl) rfl ?_
      refine HO.past (past_some rfl rfl) rfl ?_
      refine HO.past (past_some rfl rfl) rfl ?_
      refine HO.past (past_some rfl rfl) rfl ?_
      refine HO.past (past_undef rfl rfl) rfl ?_
      refine HO.past (past_undef rfl rfl) rfl ?_
      refine HO.past (past_undef rfl rfl) rfl ?_
      refine HO.past (past_some rfl rfl) rfl ?_
      refine oV (.bool true) (q_pick rfl rfl) rfl ?_
      refine HO.nil (thenQ_normal (?_))
      refine HW.condT rfl ?_
      refine HW.seq ?_
      refine HW.region ?_
      refine oA (.bool false) rfl rfl ?_
      refine HO.nil (thenQ_normal (?_))
      refine HW.ret (thenQ_ret (?_))
      refine ⟨.inr rfl, .bool false, res1 rfl (rt rfl), ?_⟩
      replace hS : St F_2 (fr) h_3 := hS.perm2 [] 1 rfl rfl
      exact ⟨F_2, false, rfl, hK, hS, hL_t_Sources, hN_t_Records, hL_t_Records, hM⟩
     ·
      replace hM := hM.2 c_10
      refine HO.val (v := .pointer (some ⟨b_1, 22, none⟩)) (want_by rfl rfl c_10) rfl (q_fieldAddr fa_31_6 rfl rfl) ?_
      refine HO.val (v := .int .i64 t_Robust) (want_by rfl rfl c_10) rfl (q_load to_3 rfl (Blk.cell (hS.box 0 rfl) rfl)) ?_
      refine HO.val (v := .bool (!decide (t_Robust = 0))) (want_by rfl rfl c_10) rfl (q_neq rfl rfl) ?_
      refine HO.val (v := .bool (!decide (t_Robust = 0))) (want_by rfl rfl c_9) rfl (q_pickK false rfl c_10 rfl) ?_
      refine HO.val (v := .bool (!decide (t_Robust = 0))) (want_by rfl rfl c_9) rfl (q_move rfl) ?_
      rcases Bool.eq_false_or_eq_true (!decide (t_Robust = 0)) with c_11 | c_11
      ·
       replace hM := hM.1 (nd_true c_11)
       refine HO.past (past_by rfl rfl c_11) rfl ?_
       refine HO.past (past_by rfl rfl c_11) rfl ?_
       refine HO.past (past_by rfl rfl c_11) rfl ?_
       refine HO.val (v := .bool true) (want_by rfl rfl c_9) rfl (q_pickK true rfl c_11 rfl) ?_
       refine HO.val (v := .bool true) (want_by rfl rfl c_9) rfl (q_move rfl) ?_
       refine HO.past (past_some rfl rfl) rfl ?_
       refine HO.past (past_some rfl rfl) rfl ?_
       refine HO.past (past_some rfl rfl) rfl ?_
       refine HO.past (past_some rfl rfl) rfl ?_
       refine HO.val (v := .bool true) (want_by rfl rfl c_9) rfl (q_pick rfl rfl) ?_
       refine oV (.bool true) (q_pickK true rfl c_9 rfl) rfl ?_
       refine oM (.bool true) rfl rfl ?_
       refine HO.past (past_some rfl rfl) rfl ?_
       refine HO.past (past_some rfl rfl) rfl ?_
       refine HO.past (past_some rfl rfl) rfl ?_
       refine HO.past (past_some rfl rfl) rfl ?_
       refine HO.past (past_undef rfl rfl) rfl ?_
       refine HO.past (past_undef rfl rfl) rfl ?_
       refine HO.past (past_undef rfl rfl) rfl ?_
       refine HO.past (past_some rfl rfl) rfl ?_
       refine oV (.bool true) (q_pick rfl rfl) rfl ?_
       refine HO.nil (thenQ_normal (?_))
       refine HW.condT rfl ?_
       refine HW.seq ?_
       refine HW.region ?_
       refine oA (.bool false) rfl rfl ?_
       refine HO.nil (thenQ_normal (?_))
       refine HW.ret (thenQ_ret (?_))
       refine ⟨.inr rfl, .bool false, res1 rfl (rt rfl), ?_⟩
       replace hS : St F_2 (fr) h_3 := hS.perm2 [] 1 rfl rfl
       exact ⟨F_2, false, rfl, hK, hS, hL_t_Sources, hN_t_Records, hL_t_Records, hM⟩
      ·
       replace hM := hM.2 (nd_false c_11)
       refine HO.val (v := .pointer (some ⟨b_1, 23, none⟩)) (want_by rfl rfl c_11) rfl (q_fieldAddr fa_31_7 rfl rfl) ?_
       refine HO.val (v := .int .i64 t_Every) (want_by rfl rfl c_11) rfl (q_load to_3 rfl (Blk.cell (hS.box 0 rfl) rfl)) ?_
       refine HO.val (v := .bool (!decide (t_Every = 0))) (want_by rfl rfl c_11) rfl (q_neq rfl rfl) ?_
       refine HO.val (v := .bool (!decide (t_Every = 0))) (want_by rfl rfl c_9) rfl (q_pickK false rfl c_11 rfl) ?_
       refine HO.val (v := .bool (!decide (t_Every = 0))) (want_by rfl rfl c_9) rfl (q_move rfl) ?_
       rcases Bool.eq_false_or_eq_true (!decide (t_Every = 0)) with c_12 | c_12
       ·
        replace hM := hM.1 (nd_true c_12)
        refine HO.past (past_by rfl rfl c_12) rfl ?_
        refine HO.past (past_by rfl rfl c_12) rfl ?_
        refine HO.past (past_by rfl rfl c_12) rfl ?_
        refine HO.past (past_by rfl rfl c_12) rfl ?_
        refine HO.val (v := .bool true) (want_by rfl rfl c_9) rfl (q_pickK true rfl c_12 rfl) ?_
        refine oV (.bool true) (q_pickK true rfl c_9 rfl) rfl ?_
        refine oM (.bool true) rfl rfl ?_
        refine HO.past (past_some rfl rfl) rfl ?_
        refine HO.past (past_some rfl rfl) rfl ?_
        refine HO.past (past_some rfl rfl) rfl ?_
        refine HO.past (past_some rfl rfl) rfl ?_
        refine HO.past (past_undef rfl rfl) rfl ?_
        refine HO.past (past_undef rfl rfl) rfl ?_
        refine HO.past (past_undef rfl rfl) rfl ?_
        refine HO.past (past_some rfl rfl) rfl ?_
        refine oV (.bool true) (q_pick rfl rfl) rfl ?_
        refine HO.nil (thenQ_normal (?_))
        refine HW.condT rfl ?_
        refine HW.seq ?_
        refine HW.region ?_
        refine oA (.bool false) rfl rfl ?_
        refine HO.nil (thenQ_normal (?_))
        refine HW.ret (thenQ_ret (?_))
        refine ⟨.inr rfl, .bool false, res1 rfl (rt rfl), ?_⟩
        replace hS : St F_2 (fr) h_3 := hS.perm2 [] 1 rfl rfl
        exact ⟨F_2, false, rfl, hK, hS, hL_t_Sources, hN_t_Records, hL_t_Records, hM⟩
       ·
        replace hM := hM.2 (nd_false c_12)
        refine HO.val (v := .pointer (some ⟨b_1, 24, none⟩)) (want_by rfl rfl c_12) rfl (q_fieldAddr fa_31_8 rfl rfl) ?_
        refine HO.val (v := vt_Sources) (want_by rfl rfl c_12) rfl (q_load to_29 rfl (Blk.cell (hS.box 0 rfl) rfl)) ?_
        refine HO.val (v := .int .i64 (t_Sources.length : Int)) (want_by rfl rfl c_12) rfl (q_len ts_29 (shp hL_t_Sources.is) rfl rfl) ?_
        refine HO.val (v := .bool (decide (0 < (t_Sources.length : Int)))) (want_by rfl rfl c_12) rfl (q_gtr rfl rfl) ?_
        refine HO.val (v := .bool (decide (0 < (t_Sources.length : Int)))) (want_by rfl rfl c_9) rfl (q_pickK false rfl c_12 rfl) ?_
        refine oV (.bool (decide (0 < (t_Sources.length : Int)))) (q_pickK true rfl c_9 rfl) rfl ?_
        refine oM (.bool (decide (0 < (t_Sources.length : Int)))) rfl rfl ?_
        rcases Bool.eq_false_or_eq_true (decide (0 < (t_Sources.length : Int))) with c_13 | c_13
        ·
         replace hM := hM.1 (of_decide_eq_true c_13)
         refine HO.past (past_by rfl rfl c_13) rfl ?_
         refine HO.past (past_by rfl rfl c_13) rfl ?_
         refine HO.past (past_by rfl rfl c_13) rfl ?_
         refine HO.past (past_by rfl rfl c_13) rfl ?_
         refine HO.past (past_undef rfl rfl) rfl ?_
         refine HO.past (past_undef rfl rfl) rfl ?_
         refine HO.past (past_undef rfl rfl) rfl ?_
         refine HO.past (past_by rfl rfl c_13) rfl ?_
         refine oV (.bool true) (q_pickK true rfl c_13 rfl) rfl ?_
         refine HO.nil (thenQ_normal (?_))
         refine HW.condT rfl ?_
         refine HW.seq ?_
         refine HW.region ?_
         refine oA (.bool false) rfl rfl ?_
         refine HO.nil (thenQ_normal (?_))
         refine HW.ret (thenQ_ret (?_))
         refine ⟨.inr rfl, .bool false, res1 rfl (rt rfl), ?_⟩
         replace hS : St F_2 (fr) h_3 := hS.perm2 [] 1 rfl rfl
         exact ⟨F_2, false, rfl, hK, hS, hL_t_Sources, hN_t_Records, hL_t_Records, hM⟩
        ·
         replace hM := hM.2 (of_decide_eq_false c_13)
         refine HO.val (v := .pointer (some ⟨b_1, 2, none⟩)) (want_by rfl rfl c_13) rfl (q_fieldAddr fa_31_2 rfl rfl) ?_
         refine HO.val (v := .int .i64 t_Kind) (want_by rfl rfl c_13) rfl (q_load to_3 rfl (Blk.cell (hS.box 0 rfl) rfl)) ?_
         refine HO.val (v := .bool (!decide (t_Kind = 1))) (want_by rfl rfl c_13) rfl (q_neq rfl rfl) ?_
         refine HO.val (v := .bool (!decide (t_Kind = 1))) (want_by rfl rfl c_13) rfl (q_move rfl) ?_
         rcases Bool.eq_false_or_eq_true (!decide (t_Kind = 1)) with c_14 | c_14
         ·
          replace hM := hM.1 (nd_true c_14)
          refine HO.val (v := .pointer (some ⟨b_1, 3, none⟩)) (want_by rfl rfl c_14) rfl (q_fieldAddr fa_31_3 rfl rfl) ?_
          refine HO.val (v := .int .i64 t_Resp) (want_by rfl rfl c_14) rfl (q_load to_3 rfl (Blk.cell (hS.box 0 rfl) rfl)) ?_
          refine HO.val (v := .bool (!decide (t_Resp = 0))) (want_by rfl rfl c_14) rfl (q_neq rfl rfl) ?_
          refine HO.val (v := .bool (!decide (t_Resp = 0))) (want_by rfl rfl c_13) rfl (q_pickK true rfl c_14 rfl) ?_
          refine oV (.bool (!decide (t_Resp = 0))) (q_pickK false rfl c_13 rfl) rfl ?_
          refine HO.nil (thenQ_normal (?_))
          refine HW.cond (!decide (t_Resp = 0)) rfl (fun c_15 => ?_) (fun c_15 => ?_)
          ·
           replace hM := hM.1 (nd_true c_15)
           refine HW.seq ?_
           refine HW.region ?_
           refine oA (.bool false) rfl rfl ?_
           refine HO.nil (thenQ_normal (?_))
           refine HW.ret (thenQ_ret (?_))
           refine ⟨.inr rfl, .bool false, res1 rfl (rt rfl), ?_⟩
           replace hS : St F_2 (fr) h_3 := hS.perm2 [] 1 rfl rfl
           exact ⟨F_2, false, rfl, hK, hS, hL_t_Sources, hN_t_Records, hL_t_Records, hM⟩
          ·
           replace hM := hM.2 (nd_false c_15)
           refine HW.skip (thenQ_normal (?_))
           exact ⟨F_2, rfl, rfl, hK, hS, hL_t_Sources, hN_t_Records, hL_t_Records, hM⟩
         ·
          replace hM := hM.2 (nd_false c_14)
          refine HO.past (past_by rfl rfl c_14) rfl ?_
          refine HO.past (past_by rfl rfl c_14) rfl ?_
          refine HO.past (past_by rfl rfl c_14) rfl ?_
          refine HO.val (v := .bool false) (want_by rfl rfl c_13) rfl (q_pickK false rfl c_14 rfl) ?_
          refine oV (.bool false) (q_pickK false rfl c_13 rfl) rfl ?_
          refine HO.nil (thenQ_normal (?_))
          refine HW.condF rfl ?_
          refine HW.skip (thenQ_normal (?_))
          exact ⟨F_2, rfl, rfl, hK, hS, hL_t_Sources, hN_t_Records, hL_t_Records, hM⟩
    ·
     replace hM := hM.2 c_9
     refine HO.past (past_by rfl rfl c_9) rfl ?_
     refine HO.past (past_by rfl rfl c_9) rfl ?_
     refine HO.past (past_by rfl rfl c_9) rfl ?_
     refine HO.past (past_undef rfl rfl) rfl ?_
     refine HO.past (past_undef rfl rfl) rfl ?_
     refine HO.past (past_undef rfl rfl) rfl ?_
     refine HO.past (past_by rfl rfl c_9) rfl ?_
     refine HO.past (past_by rfl rfl c_9) rfl ?_
     refine HO.past (past_undef rfl rfl) rfl ?_
     refine HO.past (past_undef rfl rfl) rfl ?_
     refine HO.past (past_undef rfl rfl) rfl ?_
     refine HO.past (past_by rfl rfl c_9) rfl ?_
     refine HO.past (past_by rfl rfl c_9) rfl ?_
     refine HO.past (past_undef rfl rfl) rfl ?_
     refine HO.past (past_undef rfl rfl) rfl ?_
     refine HO.past (past_undef rfl rfl) rfl ?_
     refine HO.past (past_undef rfl rfl) rfl ?_
     refine HO.past (past_by rfl rfl c_9) rfl ?_
     refine oV (.bool false) (q_pickK false rfl c_9 rfl) rfl ?_
     refine oM (.bool false) rfl rfl ?_
     refine HO.val (v := .pointer (some ⟨b_1, 2, none⟩)) (want_some rfl rfl) rfl (q_fieldAddr fa_31_2 rfl rfl) ?_
     refine HO.val (v := .int .i64 t_Kind) (want_some rfl rfl) rfl (q_load to_3 rfl (Blk.cell (hS.box 0 rfl) rfl)) ?_
     refine HO.val (v := .bool (!decide (t_Kind = 1))) (want_some rfl rfl) rfl (q_neq rfl rfl) ?_
     refine HO.val (v := .bool (!decide (t_Kind = 1))) (want_some rfl rfl) rfl (q_move rfl) ?_
     rcases Bool.eq_false_or_eq_true (!decide (t_Kind = 1)) with c_16 | c_16
     ·
      replace hM := hM.1 (nd_true c_16)
      refine HO.val (v := .pointer (some ⟨b_1, 3, none⟩)) (want_by rfl rfl c_16) rfl (q_fieldAddr fa_31_3 rfl rfl) ?_
      refine HO.val (v := .int .i64 t_Resp) (want_by rfl rfl c_16) rfl (q_load to_3 rfl (Blk.cell (hS.box 0 rfl) rfl)) ?_
      refine HO.val (v := .bool (!decide (t_Resp = 0))) (want_by rfl rfl c_16) rfl (q_neq rfl rfl) ?_
      refine HO.val (v := .bool (!decide (t_Resp = 0))) (want_some rfl rfl) rfl (q_pickK true rfl c_16 rfl) ?_
      refine oV (.bool (!decide (t_Resp = 0))) (q_pick rfl rfl) rfl ?_
      refine HO.nil (thenQ_normal (?_))
      refine HW.cond (!decide (t_Resp = 0)) rfl (fun c_17 => ?_) (fun c_17 => ?_)
      ·
       replace hM := hM.1 (nd_true c_17)
       refine HW.seq ?_
       refine HW.region ?_
       refine oA (.bool false) rfl rfl ?_
       refine HO.nil (thenQ_normal (?_))
       refine HW.ret (thenQ_ret (?_))
       refine ⟨.inr rfl, .bool false, res1 rfl (rt rfl), ?_⟩
       replace hS : St F_2 (fr) h_3 := hS.perm2 [] 1 rfl rfl
       exact ⟨F_2, false, rfl, hK, hS, hL_t_Sources, hN_t_Records, hL_t_Records, hM⟩
      ·
       replace hM := hM.2 (nd_false c_17)
       refine HW.skip (thenQ_normal (?_))
       exact ⟨F_2, rfl, rfl, hK, hS, hL_t_Sources, hN_t_Records, hL_t_Records, hM⟩
     ·
      replace hM := hM.2 (nd_false c_16)
      refine HO.past (past_by rfl rfl c_16) rfl ?_
      refine HO.past (past_by rfl rfl c_16) rfl ?_
      refine HO.past (past_by rfl rfl c_16) rfl ?_
      refine HO.val (v := .bool false) (want_some rfl rfl) rfl (q_pickK false rfl c_16 rfl) ?_
      refine oV (.bool false) (q_pick rfl rfl) rfl ?_
      refine HO.nil (thenQ_normal (?_))
      refine HW.condF rfl ?_
      refine HW.skip (thenQ_normal (?_))
      exact ⟨F_2, rfl, rfl, hK, hS, hL_t_Sources, hN_t_Records, hL_t_Records, hM⟩
   ·
    rintro f_3 h_4 ⟨F_3, e1, e2, hK, hS, hL_t_Sources, hN_t_Records, hL_t_Records, hM⟩
    unfold ref09_Good_j3 at hM
    refine HW.fr [(1, .pointer (some ⟨b_1, 0, none⟩)), (2, .bool false)] ⟨e1, e2, trivial⟩ ?_
    refine HW.seq ?_
    refine HW.seq_mid (fun f h => ∃ (F' : Fz) (b_2 : Bool), f 1 = .pointer (some ⟨b_1, 0, none⟩) ∧ f 2 = .bool false ∧ f 88 = .bool b_2 ∧ Kp F h0 F' h ∧ St F' (Ow.box b_1 31 (c_api_Talk (.bool t_V6) (.int .i64 t_Version) (.int .i64 t_Kind) (.int .i64 t_Resp) t_Group (.bool t_Quiet) (.int .i64 t_Robust) (.int .i64 t_Every) vt_Sources vt_Records).toArray :: fr) h ∧ (SliceF F' h 17 e_api_Addr vt_Sources t_Sources) ∧ (NfL nf_api_Record F' h t_Records) ∧ (SliceF F' h 19 e_api_Record vt_Records t_Records) ∧ ref09_Good_j4 t_Version t_Kind t_Resp t_Group t_Robust t_Every t_Sources t_Records Q b_2) ?_ ?_
    ·
     refine HW.region ?_
     refine oV (.pointer (some ⟨b_1, 1, none⟩)) (q_fieldAddr fa_31_1 rfl rfl) rfl ?_
     refine oV (.int .i64 t_Version) (q_load to_3 rfl (Blk.cell (hS.box 0 rfl) rfl)) rfl ?_
     refine oV (.bool (decide (t_Version = 2))) (q_eql rfl rfl) rfl ?_
     refine oM (.bool (decide (t_Version = 2))) rfl rfl ?_
     rcases Bool.eq_false_or_eq_true (decide (t_Version = 2)) with c_18 | c_18
     ·
      replace hM := hM.1 (of_decide_eq_true c_18)
      refine HO.val (v := .pointer (some ⟨b_1, 2, none⟩)) (want_by rfl rfl c_18) rfl (q_fieldAddr fa_31_2 rfl rfl) ?_
      refine HO.val (v := .int .i64 t_Kind) (want_by rfl rfl c_18) rfl (q_load to_3 rfl (Blk.cell (hS.box 0 rfl) rfl)) ?_
      refine HO.val (v := .bool (decide (t_Kind = 2))) (want_by rfl rfl c_18) rfl (q_eql rfl rfl) ?_
      refine oV (.bool (decide (t_Kind = 2))) (q_pickK true rfl c_18 rfl) rfl ?_
      refine HO.nil (thenQ_normal (?_))
      exact ⟨F_3, decide (t_Kind = 2), rfl, rfl, rfl, hK, hS, hL_t_Sources, hN_t_Records, hL_t_Records, hM⟩
     ·
      replace hM := hM.2 (of_decide_eq_false c_18)
      refine HO.past (past_by rfl rfl c_18) rfl ?_
      refine HO.past (past_by rfl rfl c_18) rfl ?_
      refine HO.past (past_by rfl rfl c_18) rfl ?_
      refine oV (.bool false) (q_pickK false rfl c_18 rfl) rfl ?_
      refine HO.nil (thenQ_normal (?_))
      exact ⟨F_3, false, rfl, rfl, rfl, hK, hS, hL_t_Sources, hN_t_Records, hL_t_Records, hM⟩
    ·
     rintro f_4 h_5 ⟨F_4, b_2, e1, e2, e88, hK, hS, hL_t_Sources, hN_t_Records, hL_t_Records, hM⟩
     unfold ref09_Good_j4 at hM
     refine HW.fr [(1, .pointer (some ⟨b_1, 0, none⟩)), (2, .bool false), (88, .bool b_2)] ⟨e1, e2, e88, trivial⟩ ?_
     refine HW.cond b_2 rfl (fun c_19 => ?_) (fun c_19 => ?_)
     ·
      replace hM := hM.1 c_19
      refine HW.seq ?_
      refine HW.region ?_
      refine oA (.int .i64 8) rfl rfl ?_
      refine HO.nil (thenQ_normal (?_))
      refine HW.seq ?_
      refine HW.seq ?_
      refine HW.region ?_
      refine oA (.int .i64 0) rfl rfl ?_
      refine HO.nil (thenQ_normal (?_))
      refine HW.block ?_
      obtain ⟨I_1, m_1, hI_1, hR_1⟩ := hM
      refine HW.loop (S := Int × Int) (fun s f h => match s with | (n_1, i_1) => ∃ (F' : Fz), f 1 = .pointer (some ⟨b_1, 0, none⟩) ∧ f 2 = .bool false ∧ f 4 = .int .i64 n_1 ∧ f 5 = .int .i64 i_1 ∧ Kp F h0 F' h ∧ St F' (Ow.box b_1 31 (c_api_Talk (.bool t_V6) (.int .i64 t_Version) (.int .i64 t_Kind) (.int .i64 t_Resp) t_Group (.bool t_Quiet) (.int .i64 t_Robust) (.int .i64 t_Every) vt_Sources vt_Records).toArray :: fr) h ∧ (SliceF F' h 17 e_api_Addr vt_Sources t_Sources) ∧ (NfL nf_api_Record F' h t_Records) ∧ (SliceF F' h 19 e_api_Record vt_Records t_Records) ∧ I_1 (n_1, i_1)) m_1 (8, 0) ⟨F_4, rfl, rfl, rfl, rfl, hK, hS, hL_t_Sources, hN_t_Records, hL_t_Records, hI_1⟩ ?_
      rintro ⟨n_1, i_1⟩ f_5 h_6 ⟨F_5, e1, e2, e4, e5, hK, hS, hL_t_Sources, hN_t_Records, hL_t_Records, hI0⟩
      obtain ⟨K_1, hKe_1⟩ : ∃ K : Int → Int → Prop, K = fun n_1' i_1' => I_1 (n_1', i_1') ∧ m_1 (n_1', i_1') < m_1 (n_1, i_1) := ⟨_, rfl⟩
      have hM : ref09_Good_l1 t_Group t_Records Q K_1 n_1 i_1 := by rw [hKe_1]; exact hR_1 (n_1, i_1) hI0
      unfold ref09_Good_l1 at hM
      refine HW.fr [(1, .pointer (some ⟨b_1, 0, none⟩)), (2, .bool false), (4, .int .i64 n_1), (5, .int .i64 i_1)] ⟨e1, e2, e4, e5, trivial⟩ ?_
      refine HW.seq ?_
      refine HW.seq ?_
      refine HW.region ?_
      refine oM (.int .i64 i_1) rfl rfl ?_
      refine oV (.pointer (some ⟨b_1, 25, none⟩)) (q_fieldAddr fa_31_9 rfl rfl) rfl ?_
      refine oV (vt_Records) (q_load to_22 rfl (Blk.cell (hS.box 0 rfl) rfl)) rfl ?_
      refine oV (.int .i64 (t_Records.length : Int)) (q_len ts_22 (shp hL_t_Records.is) rfl rfl) rfl ?_
      refine oV (.bool (decide (i_1 < (t_Records.length : Int)))) (q_lss rfl rfl) rfl ?_
      refine HO.nil (thenQ_normal (?_))
      refine HW.cond (decide (i_1 < (t_Records.length : Int))) rfl (fun c_20 => ?_) (fun c_20 => ?_)
      ·
       replace hM := hM.1 (of_decide_eq_true c_20)
       refine HW.skip (thenQ_normal (?_))
       refine HW.seq ?_
       refine HW.block ?_
       refine HW.seq ?_
       refine HW.region ?_
       refine oV (.pointer (some ⟨b_1, 25, none⟩)) (q_fieldAddr fa_31_9 rfl rfl) rfl ?_
       refine oV (vt_Records) (q_load to_22 rfl (Blk.cell (hS.box 0 rfl) rfl)) rfl ?_
       refine oM (.int .i64 i_1) rfl rfl ?_
       obtain ⟨ho_1, hM⟩ := hM
       refine oV (elemPtr 19 vt_Records (i_1).toNat) (q_idx ts_22 hL_t_Records.is rfl rfl ho_1) rfl ?_
       refine oV (.agg (c_api_Record (.int .i64 ((gi t_Records i_1).1)) ((gi t_Records i_1).2.1) (((gi t_Records i_1).2.2).1)).toArray) (q_ldElemAgg (cs := (c_api_Record (.int .i64 ((gi t_Records i_1).1)) ((gi t_Records i_1).2.1) (((gi t_Records i_1).2.2).1))) ta_89 hL_t_Records.is rfl ho_1 rfl) rfl ?_
       refine HO.eff (want_none) rfl (st_alloc (c := (c_api_Record (.int .i64 0) (false, (default : Ba 16)) (.slice none 0 0)).toArray) hS tz_89 rfl) ?_
       rintro _ h_7 ⟨b_3, rfl, hS, hk⟩
       replace hK := hK.trans hk
       replace hL_t_Sources := hL_t_Sources.kp hk
       replace hN_t_Records := hN_t_Records.kp hk
       replace hL_t_Records := hL_t_Records.kp hk
       refine HO.sto (want_none) rfl (st_storeAgg (c' := (c_api_Record (.int .i64 ((gi t_Records i_1).1)) ((gi t_Records i_1).2.1) (((gi t_Records i_1).2.2).1)).toArray) hS (i := 0) rfl ta_89 rfl rfl rfl (List.forall_mem_cons.2 ⟨rfl, (List.forall_mem_cons.2 ⟨rfl, (List.forall_mem_cons.2 ⟨rfl, (List.forall_mem_cons.2 ⟨rfl, (List.forall_mem_cons.2 ⟨rfl, (List.forall_mem_cons.2 ⟨rfl, (List.forall_mem_cons.2 ⟨rfl, (List.forall_mem_cons.2 ⟨rfl, (List.forall_mem_cons.2 ⟨rfl, (List.forall_mem_cons.2 ⟨rfl, (List.forall_mem_cons.2 ⟨rfl, (List.forall_mem_cons.2 ⟨rfl, (List.forall_mem_cons.2 ⟨rfl, (List.forall_mem_cons.2 ⟨rfl, (List.forall_mem_cons.2 ⟨rfl, (List.forall_mem_cons.2 ⟨rfl, (List.forall_mem_cons.2 ⟨rfl, (List.forall_mem_cons.2 ⟨rfl, (List.forall_mem_cons.2 ⟨(shp (nfi_api_Record_18 (NfI.at hN_t_Records.is ho_1))).one, (fun _ h => by cases h)⟩)⟩)⟩)⟩)⟩)⟩)⟩)⟩)⟩)⟩)⟩)⟩)⟩)⟩)⟩)⟩)⟩)⟩)⟩) (Nat.le_of_ble_eq_true rfl) rfl) ?_
       rintro h_8 ⟨hS, hk⟩
       replace hK := hK.trans hk
       replace hL_t_Sources := hL_t_Sources.kp hk
       replace hN_t_Records := hN_t_Records.kp hk
       replace hL_t_Records := hL_t_Records.kp hk
       refine HO.nil (thenQ_normal (?_))
       refine HW.seq ?_
       refine HW.seq_mid (fun f h => ∃ (F' : Fz) (r_18_1 : List T_api_Addr) (b_4 : Bool) (vr_18_1 : Value), f 1 = .pointer (some ⟨b_1, 0, none⟩) ∧ f 2 = .bool false ∧ f 4 = .int .i64 n_1 ∧ f 5 = .int .i64 i_1 ∧ f 6 = .pointer (some ⟨b_3, 0, none⟩) ∧ f 120 = .bool b_4 ∧ Kp F h0 F' h ∧ St F' (Ow.box b_1 31 (c_api_Talk (.bool t_V6) (.int .i64 t_Version) (.int .i64 t_Kind) (.int .i64 t_Resp) t_Group (.bool t_Quiet) (.int .i64 t_Robust) (.int .i64 t_Every) vt_Sources vt_Records).toArray :: Ow.box b_3 89 (c_api_Record (.int .i64 ((gi t_Records i_1).1)) ((gi t_Records i_1).2.1) vr_18_1).toArray :: fr) h ∧ (SliceF F' h 17 e_api_Addr vt_Sources t_Sources) ∧ (NfL nf_api_Record F' h t_Records) ∧ (SliceF F' h 19 e_api_Record vt_Records t_Records) ∧ (SliceF F' h 17 e_api_Addr vr_18_1 r_18_1) ∧ ref09_Good_j5 Q n_1 i_1 K_1 r_18_1 b_4) ?_ ?_
       ·
        refine HW.region ?_
        refine oV (.pointer (some ⟨b_3, 0, none⟩)) (q_fieldAddr fa_89_0 rfl rfl) rfl ?_
        refine oV (.int .i64 ((gi t_Records i_1).1)) (q_load to_3 rfl (Blk.cell (hS.box 0 rfl) rfl)) rfl ?_
        refine oV (.bool (decide (((gi t_Records i_1).1) < 1))) (q_lss rfl rfl) rfl ?_
        refine oM (.bool (decide (((gi t_Records i_1).1) < 1))) rfl rfl ?_
        rcases Bool.eq_false_or_eq_true (decide (((gi t_Records i_1).1) < 1)) with c_21 | c_21
        ·
         replace hM := hM.1 (of_decide_eq_true c_21)
         refine HO.past (past_by rfl rfl c_21) rfl ?_
         refine HO.past (past_by rfl rfl c_21) rfl ?_
         refine HO.past (past_by rfl rfl c_21) rfl ?_
         refine oV (.bool true) (q_pickK true rfl c_21 rfl) rfl ?_
         refine oM (.bool true) rfl rfl ?_
         refine HO.past (past_some rfl rfl) rfl ?_
         refine HO.past (past_some rfl rfl) rfl ?_
         refine HO.past (past_some rfl rfl) rfl ?_
         refine HO.past (past_some rfl rfl) rfl ?_
         refine oV (.bool true) (q_pick rfl rfl) rfl ?_
         refine oM (.bool true) rfl rfl ?_
         refine HO.past (past_some rfl rfl) rfl ?_
         refine HO.past (past_some rfl rfl) rfl ?_
         refine HO.past (past_some rfl rfl) rfl ?_
         refine HO.past (past_some rfl rfl) rfl ?_
         refine oV (.bool true) (q_pick rfl rfl) rfl ?_
         refine HO.nil (thenQ_normal (?_))
         replace hS : St F_5 (Ow.box b_1 31 (c_api_Talk (.bool t_V6) (.int .i64 t_Version) (.int .i64 t_Kind) (.int .i64 t_Resp) t_Group (.bool t_Quiet) (.int .i64 t_Robust) (.int .i64 t_Every) vt_Sources vt_Records).toArray :: Ow.box b_3 89 (c_api_Record (.int .i64 ((gi t_Records i_1).1)) ((gi t_Records i_1).2.1) (((gi t_Records i_1).2.2).1)).toArray :: fr) h_8 := hS.perm2 [1, 0] 2 rfl rfl
         exact ⟨F_5, ((gi t_Records i_1).2.2).2, true, ((gi t_Records i_1).2.2).1, rfl, rfl, rfl, rfl, rfl, rfl, hK, hS, hL_t_Sources, hN_t_Records, hL_t_Records, (nff_api_Record_18 (NfL.at hN_t_Records ho_1)), hM⟩
        ·
         replace hM := hM.2 (of_decide_eq_false c_21)
         refine HO.val (v := .pointer (some ⟨b_3, 0, none⟩)) (want_by rfl rfl c_21) rfl (q_fieldAddr fa_89_0 rfl rfl) ?_
         refine HO.val (v := .int .i64 ((gi t_Records i_1).1)) (want_by rfl rfl c_21) rfl (q_load to_3 rfl (Blk.cell (hS.box 0 rfl) rfl)) ?_
         refine HO.val (v := .bool (decide (6 < ((gi t_Records i_1).1)))) (want_by rfl rfl c_21) rfl (q_gtr rfl rfl) ?_
         refine oV (.bool (decide (6 < ((gi t_Records i_1).1)))) (q_pickK false rfl c_21 rfl) rfl ?_
         refine oM (.bool (decide (6 < ((gi t_Records i_1).1)))) rfl rfl ?_
         rcases Bool.eq_false_or_eq_true (decide (6 < ((gi t_Records i_1).1))) with c_22 | c_22
         ·
          replace hM := hM.1 (of_decide_eq_true c_22)
          refine HO.past (past_by rfl rfl c_22) rfl ?_
          refine HO.past (past_by rfl rfl c_22) rfl ?_
          refine HO.past (past_by rfl rfl c_22) rfl ?_
          refine HO.past (past_by rfl rfl c_22) rfl ?_
          refine oV (.bool true) (q_pickK true rfl c_22 rfl) rfl ?_
          refine oM (.bool true) rfl rfl ?_
          refine HO.past (past_some rfl rfl) rfl ?_
          refine HO.past (past_some rfl rfl) rfl ?_
          refine HO.past (past_some rfl rfl) rfl ?_
          refine HO.past (past_some rfl rfl) rfl ?_
          refine oV (.bool true) (q_pick rfl rfl) rfl ?_
          refine HO.nil (thenQ_normal (?_))
          replace hS : St F_5 (Ow.box b_1 31 (c_api_Talk (.bool t_V6) (.int .i64 t_Version) (.int .i64 t_Kind) (.int .i64 t_Resp) t_Group (.bool t_Quiet) (.int .i64 t_Robust) (.int .i64 t_Every) vt_Sources vt_Records).toArray :: Ow.box b_3 89 (c_api_Record (.int .i64 ((gi t_Records i_1).1)) ((gi t_Records i_1).2.1) (((gi t_Records i_1).2.2).1)).toArray :: fr) h_8 := hS.perm2 [1, 0] 2 rfl rfl
          exact ⟨F_5, ((gi t_Records i_1).2.2).2, true, ((gi t_Records i_1).2.2).1, rfl, rfl, rfl, rfl, rfl, rfl, hK, hS, hL_t_Sources, hN_t_Records, hL_t_Records, (nff_api_Record_18 (NfL.at hN_t_Records ho_1)), hM⟩
         ·
          replace hM := hM.2 (of_decide_eq_false c_22)
          refine HO.val (v := .pointer (some ⟨b_3, 1, none⟩)) (want_by rfl rfl c_22) rfl (q_fieldAddr fa_89_1 rfl rfl) ?_
          refine HO.val (v := .agg (e_api_Addr ((gi t_Records i_1).2.1)).toArray) (want_by rfl rfl c_22) rfl (q_loadAgg (cs := (e_api_Addr ((gi t_Records i_1).2.1))) ta_28 rfl rfl (Blk.cells (k := 17) (hS.box 0 rfl) rfl)) ?_
          refine HO.call (want_by rfl rfl c_22) rfl (ec en_88 rfl rfl) (ref09_Group_walk (fr := (Ow.box b_3 89 (c_api_Record (.int .i64 ((gi t_Records i_1).1)) ((gi t_Records i_1).2.1) (((gi t_Records i_1).2.2).1)).toArray :: Ow.box b_1 31 (c_api_Talk (.bool t_V6) (.int .i64 t_Version) (.int .i64 t_Kind) (.int .i64 t_Resp) t_Group (.bool t_Quiet) (.int .i64 t_Robust) (.int .i64 t_Every) vt_Sources vt_Records).toArray :: fr)) ((gi t_Records i_1).2.1) hS hM) ?_
          rintro _ h_9 ⟨F_6, r_2, rfl, hk, hS, hM⟩
          replace hK := hK.trans hk
          replace hL_t_Sources := hL_t_Sources.kp hk
          replace hN_t_Records := hN_t_Records.kp hk
          replace hL_t_Records := hL_t_Records.kp hk
          refine HO.val (v := .bool (!r_2)) (want_by rfl rfl c_22) rfl (q_not rfl) ?_
          refine oV (.bool (!r_2)) (q_pickK false rfl c_22 rfl) rfl ?_
          refine oM (.bool (!r_2)) rfl rfl ?_
          rcases Bool.eq_false_or_eq_true (!r_2) with c_23 | c_23
          ·
           replace hM := hM.1 c_23
           refine HO.past (past_by rfl rfl c_23) rfl ?_
           refine HO.past (past_by rfl rfl c_23) rfl ?_
           refine HO.past (past_by rfl rfl c_23) rfl ?_
           refine HO.past (past_by rfl rfl c_23) rfl ?_
           refine oV (.bool true) (q_pickK true rfl c_23 rfl) rfl ?_
           refine HO.nil (thenQ_normal (?_))
           replace hS : St F_6 (Ow.box b_1 31 (c_api_Talk (.bool t_V6) (.int .i64 t_Version) (.int .i64 t_Kind) (.int .i64 t_Resp) t_Group (.bool t_Quiet) (.int .i64 t_Robust) (.int .i64 t_Every) vt_Sources vt_Records).toArray :: Ow.box b_3 89 (c_api_Record (.int .i64 ((gi t_Records i_1).1)) ((gi t_Records i_1).2.1) (((gi t_Records i_1).2.2).1)).toArray :: fr) h_9 := hS.perm2 [1, 0] 2 rfl rfl
           exact ⟨F_6, ((gi t_Records i_1).2.2).2, true, ((gi t_Records i_1).2.2).1, rfl, rfl, rfl, rfl, rfl, rfl, hK, hS, hL_t_Sources, hN_t_Records, hL_t_Records, (nff_api_Record_18 (NfL.at hN_t_Records ho_1)), hM⟩
          ·
           replace hM := hM.2 c_23
           refine HO.val (v := .pointer (some ⟨b_3, 18, none⟩)) (want_by rfl rfl c_23) rfl (q_fieldAddr fa_89_2 rfl rfl) ?_
           refine HO.val (v := ((gi t_Records i_1).2.2).1) (want_by rfl rfl c_23) rfl (q_load to_29 rfl (Blk.cell (hS.box 0 rfl) rfl)) ?_
           refine HO.call (want_by rfl rfl c_23) rfl (ec en_89 rfl rfl) (ref09_Sources_walk (fr := (Ow.box b_3 89 (c_api_Record (.int .i64 ((gi t_Records i_1).1)) ((gi t_Records i_1).2.1) (((gi t_Records i_1).2.2).1)).toArray :: Ow.box b_1 31 (c_api_Talk (.bool t_V6) (.int .i64 t_Version) (.int .i64 t_Kind) (.int .i64 t_Resp) t_Group (.bool t_Quiet) (.int .i64 t_Robust) (.int .i64 t_Every) vt_Sources vt_Records).toArray :: fr)) (((gi t_Records i_1).2.2).2) (((gi t_Records i_1).2.2).1) hS (nff_api_Record_18 (NfL.at hN_t_Records ho_1)) hM) ?_
           rintro _ h_10 ⟨F_7, r_3, rfl, hk, hS, _, hM⟩
           replace hK := hK.trans hk
           replace hL_t_Sources := hL_t_Sources.kp hk
           replace hN_t_Records := hN_t_Records.kp hk
           replace hL_t_Records := hL_t_Records.kp hk
           refine HO.val (v := .bool (!r_3)) (want_by rfl rfl c_23) rfl (q_not rfl) ?_
           refine oV (.bool (!r_3)) (q_pickK false rfl c_23 rfl) rfl ?_
           refine HO.nil (thenQ_normal (?_))
           replace hS : St F_7 (Ow.box b_1 31 (c_api_Talk (.bool t_V6) (.int .i64 t_Version) (.int .i64 t_Kind) (.int .i64 t_Resp) t_Group (.bool t_Quiet) (.int .i64 t_Robust) (.int .i64 t_Every) vt_Sources vt_Records).toArray :: Ow.box b_3 89 (c_api_Record (.int .i64 ((gi t_Records i_1).1)) ((gi t_Records i_1).2.1) (((gi t_Records i_1).2.2).1)).toArray :: fr) h_10 := hS.perm2 [1, 0] 2 rfl rfl
           exact ⟨F_7, ((gi t_Records i_1).2.2).2, !r_3, ((gi t_Records i_1).2.2).1, rfl, rfl, rfl, rfl, rfl, rfl, hK, hS, hL_t_Sources, hN_t_Records, hL_t_Records, (nff_api_Record_18 (NfL.at hN_t_Records ho_1)), hM⟩
       ·
        rintro f_6 h_11 ⟨F_8, r_18_1, b_4, vr_18_1, e1, e2, e4, e5, e6, e120, hK, hS, hL_t_Sources, hN_t_Records, hL_t_Records, hL_1, hM⟩
        unfold ref09_Good_j5 at hM
        refine HW.fr [(1, .pointer (some ⟨b_1, 0, none⟩)), (2, .bool false), (4, .int .i64 n_1), (5, .int .i64 i_1), (6, .pointer (some ⟨b_3, 0, none⟩)), (120, .bool b_4)] ⟨e1, e2, e4, e5, e6, e120, trivial⟩ ?_
        refine HW.cond b_4 rfl (fun c_24 => ?_) (fun c_24 => ?_)
        ·
         replace hM := hM.1 c_24
         refine HW.seq ?_
         refine HW.region ?_
         refine oA (.bool false) rfl rfl ?_
         refine HO.nil (thenQ_normal (?_))
         refine HW.ret (thenQ_ret (blockQ_ret (thenQ_ret (thenQ_ret (blockQ_ret (thenQ_ret (thenQ_ret (?_))))))))
         refine ⟨.inr rfl, .bool false, res1 rfl (rt rfl), ?_⟩
         replace hS : St F_8 (fr) h_11 := hS.perm2 [] 2 rfl rfl
         exact ⟨F_8, false, rfl, hK, hS, hL_t_Sources, hN_t_Records, hL_t_Records, hM⟩
        ·
         replace hM := hM.2 c_24
         refine HW.skip (thenQ_normal (?_))
         refine HW.region ?_
         refine oM (.int .i64 n_1) rfl rfl ?_
         obtain ⟨ho_2, hM⟩ := hM
         refine oV (.int .i64 (n_1 + 20)) (q_addN _ rfl rfl rfl ho_2.1 ho_2.2) rfl ?_
         refine oV (.pointer (some ⟨b_3, 18, none⟩)) (q_fieldAddr fa_89_2 rfl rfl) rfl ?_
         refine oV (vr_18_1) (q_load to_29 rfl (Blk.cell (hS.box 1 rfl) rfl)) rfl ?_
         refine oV (.int .i64 (r_18_1.length : Int)) (q_len ts_29 (shp hL_1.is) rfl rfl) rfl ?_
         obtain ⟨ho_3, hM⟩ := hM
         refine oV (.int .i64 (16 * (r_18_1.length : Int))) (q_mulN _ rfl rfl rfl ho_3.1 ho_3.2) rfl ?_
         obtain ⟨ho_4, hM⟩ := hM
         refine oV (.int .i64 ((n_1 + 20) + (16 * (r_18_1.length : Int)))) (q_addN _ rfl rfl rfl ho_4.1 ho_4.2) rfl ?_
         refine oA (.int .i64 ((n_1 + 20) + (16 * (r_18_1.length : Int)))) rfl rfl ?_
         refine HO.nil (blockQ_normal (thenQ_normal (?_)))
         refine HW.region ?_
         refine oM (.int .i64 i_1) rfl rfl ?_
         obtain ⟨ho_5, hM⟩ := hM
         refine oV (.int .i64 (i_1 + 1)) (q_addN _ rfl rfl rfl ho_5.1 ho_5.2) rfl ?_
         refine oA (.int .i64 (i_1 + 1)) rfl rfl ?_
         refine HO.nil (thenQ_normal (?_))
         replace hS : St F_8 (Ow.box b_1 31 (c_api_Talk (.bool t_V6) (.int .i64 t_Version) (.int .i64 t_Kind) (.int .i64 t_Resp) t_Group (.bool t_Quiet) (.int .i64 t_Robust) (.int .i64 t_Every) vt_Sources vt_Records).toArray :: fr) h_11 := hS.perm2 [0] 2 rfl rfl
         rw [hKe_1] at hM
         exact ⟨((n_1 + 20) + (16 * (r_18_1.length : Int)), i_1 + 1), ⟨F_8, rfl, rfl, rfl, rfl, hK, hS, hL_t_Sources, hN_t_Records, hL_t_Records, hM.1⟩, hM.2⟩
      ·
       replace hM := hM.2 (of_decide_eq_false c_20)
       refine HW.exit (thenQ_exit (thenQ_exit (blockQ_exit (thenQ_normal (?_)))))
       refine HW.seq_mid (fun f h => ∃ (F' : Fz) (b_5 : Bool), f 1 = .pointer (some ⟨b_1, 0, none⟩) ∧ f 2 = .bool b_5 ∧ Kp F h0 F' h ∧ St F' (Ow.box b_1 31 (c_api_Talk (.bool t_V6) (.int .i64 t_Version) (.int .i64 t_Kind) (.int .i64 t_Resp) t_Group (.bool t_Quiet) (.int .i64 t_Robust) (.int .i64 t_Every) vt_Sources vt_Records).toArray :: fr) h ∧ (SliceF F' h 17 e_api_Addr vt_Sources t_Sources) ∧ (NfL nf_api_Record F' h t_Records) ∧ (SliceF F' h 19 e_api_Record vt_Records t_Records) ∧ ref09_Good_j6 Q b_5) ?_ ?_
       ·
        refine HW.region ?_
        refine oV (.pointer (some ⟨b_1, 4, none⟩)) (q_fieldAddr fa_31_4 rfl rfl) rfl ?_
        refine oV (.pointer (some ⟨b_1, 4, none⟩)) (q_fieldAddr fa_28_0 rfl rfl) rfl ?_
        refine oV (.bool t_Group.1) (q_load to_4 rfl (Blk.cell (hS.box 0 rfl) rfl)) rfl ?_
        refine oV (.bool (!t_Group.1)) (q_not rfl) rfl ?_
        refine oM (.bool (!t_Group.1)) rfl rfl ?_
        rcases Bool.eq_false_or_eq_true (!t_Group.1) with c_25 | c_25
        ·
         replace hM := hM.1 c_25
         refine HO.val (v := .pointer (some ⟨b_1, 4, none⟩)) (want_by rfl rfl c_25) rfl (q_fieldAddr fa_31_4 rfl rfl) ?_
         refine HO.val (v := .agg (e_api_Addr t_Group).toArray) (want_by rfl rfl c_25) rfl (q_loadAgg (cs := (e_api_Addr t_Group)) ta_28 rfl rfl (Blk.cells (k := 17) (hS.box 0 rfl) rfl)) ?_
         refine HO.call (want_by rfl rfl c_25) rfl (ec en_90 rfl rfl) (ref03_Zero_walk (fr := (Ow.box b_1 31 (c_api_Talk (.bool t_V6) (.int .i64 t_Version) (.int .i64 t_Kind) (.int .i64 t_Resp) t_Group (.bool t_Quiet) (.int .i64 t_Robust) (.int .i64 t_Every) vt_Sources vt_Records).toArray :: fr)) t_Group hS hM) ?_
         rintro _ h_12 ⟨F_9, r_4, rfl, hk, hS, hM⟩
         replace hK := hK.trans hk
         replace hL_t_Sources := hL_t_Sources.kp hk
         replace hN_t_Records := hN_t_Records.kp hk
         replace hL_t_Records := hL_t_Records.kp hk
         refine oV (.bool r_4) (q_pickK true rfl c_25 rfl) rfl ?_
         refine oM (.bool r_4) rfl rfl ?_
         rcases Bool.eq_false_or_eq_true r_4 with c_26 | c_26
         ·
          replace hM := hM.1 c_26
          refine HO.val (v := .pointer (some ⟨b_1, 25, none⟩)) (want_by rfl rfl c_26) rfl (q_fieldAddr fa_31_9 rfl rfl) ?_
          refine HO.val (v := vt_Records) (want_by rfl rfl c_26) rfl (q_load to_22 rfl (Blk.cell (hS.box 0 rfl) rfl)) ?_
          refine HO.val (v := .int .i64 (t_Records.length : Int)) (want_by rfl rfl c_26) rfl (q_len ts_22 (shp hL_t_Records.is) rfl rfl) ?_
          refine HO.val (v := .bool (decide ((t_Records.length : Int) < 65))) (want_by rfl rfl c_26) rfl (q_lss rfl rfl) ?_
          refine oV (.bool (decide ((t_Records.length : Int) < 65))) (q_pickK true rfl c_26 rfl) rfl ?_
          refine oM (.bool (decide ((t_Records.length : Int) < 65))) rfl rfl ?_
          rcases Bool.eq_false_or_eq_true (decide ((t_Records.length : Int) < 65)) with c_27 | c_27
          ·
           replace hM := hM.1 (of_decide_eq_true c_27)
           refine HO.val (v := .int .i64 n_1) (want_by rfl rfl c_27) rfl (q_move rfl) ?_
           refine HO.val (v := .bool (decide (n_1 < 1401))) (want_by rfl rfl c_27) rfl (q_lss rfl rfl) ?_
           refine oV (.bool (decide (n_1 < 1401))) (q_pickK true rfl c_27 rfl) rfl ?_
           refine oA (.bool (decide (n_1 < 1401))) rfl rfl ?_
           refine HO.nil (thenQ_normal (?_))
           exact ⟨F_9, decide (n_1 < 1401), rfl, rfl, hK, hS, hL_t_Sources, hN_t_Records, hL_t_Records, hM⟩
          ·
           replace hM := hM.2 (of_decide_eq_false c_27)
           refine HO.past (past_by rfl rfl c_27) rfl ?_
           refine HO.past (past_by rfl rfl c_27) rfl ?_
           refine oV (.bool false) (q_pickK false rfl c_27 rfl) rfl ?_
           refine oA (.bool false) rfl rfl ?_
           refine HO.nil (thenQ_normal (?_))
           exact ⟨F_9, false, rfl, rfl, hK, hS, hL_t_Sources, hN_t_Records, hL_t_Records, hM⟩
         ·
          replace hM := hM.2 c_26
          refine HO.past (past_by rfl rfl c_26) rfl ?_
          refine HO.past (past_by rfl rfl c_26) rfl ?_
          refine HO.past (past_by rfl rfl c_26) rfl ?_
          refine HO.past (past_by rfl rfl c_26) rfl ?_
          refine oV (.bool false) (q_pickK false rfl c_26 rfl) rfl ?_
          refine oM (.bool false) rfl rfl ?_
          refine HO.past (past_some rfl rfl) rfl ?_
          refine HO.past (past_some rfl rfl) rfl ?_
          refine oV (.bool false) (q_pick rfl rfl) rfl ?_
          refine oA (.bool false) rfl rfl ?_
          refine HO.nil (thenQ_normal (?_))
          exact ⟨F_9, false, rfl, rfl, hK, hS, hL_t_Sources, hN_t_Records, hL_t_Records, hM⟩
        ·
         replace hM := hM.2 c_25
         refine HO.past (past_by rfl rfl c_25) rfl ?_
         refine HO.past (past_by rfl rfl c_25) rfl ?_
         refine HO.past (past_by rfl rfl c_25) rfl ?_
         refine oV (.bool false) (q_pickK false rfl c_25 rfl) rfl ?_
         refine oM (.bool false) rfl rfl ?_
         refine HO.past (past_some rfl rfl) rfl ?_
         refine HO.past (past_some rfl rfl) rfl ?_
         refine HO.past (past_some rfl rfl) rfl ?_
         refine HO.past (past_some rfl rfl) rfl ?_
         refine oV (.bool false) (q_pick rfl rfl) rfl ?_
         refine oM (.bool false) rfl rfl ?_
         refine HO.past (past_some rfl rfl) rfl ?_
         refine HO.past (past_some rfl rfl) rfl ?_
         refine oV (.bool false) (q_pick rfl rfl) rfl ?_
         refine oA (.bool false) rfl rfl ?_
         refine HO.nil (thenQ_normal (?_))
         exact ⟨F_5, false, rfl, rfl, hK, hS, hL_t_Sources, hN_t_Records, hL_t_Records, hM⟩
       ·
        rintro f_7 h_13 ⟨F_10, b_5, e1, e2, hK, hS, hL_t_Sources, hN_t_Records, hL_t_Records, hM⟩
        unfold ref09_Good_j6 at hM
        refine HW.fr [(1, .pointer (some ⟨b_1, 0, none⟩)), (2, .bool b_5)] ⟨e1, e2, trivial⟩ ?_
        refine HW.ret (thenQ_ret (?_))
        refine ⟨.inr rfl, .bool b_5, res1 rfl (rt rfl), ?_⟩
        replace hS : St F_10 (fr) h_13 := hS.perm2 [] 1 rfl rfl
        exact ⟨F_10, b_5, rfl, hK, hS, hL_t_Sources, hN_t_Records, hL_t_Records, hM⟩
     ·
      replace hM := hM.2 c_19
      refine HW.skip (thenQ_normal (?_))
      refine HW.seq ?_
      refine HW.seq ?_
      refine HW.region ?_
      refine oV (.pointer (some ⟨b_1, 25, none⟩)) (q_fieldAddr fa_31_9 rfl rfl) rfl ?_
      refine oV (vt_Records) (q_load to_22 rfl (Blk.cell (hS.box 0 rfl) rfl)) rfl ?_
      refine oV (.int .i64 (t_Records.length : Int)) (q_len ts_22 (shp hL_t_Records.is) rfl rfl) rfl ?_
      refine oV (.bool (decide (0 < (t_Records.length : Int)))) (q_gtr rfl rfl) rfl ?_
      refine HO.nil (thenQ_normal (?_))
      refine HW.cond (decide (0 < (t_Records.length : Int))) rfl (fun c_28 => ?_) (fun c_28 => ?_)
      ·
       replace hM := hM.1 (of_decide_eq_true c_28)
       refine HW.seq ?_
       refine HW.region ?_
       refine oA (.bool false) rfl rfl ?_
       refine HO.nil (thenQ_normal (?_))
       refine HW.ret (thenQ_ret (?_))
       refine ⟨.inr rfl, .bool false, res1 rfl (rt rfl), ?_⟩
       replace hS : St F_4 (fr) h_5 := hS.perm2 [] 1 rfl rfl
       exact ⟨F_4, false, rfl, hK, hS, hL_t_Sources, hN_t_Records, hL_t_Records, hM⟩
      ·
       replace hM := hM.2 (of_decide_eq_false c_28)
       refine HW.skip (thenQ_normal (?_))
       refine HW.seq ?_
       refine HW.seq ?_
       refine HW.region ?_
       refine oV (.pointer (some ⟨b_1, 2, none⟩)) (q_fieldAddr fa_31_2 rfl rfl) rfl ?_
       refine oV (.int .i64 t_Kind) (q_load to_3 rfl (Blk.cell (hS.box 0 rfl) rfl)) rfl ?_
       refine oV (.bool (decide (1 < t_Kind))) (q_gtr rfl rfl) rfl ?_
       refine HO.nil (thenQ_normal (?_))
       refine HW.cond (decide (1 < t_Kind)) rfl (fun c_29 => ?_) (fun c_29 => ?_)
       ·
        replace hM := hM.1 (of_decide_eq_true c_29)
        refine HW.seq ?_
        refine HW.region ?_
        refine oV (.pointer (some ⟨b_1, 4, none⟩)) (q_fieldAddr fa_31_4 rfl rfl) rfl ?_
        refine oV (.agg (e_api_Addr t_Group).toArray) (q_loadAgg (cs := (e_api_Addr t_Group)) ta_28 rfl rfl (Blk.cells (k := 17) (hS.box 0 rfl) rfl)) rfl ?_
        refine HO.call (want_none) rfl (ec en_88 rfl rfl) (ref09_Group_walk (fr := (Ow.box b_1 31 (c_api_Talk (.bool t_V6) (.int .i64 t_Version) (.int .i64 t_Kind) (.int .i64 t_Resp) t_Group (.bool t_Quiet) (.int .i64 t_Robust) (.int .i64 t_Every) vt_Sources vt_Records).toArray :: fr)) t_Group hS hM) ?_
        rintro _ h_14 ⟨F_11, r_5, rfl, hk, hS, hM⟩
        replace hK := hK.trans hk
        replace hL_t_Sources := hL_t_Sources.kp hk
        replace hN_t_Records := hN_t_Records.kp hk
        replace hL_t_Records := hL_t_Records.kp hk
        refine oA (.bool r_5) rfl rfl ?_
        refine HO.nil (thenQ_normal (?_))
        refine HW.ret (thenQ_ret (?_))
        refine ⟨.inr rfl, .bool r_5, res1 rfl (rt rfl), ?_⟩
        replace hS : St F_11 (fr) h_14 := hS.perm2 [] 1 rfl rfl
        exact ⟨F_11, r_5, rfl, hK, hS, hL_t_Sources, hN_t_Records, hL_t_Records, hM⟩
       ·
        replace hM := hM.2 (of_decide_eq_false c_29)
        refine HW.skip (thenQ_normal (?_))
        refine HW.seq_mid (fun f h => ∃ (F' : Fz), f 1 = .pointer (some ⟨b_1, 0, none⟩) ∧ f 2 = .bool false ∧ Kp F h0 F' h ∧ St F' (Ow.box b_1 31 (c_api_Talk (.bool t_V6) (.int .i64 t_Version) (.int .i64 t_Kind) (.int .i64 t_Resp) t_Group (.bool t_Quiet) (.int .i64 t_Robust) (.int .i64 t_Every) vt_Sources vt_Records).toArray :: fr) h ∧ (SliceF F' h 17 e_api_Addr vt_Sources t_Sources) ∧ (NfL nf_api_Record F' h t_Records) ∧ (SliceF F' h 19 e_api_Record vt_Records t_Records) ∧ ref09_Good_j7 t_Version t_Resp t_Group t_Robust t_Every t_Sources Q) ?_ ?_
        ·
         refine HW.seq ?_
         refine HW.region ?_
         refine oV (.pointer (some ⟨b_1, 4, none⟩)) (q_fieldAddr fa_31_4 rfl rfl) rfl ?_
         refine oV (.agg (e_api_Addr t_Group).toArray) (q_loadAgg (cs := (e_api_Addr t_Group)) ta_28 rfl rfl (Blk.cells (k := 17) (hS.box 0 rfl) rfl)) rfl ?_
         refine HO.call (want_none) rfl (ec en_91 rfl rfl) (ref09_zero_walk (fr := (Ow.box b_1 31 (c_api_Talk (.bool t_V6) (.int .i64 t_Version) (.int .i64 t_Kind) (.int .i64 t_Resp) t_Group (.bool t_Quiet) (.int .i64 t_Robust) (.int .i64 t_Every) vt_Sources vt_Records).toArray :: fr)) t_Group hS hM) ?_
         rintro _ h_15 ⟨F_12, r_6, rfl, hk, hS, hM⟩
         replace hK := hK.trans hk
         replace hL_t_Sources := hL_t_Sources.kp hk
         replace hN_t_Records := hN_t_Records.kp hk
         replace hL_t_Records := hL_t_Records.kp hk
         refine oV (.bool (!r_6)) (q_not rfl) rfl ?_
         refine oM (.bool (!r_6)) rfl rfl ?_
         rcases Bool.eq_false_or_eq_true (!r_6) with c_30 | c_30
         ·
          replace hM := hM.1 c_30
          refine HO.val (v := .pointer (some ⟨b_1, 4, none⟩)) (want_by rfl rfl c_30) rfl (q_fieldAddr fa_31_4 rfl rfl) ?_
          refine HO.val (v := .agg (e_api_Addr t_Group).toArray) (want_by rfl rfl c_30) rfl (q_loadAgg (cs := (e_api_Addr t_Group)) ta_28 rfl rfl (Blk.cells (k := 17) (hS.box 0 rfl) rfl)) ?_
          refine HO.call (want_by rfl rfl c_30) rfl (ec en_88 rfl rfl) (ref09_Group_walk (fr := (Ow.box b_1 31 (c_api_Talk (.bool t_V6) (.int .i64 t_Version) (.int .i64 t_Kind) (.int .i64 t_Resp) t_Group (.bool t_Quiet) (.int .i64 t_Robust) (.int .i64 t_Every) vt_Sources vt_Records).toArray :: fr)) t_Group hS hM) ?_
          rintro _ h_16 ⟨F_13, r_7, rfl, hk, hS, hM⟩
          replace hK := hK.trans hk
          replace hL_t_Sources := hL_t_Sources.kp hk
          replace hN_t_Records := hN_t_Records.kp hk
          replace hL_t_Records := hL_t_Records.kp hk
          refine HO.val (v := .bool (!r_7)) (want_by rfl rfl c_30) rfl (q_not rfl) ?_
          refine oV (.bool (!r_7)) (q_pickK true rfl c_30 rfl) rfl ?_
          refine oM (.bool (!r_7)) rfl rfl ?_
          rcases Bool.eq_false_or_eq_true (!r_7) with c_31 | c_31
          ·
           replace hM := hM.1 c_31
           refine HO.past (past_by rfl rfl c_31) rfl ?_
           refine HO.past (past_by rfl rfl c_31) rfl ?_
           refine HO.past (past_by rfl rfl c_31) rfl ?_
           refine oV (.bool true) (q_pickK true rfl c_31 rfl) rfl ?_
           refine HO.nil (thenQ_normal (?_))
           refine HW.condT rfl ?_
           refine HW.seq ?_
           refine HW.region ?_
           refine oA (.bool false) rfl rfl ?_
           refine HO.nil (thenQ_normal (?_))
           refine HW.ret (thenQ_ret (?_))
           refine ⟨.inr rfl, .bool false, res1 rfl (rt rfl), ?_⟩
           replace hS : St F_13 (fr) h_16 := hS.perm2 [] 1 rfl rfl
           exact ⟨F_13, false, rfl, hK, hS, hL_t_Sources, hN_t_Records, hL_t_Records, hM⟩
          ·
           replace hM := hM.2 c_31
           refine HO.val (v := .pointer (some ⟨b_1, 3, none⟩)) (want_by rfl rfl c_31) rfl (q_fieldAddr fa_31_3 rfl rfl) ?_
           refine HO.val (v := .int .i64 t_Resp) (want_by rfl rfl c_31) rfl (q_load to_3 rfl (Blk.cell (hS.box 0 rfl) rfl)) ?_
           refine HO.val (v := .bool (decide (t_Resp < 0))) (want_by rfl rfl c_31) rfl (q_lss rfl rfl) ?_
           refine oV (.bool (decide (t_Resp < 0))) (q_pickK false rfl c_31 rfl) rfl ?_
           refine HO.nil (thenQ_normal (?_))
           refine HW.cond (decide (t_Resp < 0)) rfl (fun c_32 => ?_) (fun c_32 => ?_)
           ·
            replace hM := hM.1 (of_decide_eq_true c_32)
            refine HW.seq ?_
            refine HW.region ?_
            refine oA (.bool false) rfl rfl ?_
            refine HO.nil (thenQ_normal (?_))
            refine HW.ret (thenQ_ret (?_))
            refine ⟨.inr rfl, .bool false, res1 rfl (rt rfl), ?_⟩
            replace hS : St F_13 (fr) h_16 := hS.perm2 [] 1 rfl rfl
            exact ⟨F_13, false, rfl, hK, hS, hL_t_Sources, hN_t_Records, hL_t_Records, hM⟩
           ·
            replace hM := hM.2 (of_decide_eq_false c_32)
            refine HW.skip (thenQ_normal (?_))
            exact ⟨F_13, rfl, rfl, hK, hS, hL_t_Sources, hN_t_Records, hL_t_Records, hM⟩
         ·
          replace hM := hM.2 c_30
          refine HO.past (past_by rfl rfl c_30) rfl ?_
          refine HO.past (past_by rfl rfl c_30) rfl ?_
          refine HO.past (past_by rfl rfl c_30) rfl ?_
          refine HO.past (past_by rfl rfl c_30) rfl ?_
          refine oV (.bool false) (q_pickK false rfl c_30 rfl) rfl ?_
          refine oM (.bool false) rfl rfl ?_
          refine HO.val (v := .pointer (some ⟨b_1, 3, none⟩)) (want_some rfl rfl) rfl (q_fieldAddr fa_31_3 rfl rfl) ?_
          refine HO.val (v := .int .i64 t_Resp) (want_some rfl rfl) rfl (q_load to_3 rfl (Blk.cell (hS.box 0 rfl) rfl)) ?_
          refine HO.val (v := .bool (decide (t_Resp < 0))) (want_some rfl rfl) rfl (q_lss rfl rfl) ?_
          refine oV (.bool (decide (t_Resp < 0))) (q_pick rfl rfl) rfl ?_
          refine HO.nil (thenQ_normal (?_))
          refine HW.cond (decide (t_Resp < 0)) rfl (fun c_33 => ?_) (fun c_33 => ?_)
          ·
           replace hM := hM.1 (of_decide_eq_true c_33)
           refine HW.seq ?_
           refine HW.region ?_
           refine oA (.bool false) rfl rfl ?_
           refine HO.nil (thenQ_normal (?_))
           refine HW.ret (thenQ_ret (?_))
           refine ⟨.inr rfl, .bool false, res1 rfl (rt rfl), ?_⟩
           replace hS : St F_12 (fr) h_15 := hS.perm2 [] 1 rfl rfl
           exact ⟨F_12, false, rfl, hK, hS, hL_t_Sources, hN_t_Records, hL_t_Records, hM⟩
          ·
           replace hM := hM.2 (of_decide_eq_false c_33)
           refine HW.skip (thenQ_normal (?_))
           exact ⟨F_12, rfl, rfl, hK, hS, hL_t_Sources, hN_t_Records, hL_t_Records, hM⟩
        ·
         rintro f_8 h_17 ⟨F_14, e1, e2, hK, hS, hL_t_Sources, hN_t_Records, hL_t_Records, hM⟩
         unfold ref09_Good_j7 at hM
         refine HW.fr [(1, .pointer (some ⟨b_1, 0, none⟩)), (2, .bool false)] ⟨e1, e2, trivial⟩ ?_
         refine HW.seq ?_
         refine HW.seq ?_
         refine HW.region ?_
         refine oV (.pointer (some ⟨b_1, 1, none⟩)) (q_fieldAddr fa_31_1 rfl rfl) rfl ?_
         refine oV (.int .i64 t_Version) (q_load to_3 rfl (Blk.cell (hS.box 0 rfl) rfl)) rfl ?_
         refine oV (.bool (decide (t_Version = 1))) (q_eql rfl rfl) rfl ?_
         refine HO.nil (thenQ_normal (?_))
         refine HW.cond (decide (t_Version = 1)) rfl (fun c_34 => ?_) (fun c_34 => ?_)
         ·
          replace hM := hM.1 (of_decide_eq_true c_34)
          refine HW.seq ?_
          refine HW.region ?_
          refine oV (.pointer (some ⟨b_1, 3, none⟩)) (q_fieldAddr fa_31_3 rfl rfl) rfl ?_
          refine oV (.int .i64 t_Resp) (q_load to_3 rfl (Blk.cell (hS.box 0 rfl) rfl)) rfl ?_
          refine oV (.bool (decide (t_Resp < 65536))) (q_lss rfl rfl) rfl ?_
          refine oA (.bool (decide (t_Resp < 65536))) rfl rfl ?_
          refine HO.nil (thenQ_normal (?_))
          refine HW.ret (thenQ_ret (?_))
          refine ⟨.inr rfl, .bool (decide (t_Resp < 65536)), res1 rfl (rt rfl), ?_⟩
          replace hS : St F_14 (fr) h_17 := hS.perm2 [] 1 rfl rfl
          exact ⟨F_14, decide (t_Resp < 65536), rfl, hK, hS, hL_t_Sources, hN_t_Records, hL_t_Records, hM⟩
         ·
          replace hM := hM.2 (of_decide_eq_false c_34)
          refine HW.skip (thenQ_normal (?_))
          refine HW.seq_mid (fun f h => ∃ (F' : Fz) (exact_1 : Bool), f 1 = .pointer (some ⟨b_1, 0, none⟩) ∧ f 2 = .bool false ∧ f 7 = .bool exact_1 ∧ Kp F h0 F' h ∧ St F' (Ow.box b_1 31 (c_api_Talk (.bool t_V6) (.int .i64 t_Version) (.int .i64 t_Kind) (.int .i64 t_Resp) t_Group (.bool t_Quiet) (.int .i64 t_Robust) (.int .i64 t_Every) vt_Sources vt_Records).toArray :: fr) h ∧ (SliceF F' h 17 e_api_Addr vt_Sources t_Sources) ∧ (NfL nf_api_Record F' h t_Records) ∧ (SliceF F' h 19 e_api_Record vt_Records t_Records) ∧ ref09_Good_j8 t_Group t_Robust t_Sources Q exact_1) ?_ ?_
          ·
           refine HW.regionA 22 mixed (fun h => (Blk h b_1 (.cells (c_api_Talk (.bool t_V6) (.int .i64 t_Version) (.int .i64 t_Kind) (.int .i64 t_Resp) t_Group (.bool t_Quiet) (.int .i64 t_Robust) (.int .i64 t_Every) vt_Sources vt_Records).toArray 31 (0, 0)))) [] (by kernel_rfl) ?_
           refine HA.val (k := 0) (v := .pointer (some ⟨b_1, 3, none⟩)) rfl rfl (by kernel_rfl) (by kernel_rfl) (want_none) rfl (fun _ c206 => q_fieldAddr fa_31_3 rfl rfl) ?_
           refine HA.val (k := 1) (v := .int .i64 t_Resp) rfl rfl (by kernel_rfl) (by kernel_rfl) (want_none) rfl (fun _ c206 => q_load to_3 rfl (Blk.cell c206 rfl)) ?_
           refine HA.val (k := 4) (v := .pointer (some ⟨b_1, 3, none⟩)) rfl rfl (by kernel_rfl) (by kernel_rfl) (want_none) rfl (fun _ c206 => q_fieldAddr fa_31_3 rfl rfl) ?_
           refine HA.val (k := 5) (v := .int .i64 t_Resp) rfl rfl (by kernel_rfl) (by kernel_rfl) (want_none) rfl (fun _ c206 => q_load to_3 rfl (Blk.cell c206 rfl)) ?_
           refine HA.one (k := 2) ⟨(hS.box 0 rfl), (Go.Wk.at_nil _ _)⟩ (by kernel_rfl) ?_
           refine HS.call rfl (want_none) rfl (ec en_93 rfl rfl) (ref07_Code16_walk (fr := (Ow.box b_1 31 (c_api_Talk (.bool t_V6) (.int .i64 t_Version) (.int .i64 t_Kind) (.int .i64 t_Resp) t_Group (.bool t_Quiet) (.int .i64 t_Robust) (.int .i64 t_Every) vt_Sources vt_Records).toArray :: fr)) t_Resp hS hM) ?_
           rintro _ h_18 ⟨F_15, r_8, rfl, hk, hS, hM⟩
           replace hK := hK.trans hk
           replace hL_t_Sources := hL_t_Sources.kp hk
           replace hN_t_Records := hN_t_Records.kp hk
           replace hL_t_Records := hL_t_Records.kp hk
           refine HA.one (k := 3) ⟨(hS.box 0 rfl), (Go.Wk.at_nil _ _)⟩ (by kernel_rfl) ?_
           refine HS.call rfl (want_none) rfl (ec en_92 rfl rfl) (ref07_Value16_walk (fr := (Ow.box b_1 31 (c_api_Talk (.bool t_V6) (.int .i64 t_Version) (.int .i64 t_Kind) (.int .i64 t_Resp) t_Group (.bool t_Quiet) (.int .i64 t_Robust) (.int .i64 t_Every) vt_Sources vt_Records).toArray :: fr)) r_8 hS hM) ?_
           rintro _ h_19 ⟨F_16, r_9, rfl, hk, hS, hM⟩
           replace hK := hK.trans hk
           replace hL_t_Sources := hL_t_Sources.kp hk
           replace hN_t_Records := hN_t_Records.kp hk
           replace hL_t_Records := hL_t_Records.kp hk
           refine HA.val (k := 6) (v := .bool (decide (r_9 = t_Resp))) rfl rfl (by kernel_rfl) (by kernel_rfl) (want_none) rfl (fun _ c206 => q_eql rfl rfl) ?_
           refine HA.val (k := 7) (v := .bool (decide (r_9 = t_Resp))) rfl rfl (by kernel_rfl) (by kernel_rfl) (want_none) rfl (fun _ c206 => q_move rfl) ?_
           rcases Bool.eq_false_or_eq_true (decide (r_9 = t_Resp)) with c_35 | c_35
           ·
            replace hM := hM.1 (of_decide_eq_true c_35)
            refine HA.val (k := 8) (v := .pointer (some ⟨b_1, 23, none⟩)) rfl rfl (by kernel_rfl) (by kernel_rfl) (want_by rfl rfl c_35) rfl (fun _ c206 => q_fieldAddr fa_31_7 rfl rfl) ?_
            refine HA.val (k := 9) (v := .int .i64 t_Every) rfl rfl (by kernel_rfl) (by kernel_rfl) (want_by rfl rfl c_35) rfl (fun _ c206 => q_load to_3 rfl (Blk.cell c206 rfl)) ?_
            refine HA.val (k := 10) (v := .bool (decide (0 ≤ t_Every))) rfl rfl (by kernel_rfl) (by kernel_rfl) (want_by rfl rfl c_35) rfl (fun _ c206 => q_geq rfl rfl) ?_
            refine HA.val (k := 11) (v := .bool (decide (0 ≤ t_Every))) rfl rfl (by kernel_rfl) (by kernel_rfl) (want_none) rfl (fun _ c206 => q_pickK true rfl c_35 rfl) ?_
            refine HA.val (k := 12) (v := .bool (decide (0 ≤ t_Every))) rfl rfl (by kernel_rfl) (by kernel_rfl) (want_none) rfl (fun _ c206 => q_move rfl) ?_
            rcases Bool.eq_false_or_eq_true (decide (0 ≤ t_Every)) with c_36 | c_36
            ·
             replace hM := hM.1 (of_decide_eq_true c_36)
             refine HA.val (k := 13) (v := .pointer (some ⟨b_1, 23, none⟩)) rfl rfl (by kernel_rfl) (by kernel_rfl) (want_by rfl rfl c_36) rfl (fun _ c206 => q_fieldAddr fa_31_7 rfl rfl) ?_
             refine HA.val (k := 14) (v := .int .i64 t_Every) rfl rfl (by kernel_rfl) (by kernel_rfl) (want_by rfl rfl c_36) rfl (fun _ c206 => q_load to_3 rfl (Blk.cell c206 rfl)) ?_
             refine HA.val (k := 17) (v := .pointer (some ⟨b_1, 23, none⟩)) rfl rfl (by kernel_rfl) (by kernel_rfl) (want_by rfl rfl c_36) rfl (fun _ c206 => q_fieldAddr fa_31_7 rfl rfl) ?_
             refine HA.val (k := 18) (v := .int .i64 t_Every) rfl rfl (by kernel_rfl) (by kernel_rfl) (want_by rfl rfl c_36) rfl (fun _ c206 => q_load to_3 rfl (Blk.cell c206 rfl)) ?_
             refine HA.one (k := 15) ⟨(hS.box 0 rfl), (Go.Wk.at_nil _ _)⟩ (by kernel_rfl) ?_
             refine HS.call rfl (want_by rfl rfl c_36) rfl (ec en_95 rfl rfl) (ref07_Code8_walk (fr := (Ow.box b_1 31 (c_api_Talk (.bool t_V6) (.int .i64 t_Version) (.int .i64 t_Kind) (.int .i64 t_Resp) t_Group (.bool t_Quiet) (.int .i64 t_Robust) (.int .i64 t_Every) vt_Sources vt_Records).toArray :: fr)) t_Every hS hM) ?_
             rintro _ h_20 ⟨F_17, r_10, rfl, hk, hS, hM⟩
             replace hK := hK.trans hk
             replace hL_t_Sources := hL_t_Sources.kp hk
             replace hN_t_Records := hN_t_Records.kp hk
             replace hL_t_Records := hL_t_Records.kp hk
             refine HA.one (k := 16) ⟨(hS.box 0 rfl), (Go.Wk.at_nil _ _)⟩ (by kernel_rfl) ?_
             refine HS.call rfl (want_by rfl rfl c_36) rfl (ec en_94 rfl rfl) (ref07_Value8_walk (fr := (Ow.box b_1 31 (c_api_Talk (.bool t_V6) (.int .i64 t_Version) (.int .i64 t_Kind) (.int .i64 t_Resp) t_Group (.bool t_Quiet) (.int .i64 t_Robust) (.int .i64 t_Every) vt_Sources vt_Records).toArray :: fr)) r_10 hS hM) ?_
             rintro _ h_21 ⟨F_18, r_11, rfl, hk, hS, hM⟩
             replace hK := hK.trans hk
             replace hL_t_Sources := hL_t_Sources.kp hk
             replace hN_t_Records := hN_t_Records.kp hk
             replace hL_t_Records := hL_t_Records.kp hk
             refine HA.val (k := 19) (v := .bool (decide (r_11 = t_Every))) rfl rfl (by kernel_rfl) (by kernel_rfl) (want_by rfl rfl c_36) rfl (fun _ c206 => q_eql rfl rfl) ?_
             refine HA.val (k := 20) (v := .bool (decide (r_11 = t_Every))) rfl rfl (by kernel_rfl) (by kernel_rfl) (want_none) rfl (fun _ c206 => q_pickK true rfl c_36 rfl) ?_
             refine HA.val (k := 21) (v := .bool (decide (r_11 = t_Every))) rfl rfl (by kernel_rfl) (by kernel_rfl) (want_none) rfl (fun _ c206 => q_assign rfl) ?_
             refine HA.nil ⟨(hS.box 0 rfl), (Go.Wk.at_nil _ _)⟩ (by kernel_rfl) (thenQ_normal (?_))
             exact ⟨F_18, decide (r_11 = t_Every), rfl, rfl, rfl, hK, hS, hL_t_Sources, hN_t_Records, hL_t_Records, hM⟩
            ·
             replace hM := hM.2 (of_decide_eq_false c_36)
             refine HA.past (k := 13) rfl rfl (by kernel_rfl) (by kernel_rfl) (past_by rfl rfl c_36) rfl ?_
             refine HA.past (k := 14) rfl rfl (by kernel_rfl) (by kernel_rfl) (past_by rfl rfl c_36) rfl ?_
             refine HA.past (k := 17) rfl rfl (by kernel_rfl) (by kernel_rfl) (past_by rfl rfl c_36) rfl ?_
             refine HA.past (k := 18) rfl rfl (by kernel_rfl) (by kernel_rfl) (past_by rfl rfl c_36) rfl ?_
             refine HA.one (k := 15) ⟨(hS.box 0 rfl), (Go.Wk.at_nil _ _)⟩ (by kernel_rfl) ?_
             refine HS.past rfl (past_by rfl rfl c_36) rfl ?_
             refine HA.one (k := 16) ⟨(hS.box 0 rfl), (Go.Wk.at_nil _ _)⟩ (by kernel_rfl) ?_
             refine HS.past rfl (past_by rfl rfl c_36) rfl ?_
             refine HA.past (k := 19) rfl rfl (by kernel_rfl) (by kernel_rfl) (past_by rfl rfl c_36) rfl ?_
             refine HA.val (k := 20) (v := .bool false) rfl rfl (by kernel_rfl) (by kernel_rfl) (want_none) rfl (fun _ c206 => q_pickK false rfl c_36 rfl) ?_
             refine HA.val (k := 21) (v := .bool false) rfl rfl (by kernel_rfl) (by kernel_rfl) (want_none) rfl (fun _ c206 => q_assign rfl) ?_
             refine HA.nil ⟨(hS.box 0 rfl), (Go.Wk.at_nil _ _)⟩ (by kernel_rfl) (thenQ_normal (?_))
             exact ⟨F_16, false, rfl, rfl, rfl, hK, hS, hL_t_Sources, hN_t_Records, hL_t_Records, hM⟩
           ·
            replace hM := hM.2 (of_decide_eq_false c_35)
            refine HA.past (k := 8) rfl rfl (by kernel_rfl) (by kernel_rfl) (past_by rfl rfl c_35) rfl ?_
            refine HA.past (k := 9) rfl rfl (by kernel_rfl) (by kernel_rfl) (past_by rfl rfl c_35) rfl ?_
            refine HA.past (k := 10) rfl rfl (by kernel_rfl) (by kernel_rfl) (past_by rfl rfl c_35) rfl ?_
            refine HA.val (k := 11) (v := .bool false) rfl rfl (by kernel_rfl) (by kernel_rfl) (want_none) rfl (fun _ c206 => q_pickK false rfl c_35 rfl) ?_
            refine HA.val (k := 12) (v := .bool false) rfl rfl (by kernel_rfl) (by kernel_rfl) (want_none) rfl (fun _ c206 => q_move rfl) ?_
            refine HA.past (k := 13) rfl rfl (by kernel_rfl) (by kernel_rfl) (past_some rfl rfl) rfl ?_
            refine HA.past (k := 14) rfl rfl (by kernel_rfl) (by kernel_rfl) (past_some rfl rfl) rfl ?_
            refine HA.past (k := 17) rfl rfl (by kernel_rfl) (by kernel_rfl) (past_some rfl rfl) rfl ?_
            refine HA.past (k := 18) rfl rfl (by kernel_rfl) (by kernel_rfl) (past_some rfl rfl) rfl ?_
            refine HA.one (k := 15) ⟨(hS.box 0 rfl), (Go.Wk.at_nil _ _)⟩ (by kernel_rfl) ?_
            refine HS.past rfl (past_some rfl rfl) rfl ?_
            refine HA.one (k := 16) ⟨(hS.box 0 rfl), (Go.Wk.at_nil _ _)⟩ (by kernel_rfl) ?_
            refine HS.past rfl (past_some rfl rfl) rfl ?_
            refine HA.past (k := 19) rfl rfl (by kernel_rfl) (by kernel_rfl) (past_some rfl rfl) rfl ?_
            refine HA.val (k := 20) (v := .bool false) rfl rfl (by kernel_rfl) (by kernel_rfl) (want_none) rfl (fun _ c206 => q_pick rfl rfl) ?_
            refine HA.val (k := 21) (v := .bool false) rfl rfl (by kernel_rfl) (by kernel_rfl) (want_none) rfl (fun _ c206 => q_assign rfl) ?_
            refine HA.nil ⟨(hS.box 0 rfl), (Go.Wk.at_nil _ _)⟩ (by kernel_rfl) (thenQ_normal (?_))
            exact ⟨F_16, false, rfl, rfl, rfl, hK, hS, hL_t_Sources, hN_t_Records, hL_t_Records, hM⟩
          ·
           rintro f_9 h_22 ⟨F_19, exact_1, e1, e2, e7, hK, hS, hL_t_Sources, hN_t_Records, hL_t_Records, hM⟩
           unfold ref09_Good_j8 at hM
           refine HW.fr [(1, .pointer (some ⟨b_1, 0, none⟩)), (2, .bool false), (7, .bool exact_1)] ⟨e1, e2, e7, trivial⟩ ?_
           refine HW.seq ?_
           refine HW.region ?_
           refine oM (.bool exact_1) rfl rfl ?_
           refine oM (.bool exact_1) rfl rfl ?_
           rcases Bool.eq_false_or_eq_true exact_1 with c_37 | c_37
           ·
            replace hM := hM.1 c_37
            refine HO.val (v := .pointer (some ⟨b_1, 22, none⟩)) (want_by rfl rfl c_37) rfl (q_fieldAddr fa_31_6 rfl rfl) ?_
            refine HO.val (v := .int .i64 t_Robust) (want_by rfl rfl c_37) rfl (q_load to_3 rfl (Blk.cell (hS.box 0 rfl) rfl)) ?_
            refine HO.val (v := .bool (decide (0 ≤ t_Robust))) (want_by rfl rfl c_37) rfl (q_geq rfl rfl) ?_
            refine oV (.bool (decide (0 ≤ t_Robust))) (q_pickK true rfl c_37 rfl) rfl ?_
            refine oM (.bool (decide (0 ≤ t_Robust))) rfl rfl ?_
            rcases Bool.eq_false_or_eq_true (decide (0 ≤ t_Robust)) with c_38 | c_38
            ·
             replace hM := hM.1 (of_decide_eq_true c_38)
             refine HO.val (v := .pointer (some ⟨b_1, 22, none⟩)) (want_by rfl rfl c_38) rfl (q_fieldAddr fa_31_6 rfl rfl) ?_
             refine HO.val (v := .int .i64 t_Robust) (want_by rfl rfl c_38) rfl (q_load to_3 rfl (Blk.cell (hS.box 0 rfl) rfl)) ?_
             refine HO.val (v := .bool (decide (t_Robust < 8))) (want_by rfl rfl c_38) rfl (q_lss rfl rfl) ?_
             refine oV (.bool (decide (t_Robust < 8))) (q_pickK true rfl c_38 rfl) rfl ?_
             refine oM (.bool (decide (t_Robust < 8))) rfl rfl ?_
             rcases Bool.eq_false_or_eq_true (decide (t_Robust < 8)) with c_39 | c_39
             ·
              replace hM := hM.1 (of_decide_eq_true c_39)
              refine HO.val (v := .pointer (some ⟨b_1, 24, none⟩)) (want_by rfl rfl c_39) rfl (q_fieldAddr fa_31_8 rfl rfl) ?_
              refine HO.val (v := vt_Sources) (want_by rfl rfl c_39) rfl (q_load to_29 rfl (Blk.cell (hS.box 0 rfl) rfl)) ?_
              refine HO.call (want_by rfl rfl c_39) rfl (ec en_89 rfl rfl) (ref09_Sources_walk (fr := (Ow.box b_1 31 (c_api_Talk (.bool t_V6) (.int .i64 t_Version) (.int .i64 t_Kind) (.int .i64 t_Resp) t_Group (.bool t_Quiet) (.int .i64 t_Robust) (.int .i64 t_Every) vt_Sources vt_Records).toArray :: fr)) t_Sources vt_Sources hS hL_t_Sources hM) ?_
              rintro _ h_23 ⟨F_20, r_12, rfl, hk, hS, _, hM⟩
              replace hK := hK.trans hk
              replace hL_t_Sources := hL_t_Sources.kp hk
              replace hN_t_Records := hN_t_Records.kp hk
              replace hL_t_Records := hL_t_Records.kp hk
              refine oV (.bool r_12) (q_pickK true rfl c_39 rfl) rfl ?_
              refine oM (.bool r_12) rfl rfl ?_
              rcases Bool.eq_false_or_eq_true r_12 with c_40 | c_40
              ·
               replace hM := hM.1 c_40
               refine HO.val (v := .pointer (some ⟨b_1, 4, none⟩)) (want_by rfl rfl c_40) rfl (q_fieldAddr fa_31_4 rfl rfl) ?_
               refine HO.val (v := .agg (e_api_Addr t_Group).toArray) (want_by rfl rfl c_40) rfl (q_loadAgg (cs := (e_api_Addr t_Group)) ta_28 rfl rfl (Blk.cells (k := 17) (hS.box 0 rfl) rfl)) ?_
               refine HO.call (want_by rfl rfl c_40) rfl (ec en_91 rfl rfl) (ref09_zero_walk (fr := (Ow.box b_1 31 (c_api_Talk (.bool t_V6) (.int .i64 t_Version) (.int .i64 t_Kind) (.int .i64 t_Resp) t_Group (.bool t_Quiet) (.int .i64 t_Robust) (.int .i64 t_Every) vt_Sources vt_Records).toArray :: fr)) t_Group hS hM) ?_
               rintro _ h_24 ⟨F_21, r_13, rfl, hk, hS, hM⟩
               replace hK := hK.trans hk
               replace hL_t_Sources := hL_t_Sources.kp hk
               replace hN_t_Records := hN_t_Records.kp hk
               replace hL_t_Records := hL_t_Records.kp hk
               refine HO.val (v := .bool (!r_13)) (want_by rfl rfl c_40) rfl (q_not rfl) ?_
               refine HO.val (v := .bool (!r_13)) (want_by rfl rfl c_40) rfl (q_move rfl) ?_
               rcases Bool.eq_false_or_eq_true (!r_13) with c_41 | c_41
               ·
                replace hM := hM.1 c_41
                refine HO.past (past_by rfl rfl c_41) rfl ?_
                refine HO.past (past_by rfl rfl c_41) rfl ?_
                refine HO.past (past_by rfl rfl c_41) rfl ?_
                refine HO.past (past_by rfl rfl c_41) rfl ?_
                refine HO.val (v := .bool true) (want_by rfl rfl c_40) rfl (q_pickK true rfl c_41 rfl) ?_
                refine oV (.bool true) (q_pickK true rfl c_40 rfl) rfl ?_
                refine oA (.bool true) rfl rfl ?_
                refine HO.nil (thenQ_normal (?_))
                refine HW.ret (?_)
                refine ⟨.inr rfl, .bool true, res1 rfl (rt rfl), ?_⟩
                replace hS : St F_21 (fr) h_24 := hS.perm2 [] 1 rfl rfl
                exact ⟨F_21, true, rfl, hK, hS, hL_t_Sources, hN_t_Records, hL_t_Records, hM⟩
               ·
                replace hM := hM.2 c_41
                refine HO.val (v := .pointer (some ⟨b_1, 24, none⟩)) (want_by rfl rfl c_41) rfl (q_fieldAddr fa_31_8 rfl rfl) ?_
                refine HO.val (v := vt_Sources) (want_by rfl rfl c_41) rfl (q_load to_29 rfl (Blk.cell (hS.box 0 rfl) rfl)) ?_
                refine HO.val (v := .int .i64 (t_Sources.length : Int)) (want_by rfl rfl c_41) rfl (q_len ts_29 (shp hL_t_Sources.is) rfl rfl) ?_
                refine HO.val (v := .bool (decide ((t_Sources.length : Int) = 0))) (want_by rfl rfl c_41) rfl (q_eql rfl rfl) ?_
                refine HO.val (v := .bool (decide ((t_Sources.length : Int) = 0))) (want_by rfl rfl c_40) rfl (q_pickK false rfl c_41 rfl) ?_
                refine oV (.bool (decide ((t_Sources.length : Int) = 0))) (q_pickK true rfl c_40 rfl) rfl ?_
                refine oA (.bool (decide ((t_Sources.length : Int) = 0))) rfl rfl ?_
                refine HO.nil (thenQ_normal (?_))
                refine HW.ret (?_)
                refine ⟨.inr rfl, .bool (decide ((t_Sources.length : Int) = 0)), res1 rfl (rt rfl), ?_⟩
                replace hS : St F_21 (fr) h_24 := hS.perm2 [] 1 rfl rfl
                exact ⟨F_21, decide ((t_Sources.length : Int) = 0), rfl, hK, hS, hL_t_Sources, hN_t_Records, hL_t_Records, hM⟩
              ·
               replace hM := hM.2 c_40
               refine HO.past (past_by rfl rfl c_40) rfl ?_
               refine HO.past (past_by rfl rfl c_40) rfl ?_
               refine HO.past (past_by rfl rfl c_40) rfl ?_
               refine HO.past (past_by rfl rfl c_40) rfl ?_
               refine HO.past (past_by rfl rfl c_40) rfl ?_
               refine HO.past (past_undef rfl rfl) rfl ?_
               refine HO.past (past_undef rfl rfl) rfl ?_
               refine HO.past (past_undef rfl rfl) rfl ?_
               refine HO.past (past_undef rfl rfl) rfl ?_
               refine HO.past (past_by rfl rfl c_40) rfl ?_
               refine oV (.bool false) (q_pickK false rfl c_40 rfl) rfl ?_
               refine oA (.bool false) rfl rfl ?_
               refine HO.nil (thenQ_normal (?_))
               refine HW.ret (?_)
               refine ⟨.inr rfl, .bool false, res1 rfl (rt rfl), ?_⟩
               replace hS : St F_20 (fr) h_23 := hS.perm2 [] 1 rfl rfl
               exact ⟨F_20, false, rfl, hK, hS, hL_t_Sources, hN_t_Records, hL_t_Records, hM⟩
             ·
              replace hM := hM.2 (of_decide_eq_false c_39)
              refine HO.past (past_by rfl rfl c_39) rfl ?_
              refine HO.past (past_by rfl rfl c_39) rfl ?_
              refine HO.past (past_by rfl rfl c_39) rfl ?_
              refine oV (.bool false) (q_pickK false rfl c_39 rfl) rfl ?_
              refine oM (.bool false) rfl rfl ?_
              refine HO.past (past_some rfl rfl) rfl ?_
              refine HO.past (past_some rfl rfl) rfl ?_
              refine HO.past (past_some rfl rfl) rfl ?_
              refine HO.past (past_some rfl rfl) rfl ?_
              refine HO.past (past_some rfl rfl) rfl ?_
              refine HO.past (past_undef rfl rfl) rfl ?_
              refine HO.past (past_undef rfl rfl) rfl ?_
              refine HO.past (past_undef rfl rfl) rfl ?_
              refine HO.past (past_undef rfl rfl) rfl ?_
              refine HO.past (past_some rfl rfl) rfl ?_
              refine oV (.bool false) (q_pick rfl rfl) rfl ?_
              refine oA (.bool false) rfl rfl ?_
              refine HO.nil (thenQ_normal (?_))
              refine HW.ret (?_)
              refine ⟨.inr rfl, .bool false, res1 rfl (rt rfl), ?_⟩
              replace hS : St F_19 (fr) h_22 := hS.perm2 [] 1 rfl rfl
              exact ⟨F_19, false, rfl, hK, hS, hL_t_Sources, hN_t_Records, hL_t_Records, hM⟩
            ·
             replace hM := hM.2 (of_decide_eq_false c_38)
             refine HO.past (past_by rfl rfl c_38) rfl ?_
             refine HO.past (past_by rfl rfl c_38) rfl ?_
             refine HO.past (past_by rfl rfl c_38) rfl ?_
             refine oV (.bool false) (q_pickK false rfl c_38 rfl) rfl ?_
             refine oM (.bool false) rfl rfl ?_
             refine HO.past (past_some rfl rfl) rfl ?_
             refine HO.past (past_some rfl rfl) rfl ?_
             refine HO.past (past_some rfl rfl) rfl ?_
             refine oV (.bool false) (q_pick rfl rfl) rfl ?_
             refine oM (.bool false) rfl rfl ?_
             refine HO.past (past_some rfl rfl) rfl ?_
             refine HO.past (past_some rfl rfl) rfl ?_
             refine HO.past (past_some rfl rfl) rfl ?_
             refine HO.past (past_some rfl rfl) rfl ?_
             refine HO.past (past_some rfl rfl) rfl ?_
             refine HO.past (past_undef rfl rfl) rfl ?_
             refine HO.past (past_undef rfl rfl) rfl ?_
             refine HO.past (past_undef rfl rfl) rfl ?_
             refine HO.past (past_undef rfl rfl) rfl ?_
             refine HO.past (past_some rfl rfl) rfl ?_
             refine oV (.bool false) (q_pick rfl rfl) rfl ?_
             refine oA (.bool false) rfl rfl ?_
             refine HO.nil (thenQ_normal (?_))
             refine HW.ret (?_)
             refine ⟨.inr rfl, .bool false, res1 rfl (rt rfl), ?_⟩
             replace hS : St F_19 (fr) h_22 := hS.perm2 [] 1 rfl rfl
             exact ⟨F_19, false, rfl, hK, hS, hL_t_Sources, hN_t_Records, hL_t_Records, hM⟩
           ·
            replace hM := hM.2 c_37
            refine HO.past (past_by rfl rfl c_37) rfl ?_
            refine HO.past (past_by rfl rfl c_37) rfl ?_
            refine HO.past (past_by rfl rfl c_37) rfl ?_
            refine oV (.bool false) (q_pickK false rfl c_37 rfl) rfl ?_
            refine oM (.bool false) rfl rfl ?_
            refine HO.past (past_some rfl rfl) rfl ?_
            refine HO.past (past_some rfl rfl) rfl ?_
            refine HO.past (past_some rfl rfl) rfl ?_
            refine oV (.bool false) (q_pick rfl rfl) rfl ?_
            refine oM (.bool false) rfl rfl ?_
            refine HO.past (past_some rfl rfl) rfl ?_
            refine HO.past (past_some rfl rfl) rfl ?_
            refine HO.past (past_some rfl rfl) rfl ?_
            refine oV (.bool false) (q_pick rfl rfl) rfl ?_
            refine oM (.bool false) rfl rfl ?_
            refine HO.past (past_some rfl rfl) rfl ?_
            refine HO.past (past_some rfl rfl) rfl ?_
            refine HO.past (past_some rfl rfl) rfl ?_
            refine HO.past (past_some rfl rfl) rfl ?_
            refine HO.past (past_some rfl rfl) rfl ?_
            refine HO.past (past_undef rfl rfl) rfl ?_
            refine HO.past (past_undef rfl rfl) rfl ?_
            refine HO.past (past_undef rfl rfl) rfl ?_
            refine HO.past (past_undef rfl rfl) rfl ?_
            refine HO.past (past_some rfl rfl) rfl ?_
            refine oV (.bool false) (q_pick rfl rfl) rfl ?_
            refine oA (.bool false) rfl rfl ?_
            refine HO.nil (thenQ_normal (?_))
            refine HW.ret (?_)
            refine ⟨.inr rfl, .bool false, res1 rfl (rt rfl), ?_⟩
            replace hS : St F_19 (fr) h_22 := hS.perm2 [] 1 rfl rfl
            exact ⟨F_19, false, rfl, hK, hS, hL_t_Sources, hN_t_Records, hL_t_Records, hM⟩
def ref03_Good_l1 (a : T_api_Addr) (Q : Bool → Prop) (K_1 : Int → Prop) (i_1 : Int) : Prop :=
 (i_1 < 16 → ((!a.1) = true → ((0 : Int) ≤ i_1 ∧ i_1 < 16) ∧ ((¬ ((b8 a.2 i_1) = 0) → Q false) ∧ ((b8 a.2 i_1) = 0 → (I64 (i_1 + 1)) ∧ (K_1 (i_1 + 1))))) ∧ ((!a.1) = false → (I64 (i_1 + 1)) ∧ (K_1 (i_1 + 1)))) ∧ (¬ (i_1 < 16) → Q true)
def ref03_Good_W (a : T_api_Addr) (Q : Bool → Prop) : Prop :=
 loopW (fun (K_1 : Int → Prop) (s : Int) => ref03_Good_l1 a Q K_1 s) 4
theorem ref03_Good_walk {F : Fz} {fr : List Ow} {h0 : Heap} (a : T_api_Addr) (hS : St F (fr) h0)  {Q : Bool → Prop} (hM : ref03_Good_W a Q) :
  HC Tryz.prog 66 #[.agg (e_api_Addr a).toArray] h0 fun u h' => ∃ (F' : Fz) (r_1 : Bool), u = .bool r_1 ∧ Kp F h0 F' h' ∧ St F' (fr) h' ∧ Q r_1 := by
 unfold ref03_Good_W at hM
 have hK := Kp.refl F h0
 refine HC.of_HW (n := 18) Tryz.func66 rfl rfl (Nat.le_of_ble_eq_true rfl) ?_
 refine HW.seq ?_
 refine HW.region ?_
 refine HO.eff (want_none) rfl (st_box (c := (e_api_Addr a).toArray) (k' := 17) hS rfl rfl) ?_
 rintro _ h_1 ⟨b_1, rfl, hS, hk⟩
 replace hK := hK.trans hk
 refine oA (.bool false) rfl rfl ?_
 refine HO.nil (thenQ_normal (?_))
 refine HW.seq ?_
 refine HW.seq ?_
 refine HW.region ?_
 refine oA (.int .i64 4) rfl rfl ?_
 refine HO.nil (thenQ_normal (?_))
 refine HW.block ?_
 obtain ⟨I_1, m_1, hI_1, hR_1⟩ := hM
 refine HW.loop (S := Int) (fun i_1 f h => ∃ (F' : Fz), f 1 = .pointer (some ⟨b_1, 0, none⟩) ∧ f 2 = .bool false ∧ f 3 = .int .i64 i_1 ∧ Kp F h0 F' h ∧ St F' (Ow.box b_1 28 (e_api_Addr a).toArray :: fr) h ∧ I_1 i_1) m_1 4 ⟨F, rfl, rfl, rfl, hK, hS, hI_1⟩ ?_
 rintro i_1 f_1 h_2 ⟨F_1, e1, e2, e3, hK, hS, hI0⟩
 obtain ⟨K_1, hKe_1⟩ : ∃ K : Int → Prop, K = fun i_1' => I_1 i_1' ∧ m_1 i_1' < m_1 i_1 := ⟨_, rfl⟩
 have hM : ref03_Good_l1 a Q K_1 i_1 := by rw [hKe_1]; exact hR_1 i_1 hI0
 unfold ref03_Good_l1 at hM
 refine HW.fr [(1, .pointer (some ⟨b_1, 0, none⟩)), (2, .bool false), (3, .int .i64 i_1)] ⟨e1, e2, e3, trivial⟩ ?_
 refine HW.seq ?_
 refine HW.seq ?_
 refine HW.region ?_
 refine oM (.int .i64 i_1) rfl rfl ?_
 refine oV (.bool (decide (i_1 < 16))) (q_lss rfl rfl) rfl ?_
 refine HO.nil (thenQ_normal (?_))
 refine HW.cond (decide (i_1 < 16)) rfl (fun c_1 => ?_) (fun c_1 => ?_)
 ·
  replace hM := hM.1 (of_decide_eq_true c_1)
  refine HW.skip (thenQ_normal (?_))
  refine HW.seq ?_
  refine HW.block ?_
  refine HW.seq ?_
  refine HW.region ?_
  refine oV (.pointer (some ⟨b_1, 0, none⟩)) (q_fieldAddr fa_28_0 rfl rfl) rfl ?_
  refine oV (.bool a.1) (q_load to_4 rfl (Blk.cell (hS.box 0 rfl) rfl)) rfl ?_
  refine oV (.bool (!a.1)) (q_not rfl) rfl ?_
  refine oM (.bool (!a.1)) rfl rfl ?_
  rcases Bool.eq_false_or_eq_true (!a.1) with c_2 | c_2
  ·
   replace hM := hM.1 c_2
   refine HO.val (v := .int .i64 i_1) (want_by rfl rfl c_2) rfl (q_move rfl) ?_
   refine HO.val (v := .pointer (some ⟨b_1, 1, none⟩)) (want_by rfl rfl c_2) rfl (q_fieldAddr fa_28_1 rfl rfl) ?_
   obtain ⟨ho_1, hM⟩ := hM
   refine HO.val (v := .pointer (some ⟨b_1, 1 + (i_1).toNat, none⟩)) (want_by rfl rfl c_2) rfl (q_idxA (o := 1) (t := i_1) tr_26 rfl rfl ho_1) ?_
   refine HO.val (v := .int .u8 (b8 a.2 i_1)) (want_by rfl rfl c_2) rfl (q_ldArr (o := 1) (t := i_1) (X := a.2) to_5 rfl (hS.box 0 rfl) rfl ho_1) ?_
   refine HO.val (v := .bool (!decide ((b8 a.2 i_1) = 0))) (want_by rfl rfl c_2) rfl (q_neq rfl rfl) ?_
   refine oV (.bool (!decide ((b8 a.2 i_1) = 0))) (q_pickK true rfl c_2 rfl) rfl ?_
   refine HO.nil (thenQ_normal (?_))
   refine HW.cond (!decide ((b8 a.2 i_1) = 0)) rfl (fun c_3 => ?_) (fun c_3 => ?_)
   ·
    replace hM := hM.1 (nd_true c_3)
    refine HW.seq ?_
    refine HW.region ?_
    refine oA (.bool false) rfl rfl ?_
    refine HO.nil (thenQ_normal (?_))
    refine HW.ret (blockQ_ret (thenQ_ret (thenQ_ret (blockQ_ret (thenQ_ret (?_))))))
    refine ⟨.inr rfl, .bool false, res1 rfl (rt rfl), ?_⟩
    replace hS : St F_1 (fr) h_2 := hS.perm2 [] 1 rfl rfl
    exact ⟨F_1, false, rfl, hK, hS, hM⟩
   ·
    replace hM := hM.2 (nd_false c_3)
    refine HW.skip (blockQ_normal (thenQ_normal (?_)))
    refine HW.region ?_
    refine oM (.int .i64 i_1) rfl rfl ?_
    obtain ⟨ho_2, hM⟩ := hM
    refine oV (.int .i64 (i_1 + 1)) (q_addN _ rfl rfl rfl ho_2.1 ho_2.2) rfl ?_
    refine oA (.int .i64 (i_1 + 1)) rfl rfl ?_
    refine HO.nil (thenQ_normal (?_))
    rw [hKe_1] at hM
    exact ⟨i_1 + 1, ⟨F_1, rfl, rfl, rfl, hK, hS, hM.1⟩, hM.2⟩
  ·
   replace hM := hM.2 c_2
   refine HO.past (past_by rfl rfl c_2) rfl ?_
   refine HO.past (past_by rfl rfl c_2) rfl ?_
   refine HO.past (past_by rfl rfl c_2) rfl ?_
   refine HO.past (past_by rfl rfl c_2) rfl ?_
   refine HO.past (past_by rfl rfl c_2) rfl ?_
   refine oV (.bool false) (q_pickK false rfl c_2 rfl) rfl ?_
   refine HO.nil (thenQ_normal (?_))
   refine HW.condF rfl ?_
   refine HW.skip (blockQ_normal (thenQ_normal (?_)))
   refine HW.region ?_
   refine oM (.int .i64 i_1) rfl rfl ?_
   obtain ⟨ho_3, hM⟩ := hM
   refine oV (.int .i64 (i_1 + 1)) (q_addN _ rfl rfl rfl ho_3.1 ho_3.2) rfl ?_
   refine oA (.int .i64 (i_1 + 1)) rfl rfl ?_
   refine HO.nil (thenQ_normal (?_))
   rw [hKe_1] at hM
   exact ⟨i_1 + 1, ⟨F_1, rfl, rfl, rfl, hK, hS, hM.1⟩, hM.2⟩
 ·
  replace hM := hM.2 (of_decide_eq_false c_1)
  refine HW.exit (thenQ_exit (thenQ_exit (blockQ_exit (thenQ_normal (?_)))))
  refine HW.seq ?_
  refine HW.region ?_
  refine oA (.bool true) rfl rfl ?_
  refine HO.nil (thenQ_normal (?_))
  refine HW.ret (?_)
  refine ⟨.inr rfl, .bool true, res1 rfl (rt rfl), ?_⟩
  replace hS : St F_1 (fr) h_2 := hS.perm2 [] 1 rfl rfl
  exact ⟨F_1, true, rfl, hK, hS, hM⟩
def ref08_Group_W (a : T_api_Addr) (Q : Bool → Prop) : Prop :=
 ((!a.1) = true → ref03_Good_W a (fun r_2 => (r_2 = true → ref03_Group_W a (fun r_3 => Q r_3)) ∧ (r_2 = false → Q false))) ∧ ((!a.1) = false → Q false)
theorem ref08_Group_walk {F : Fz} {fr : List Ow} {h0 : Heap} (a : T_api_Addr) (hS : St F (fr) h0)  {Q : Bool → Prop} (hM : ref08_Group_W a Q) :
  HC Tryz.prog 96 #[.agg (e_api_Addr a).toArray] h0 fun u h' => ∃ (F' : Fz) (r_1 : Bool), u = .bool r_1 ∧ Kp F h0 F' h' ∧ St F' (fr) h' ∧ Q r_1 := by
 unfold ref08_Group_W at hM
 have hK := Kp.refl F h0
 refine HC.of_HW (n := 14) Tryz.func96 rfl rfl (Nat.le_of_ble_eq_true rfl) ?_
 refine HW.seq ?_
 refine HW.region ?_
 refine HO.eff (want_none) rfl (st_box (c := (e_api_Addr a).toArray) (k' := 17) hS rfl rfl) ?_
 rintro _ h_1 ⟨b_1, rfl, hS, hk⟩
 replace hK := hK.trans hk
 refine oA (.bool false) rfl rfl ?_
 refine HO.nil (thenQ_normal (?_))
 refine HW.seq ?_
 refine HW.region ?_
 refine oV (.pointer (some ⟨b_1, 0, none⟩)) (q_fieldAddr fa_28_0 rfl rfl) rfl ?_
 refine oV (.bool a.1) (q_load to_4 rfl (Blk.cell (hS.box 0 rfl) rfl)) rfl ?_
 refine oV (.bool (!a.1)) (q_not rfl) rfl ?_
 refine oM (.bool (!a.1)) rfl rfl ?_
 rcases Bool.eq_false_or_eq_true (!a.1) with c_1 | c_1
 ·
  replace hM := hM.1 c_1
  refine HO.val (v := .agg (e_api_Addr a).toArray) (want_by rfl rfl c_1) rfl (q_loadAgg (cs := (e_api_Addr a)) ta_28 rfl rfl (Blk.cells (k := 17) (hS.box 0 rfl) rfl)) ?_
  refine HO.call (want_by rfl rfl c_1) rfl (ec en_66 rfl rfl) (ref03_Good_walk (fr := (Ow.box b_1 28 (e_api_Addr a).toArray :: fr)) a hS hM) ?_
  rintro _ h_2 ⟨F_1, r_2, rfl, hk, hS, hM⟩
  replace hK := hK.trans hk
  refine oV (.bool r_2) (q_pickK true rfl c_1 rfl) rfl ?_
  refine oM (.bool r_2) rfl rfl ?_
  rcases Bool.eq_false_or_eq_true r_2 with c_2 | c_2
  ·
   replace hM := hM.1 c_2
   refine HO.val (v := .agg (e_api_Addr a).toArray) (want_by rfl rfl c_2) rfl (q_loadAgg (cs := (e_api_Addr a)) ta_28 rfl rfl (Blk.cells (k := 17) (hS.box 0 rfl) rfl)) ?_
   refine HO.call (want_by rfl rfl c_2) rfl (ec en_67 rfl rfl) (ref03_Group_walk (fr := (Ow.box b_1 28 (e_api_Addr a).toArray :: fr)) a hS hM) ?_
   rintro _ h_3 ⟨F_2, r_3, rfl, hk, hS, hM⟩
   replace hK := hK.trans hk
   refine oV (.bool r_3) (q_pickK true rfl c_2 rfl) rfl ?_
   refine oA (.bool r_3) rfl rfl ?_
   refine HO.nil (thenQ_normal (?_))
   refine HW.ret (?_)
   refine ⟨.inr rfl, .bool r_3, res1 rfl (rt rfl), ?_⟩
   replace hS : St F_2 (fr) h_3 := hS.perm2 [] 1 rfl rfl
   exact ⟨F_2, r_3, rfl, hK, hS, hM⟩
  ·
   replace hM := hM.2 c_2
   refine HO.past (past_by rfl rfl c_2) rfl ?_
   refine HO.past (past_by rfl rfl c_2) rfl ?_
   refine oV (.bool false) (q_pickK false rfl c_2 rfl) rfl ?_
   refine oA (.bool false) rfl rfl ?_
   refine HO.nil (thenQ_normal (?_))
   refine HW.ret (?_)
   refine ⟨.inr rfl, .bool false, res1 rfl (rt rfl), ?_⟩
   replace hS : St F_1 (fr) h_2 := hS.perm2 [] 1 rfl rfl
   exact ⟨F_1, false, rfl, hK, hS, hM⟩
 ·
  replace hM := hM.2 c_1
  refine HO.past (past_by rfl rfl c_1) rfl ?_
  refine HO.past (past_by rfl rfl c_1) rfl ?_
  refine oV (.bool false) (q_pickK false rfl c_1 rfl) rfl ?_
  refine oM (.bool false) rfl rfl ?_
  refine HO.past (past_some rfl rfl) rfl ?_
  refine HO.past (past_some rfl rfl) rfl ?_
  refine oV (.bool false) (q_pick rfl rfl) rfl ?_
  refine oA (.bool false) rfl rfl ?_
  refine HO.nil (thenQ_normal (?_))
  refine HW.ret (?_)
  refine ⟨.inr rfl, .bool false, res1 rfl (rt rfl), ?_⟩
  replace hS : St F (fr) h_1 := hS.perm2 [] 1 rfl rfl
  exact ⟨F, false, rfl, hK, hS, hM⟩
def ref08_Sources_l1 (l : List T_api_Addr) (Q : Bool → Prop) (K_1 : Int → Prop) (i_1 : Int) : Prop :=
 (i_1 < (l.length : Int) → ((0 : Int) ≤ i_1 ∧ i_1 < (l.length : Int)) ∧ ((((gi l i_1).1) = true → Q false) ∧ (((gi l i_1).1) = false → ref03_Good_W (gi l i_1) (fun r_2 => ((!r_2) = true → Q false) ∧ ((!r_2) = false → (I64 (i_1 + 1)) ∧ (K_1 (i_1 + 1))))))) ∧ (¬ (i_1 < (l.length : Int)) → Q (decide ((l.length : Int) < 65)))
def ref08_Sources_W (l : List T_api_Addr) (Q : Bool → Prop) : Prop :=
 loopW (fun (K_1 : Int → Prop) (s : Int) => ref08_Sources_l1 l Q K_1 s) 0
theorem ref08_Sources_walk {F : Fz} {fr : List Ow} {h0 : Heap} (l : List T_api_Addr) (vl : Value) (hS : St F (fr) h0) (hL_l : SliceF F h0 17 e_api_Addr vl l) {Q : Bool → Prop} (hM : ref08_Sources_W l Q) :
  HC Tryz.prog 97 #[vl] h0 fun u h' => ∃ (F' : Fz) (r_1 : Bool), u = .bool r_1 ∧ Kp F h0 F' h' ∧ St F' (fr) h' ∧ (SliceF F' h' 17 e_api_Addr vl l) ∧ Q r_1 := by
 unfold ref08_Sources_W at hM
 have hK := Kp.refl F h0
 refine HC.of_HW (n := 26) Tryz.func97 rfl rfl (Nat.le_of_ble_eq_true rfl) ?_
 refine HW.seq ?_
 refine HW.region ?_
 refine oA (.bool false) rfl rfl ?_
 refine HO.nil (thenQ_normal (?_))
 refine HW.seq ?_
 refine HW.seq ?_
 refine HW.region ?_
 refine oA (.int .i64 0) rfl rfl ?_
 refine HO.nil (thenQ_normal (?_))
 refine HW.block ?_
 obtain ⟨I_1, m_1, hI_1, hR_1⟩ := hM
 refine HW.loop (S := Int) (fun i_1 f h => ∃ (F' : Fz), f 0 = vl ∧ f 2 = .bool false ∧ f 3 = .int .i64 i_1 ∧ Kp F h0 F' h ∧ St F' (fr) h ∧ (SliceF F' h 17 e_api_Addr vl l) ∧ I_1 i_1) m_1 0 ⟨F, rfl, rfl, rfl, hK, hS, hL_l, hI_1⟩ ?_
 rintro i_1 f_1 h_1 ⟨F_1, e0, e2, e3, hK, hS, hL_l, hI0⟩
 obtain ⟨K_1, hKe_1⟩ : ∃ K : Int → Prop, K = fun i_1' => I_1 i_1' ∧ m_1 i_1' < m_1 i_1 := ⟨_, rfl⟩
 have hM : ref08_Sources_l1 l Q K_1 i_1 := by rw [hKe_1]; exact hR_1 i_1 hI0
 unfold ref08_Sources_l1 at hM
 refine HW.fr [(0, vl), (2, .bool false), (3, .int .i64 i_1)] ⟨e0, e2, e3, trivial⟩ ?_
 refine HW.seq ?_
 refine HW.seq ?_
 refine HW.region ?_
 refine oM (.int .i64 i_1) rfl rfl ?_
 refine oM (vl) rfl rfl ?_
 refine oV (.int .i64 (l.length : Int)) (q_len ts_29 (shp hL_l.is) rfl rfl) rfl ?_
 refine oV (.bool (decide (i_1 < (l.length : Int)))) (q_lss rfl rfl) rfl ?_
 refine HO.nil (thenQ_normal (?_))
 refine HW.cond (decide (i_1 < (l.length : Int))) rfl (fun c_1 => ?_) (fun c_1 => ?_)
 ·
  replace hM := hM.1 (of_decide_eq_true c_1)
  refine HW.skip (thenQ_normal (?_))
  refine HW.seq ?_
  refine HW.block ?_
  refine HW.seq ?_
  refine HW.region ?_
  refine oM (vl) rfl rfl ?_
  refine oM (.int .i64 i_1) rfl rfl ?_
  obtain ⟨ho_1, hM⟩ := hM
  refine oV (elemPtr 17 vl (i_1).toNat) (q_idx ts_29 hL_l.is rfl rfl ho_1) rfl ?_
  refine oV (fieldPtr 17 vl (i_1).toNat 0) (q_fldElem fa_28_0 hL_l.is rfl ho_1) rfl ?_
  refine oV (.bool ((gi l i_1).1)) (q_ldField to_4 hL_l.is rfl ho_1 (by decide) rfl) rfl ?_
  refine oM (.bool ((gi l i_1).1)) rfl rfl ?_
  rcases Bool.eq_false_or_eq_true ((gi l i_1).1) with c_2 | c_2
  ·
   replace hM := hM.1 c_2
   refine HO.past (past_by rfl rfl c_2) rfl ?_
   refine HO.past (past_by rfl rfl c_2) rfl ?_
   refine HO.past (past_by rfl rfl c_2) rfl ?_
   refine HO.past (past_by rfl rfl c_2) rfl ?_
   refine HO.past (past_by rfl rfl c_2) rfl ?_
   refine HO.past (past_by rfl rfl c_2) rfl ?_
   refine oV (.bool true) (q_pickK true rfl c_2 rfl) rfl ?_
   refine HO.nil (thenQ_normal (?_))
   refine HW.condT rfl ?_
   refine HW.seq ?_
   refine HW.region ?_
   refine oA (.bool false) rfl rfl ?_
   refine HO.nil (thenQ_normal (?_))
   refine HW.ret (blockQ_ret (thenQ_ret (thenQ_ret (blockQ_ret (thenQ_ret (?_))))))
   refine ⟨.inr rfl, .bool false, res1 rfl (rt rfl), ?_⟩
   exact ⟨F_1, false, rfl, hK, hS, hL_l, hM⟩
  ·
   replace hM := hM.2 c_2
   refine HO.val (v := vl) (want_by rfl rfl c_2) rfl (q_move rfl) ?_
   refine HO.val (v := .int .i64 i_1) (want_by rfl rfl c_2) rfl (q_move rfl) ?_
   refine HO.val (v := elemPtr 17 vl (i_1).toNat) (want_by rfl rfl c_2) rfl (q_idx ts_29 hL_l.is rfl rfl ho_1) ?_
   refine HO.val (v := .agg (e_api_Addr (gi l i_1)).toArray) (want_by rfl rfl c_2) rfl (q_ldElemAgg (cs := (e_api_Addr (gi l i_1))) ta_28 hL_l.is rfl ho_1 rfl) ?_
   refine HO.call (want_by rfl rfl c_2) rfl (ec en_66 rfl rfl) (ref03_Good_walk (fr := (fr)) (gi l i_1) hS hM) ?_
   rintro _ h_2 ⟨F_2, r_2, rfl, hk, hS, hM⟩
   replace hK := hK.trans hk
   replace hL_l := hL_l.kp hk
   refine HO.val (v := .bool (!r_2)) (want_by rfl rfl c_2) rfl (q_not rfl) ?_
   refine oV (.bool (!r_2)) (q_pickK false rfl c_2 rfl) rfl ?_
   refine HO.nil (thenQ_normal (?_))
   refine HW.cond (!r_2) rfl (fun c_3 => ?_) (fun c_3 => ?_)
   ·
    replace hM := hM.1 c_3
    refine HW.seq ?_
    refine HW.region ?_
    refine oA (.bool false) rfl rfl ?_
    refine HO.nil (thenQ_normal (?_))
    refine HW.ret (blockQ_ret (thenQ_ret (thenQ_ret (blockQ_ret (thenQ_ret (?_))))))
    refine ⟨.inr rfl, .bool false, res1 rfl (rt rfl), ?_⟩
    exact ⟨F_2, false, rfl, hK, hS, hL_l, hM⟩
   ·
    replace hM := hM.2 c_3
    refine HW.skip (blockQ_normal (thenQ_normal (?_)))
    refine HW.region ?_
    refine oM (.int .i64 i_1) rfl rfl ?_
    obtain ⟨ho_2, hM⟩ := hM
    refine oV (.int .i64 (i_1 + 1)) (q_addN _ rfl rfl rfl ho_2.1 ho_2.2) rfl ?_
    refine oA (.int .i64 (i_1 + 1)) rfl rfl ?_
    refine HO.nil (thenQ_normal (?_))
    rw [hKe_1] at hM
    exact ⟨i_1 + 1, ⟨F_2, rfl, rfl, rfl, hK, hS, hL_l, hM.1⟩, hM.2⟩
 ·
  replace hM := hM.2 (of_decide_eq_false c_1)
  refine HW.exit (thenQ_exit (thenQ_exit (blockQ_exit (thenQ_normal (?_)))))
  refine HW.seq ?_
  refine HW.region ?_
  refine oM (vl) rfl rfl ?_
  refine oV (.int .i64 (l.length : Int)) (q_len ts_29 (shp hL_l.is) rfl rfl) rfl ?_
  refine oV (.bool (decide ((l.length : Int) < 65))) (q_lss rfl rfl) rfl ?_
  refine oA (.bool (decide ((l.length : Int) < 65))) rfl rfl ?_
  refine HO.nil (thenQ_normal (?_))
  refine HW.ret (?_)
  refine ⟨.inr rfl, .bool (decide ((l.length : Int) < 65)), res1 rfl (rt rfl), ?_⟩
  exact ⟨F_1, decide ((l.length : Int) < 65), rfl, hK, hS, hL_l, hM⟩
def ref08_exact_W (n : Int) (Q : Bool → Prop) : Prop :=
 (0 ≤ n → ref07_Code8_W n (fun r_2 => ref07_Value8_W r_2 (fun r_3 => Q (decide (r_3 = n))))) ∧ (¬ (0 ≤ n) → Q false)
theorem ref08_exact_walk {F : Fz} {fr : List Ow} {h0 : Heap} (n : Int) (hS : St F (fr) h0)  {Q : Bool → Prop} (hM : ref08_exact_W n Q) :
  HC Tryz.prog 98 #[.int .i64 n] h0 fun u h' => ∃ (F' : Fz) (r_1 : Bool), u = .bool r_1 ∧ Kp F h0 F' h' ∧ St F' (fr) h' ∧ Q r_1 := by
 unfold ref08_exact_W at hM
 have hK := Kp.refl F h0
 refine HC.of_HW (n := 12) Tryz.func98 rfl rfl (Nat.le_of_ble_eq_true rfl) ?_
 refine HW.seq ?_
 refine HW.region ?_
 refine oA (.bool false) rfl rfl ?_
 refine HO.nil (thenQ_normal (?_))
 refine HW.seq ?_
 refine HW.region ?_
 refine oM (.int .i64 n) rfl rfl ?_
 refine oV (.bool (decide (0 ≤ n))) (q_geq rfl rfl) rfl ?_
 refine oM (.bool (decide (0 ≤ n))) rfl rfl ?_
 rcases Bool.eq_false_or_eq_true (decide (0 ≤ n)) with c_1 | c_1
 ·
  replace hM := hM.1 (of_decide_eq_true c_1)
  refine HO.val (v := .int .i64 n) (want_by rfl rfl c_1) rfl (q_move rfl) ?_
  refine HO.call (want_by rfl rfl c_1) rfl (ec en_95 rfl rfl) (ref07_Code8_walk (fr := (fr)) n hS hM) ?_
  rintro _ h_1 ⟨F_1, r_2, rfl, hk, hS, hM⟩
  replace hK := hK.trans hk
  refine HO.call (want_by rfl rfl c_1) rfl (ec en_94 rfl rfl) (ref07_Value8_walk (fr := (fr)) r_2 hS hM) ?_
  rintro _ h_2 ⟨F_2, r_3, rfl, hk, hS, hM⟩
  replace hK := hK.trans hk
  refine HO.val (v := .int .i64 n) (want_by rfl rfl c_1) rfl (q_move rfl) ?_
  refine HO.val (v := .bool (decide (r_3 = n))) (want_by rfl rfl c_1) rfl (q_eql rfl rfl) ?_
  refine oV (.bool (decide (r_3 = n))) (q_pickK true rfl c_1 rfl) rfl ?_
  refine oA (.bool (decide (r_3 = n))) rfl rfl ?_
  refine HO.nil (thenQ_normal (?_))
  refine HW.ret (?_)
  refine ⟨.inr rfl, .bool (decide (r_3 = n)), res1 rfl (rt rfl), ?_⟩
  exact ⟨F_2, decide (r_3 = n), rfl, hK, hS, hM⟩
 ·
  replace hM := hM.2 (of_decide_eq_false c_1)
  refine HO.past (past_by rfl rfl c_1) rfl ?_
  refine HO.past (past_by rfl rfl c_1) rfl ?_
  refine HO.past (past_by rfl rfl c_1) rfl ?_
  refine HO.past (past_by rfl rfl c_1) rfl ?_
  refine HO.past (past_by rfl rfl c_1) rfl ?_
  refine oV (.bool false) (q_pickK false rfl c_1 rfl) rfl ?_
  refine oA (.bool false) rfl rfl ?_
  refine HO.nil (thenQ_normal (?_))
  refine HW.ret (?_)
  refine ⟨.inr rfl, .bool false, res1 rfl (rt rfl), ?_⟩
  exact ⟨F, false, rfl, hK, hS, hM⟩
end Go.Wk
