/- Walks and mirrors of Merge laws. -/
import Derived.Test.YtokodpeigafenaaDoorTxt
import Derived.Test.YtokodpeigafenaaDoorNest
import Derived.Test.YtokodpeigafenaaDoorLayD
import Derived.Test.YtokodpeigafenaaDoorProg
set_option linter.unusedSimpArgs false
set_option linter.unusedVariables false
set_option linter.unusedSectionVars false
namespace Go.Wk
open Go.HL
open Go.Proofs hiding encI
variable [DM]
abbrev T_api_Addr := Bool × Ba 16
abbrev T_api_Record := Int × T_api_Addr × (Value × List T_api_Addr)
abbrev T_api_Filter := Bool × (Value × List T_api_Addr)
def e_api_Addr (x : T_api_Addr) : List Value := [.bool x.1, .int .u8 (b8 x.2 0), .int .u8 (b8 x.2 1), .int .u8 (b8 x.2 2), .int .u8 (b8 x.2 3), .int .u8 (b8 x.2 4), .int .u8 (b8 x.2 5), .int .u8 (b8 x.2 6), .int .u8 (b8 x.2 7), .int .u8 (b8 x.2 8), .int .u8 (b8 x.2 9), .int .u8 (b8 x.2 10), .int .u8 (b8 x.2 11), .int .u8 (b8 x.2 12), .int .u8 (b8 x.2 13), .int .u8 (b8 x.2 14), .int .u8 (b8 x.2 15)]
def e_api_Record (x : T_api_Record) : List Value := [.int .i64 x.1, .bool x.2.1.1, .int .u8 (b8 x.2.1.2 0), .int .u8 (b8 x.2.1.2 1), .int .u8 (b8 x.2.1.2 2), .int .u8 (b8 x.2.1.2 3), .int .u8 (b8 x.2.1.2 4), .int .u8 (b8 x.2.1.2 5), .int .u8 (b8 x.2.1.2 6), .int .u8 (b8 x.2.1.2 7), .int .u8 (b8 x.2.1.2 8), .int .u8 (b8 x.2.1.2 9), .int .u8 (b8 x.2.1.2 10), .int .u8 (b8 x.2.1.2 11), .int .u8 (b8 x.2.1.2 12), .int .u8 (b8 x.2.1.2 13), .int .u8 (b8 x.2.1.2 14), .int .u8 (b8 x.2.1.2 15), x.2.2.1]
def nf_api_Record : Nf T_api_Record := ((Nf.sl 17 e_api_Addr).on fun x : T_api_Record => x.2.2)
def c_api_Record (a0 : Value) (a1 : T_api_Addr) (a2 : Value) : List Value := [a0, .bool a1.1, .int .u8 (b8 a1.2 0), .int .u8 (b8 a1.2 1), .int .u8 (b8 a1.2 2), .int .u8 (b8 a1.2 3), .int .u8 (b8 a1.2 4), .int .u8 (b8 a1.2 5), .int .u8 (b8 a1.2 6), .int .u8 (b8 a1.2 7), .int .u8 (b8 a1.2 8), .int .u8 (b8 a1.2 9), .int .u8 (b8 a1.2 10), .int .u8 (b8 a1.2 11), .int .u8 (b8 a1.2 12), .int .u8 (b8 a1.2 13), .int .u8 (b8 a1.2 14), .int .u8 (b8 a1.2 15), a2]
def e_api_Filter (x : T_api_Filter) : List Value := [.bool x.1, x.2.1]
def nf_api_Filter : Nf T_api_Filter := ((Nf.sl 17 e_api_Addr).on fun x : T_api_Filter => x.2)
def c_acequialaw19_One (a0 : Value) (a1 : Value) (a2 : Value) (a3 : Value) (a4 : T_api_Addr) (a5 : T_api_Addr) (a6 : Value) : List Value := [a0, a1, a2, a3, .bool a4.1, .int .u8 (b8 a4.2 0), .int .u8 (b8 a4.2 1), .int .u8 (b8 a4.2 2), .int .u8 (b8 a4.2 3), .int .u8 (b8 a4.2 4), .int .u8 (b8 a4.2 5), .int .u8 (b8 a4.2 6), .int .u8 (b8 a4.2 7), .int .u8 (b8 a4.2 8), .int .u8 (b8 a4.2 9), .int .u8 (b8 a4.2 10), .int .u8 (b8 a4.2 11), .int .u8 (b8 a4.2 12), .int .u8 (b8 a4.2 13), .int .u8 (b8 a4.2 14), .int .u8 (b8 a4.2 15), .bool a5.1, .int .u8 (b8 a5.2 0), .int .u8 (b8 a5.2 1), .int .u8 (b8 a5.2 2), .int .u8 (b8 a5.2 3), .int .u8 (b8 a5.2 4), .int .u8 (b8 a5.2 5), .int .u8 (b8 a5.2 6), .int .u8 (b8 a5.2 7), .int .u8 (b8 a5.2 8), .int .u8 (b8 a5.2 9), .int .u8 (b8 a5.2 10), .int .u8 (b8 a5.2 11), .int .u8 (b8 a5.2 12), .int .u8 (b8 a5.2 13), .int .u8 (b8 a5.2 14), .int .u8 (b8 a5.2 15), a6]
theorem one_e_api_Addr (x : T_api_Addr) : ∀ v ∈ e_api_Addr x, v.oneCell' = true := by intro v hv; simp [e_api_Addr] at hv; rcases hv with rfl | rfl | rfl | rfl | rfl | rfl | rfl | rfl | rfl | rfl | rfl | rfl | rfl | rfl | rfl | rfl | rfl <;> rfl
theorem tz_27 : TZero Tryd.prog 27 (.agg #[.bool false, .int .u8 0, .int .u8 0, .int .u8 0, .int .u8 0, .int .u8 0, .int .u8 0, .int .u8 0, .int .u8 0, .int .u8 0, .int .u8 0, .int .u8 0, .int .u8 0, .int .u8 0, .int .u8 0, .int .u8 0, .int .u8 0]) := Tryd.zeroValue27
theorem ts_22 : TSlice Tryd.prog 22 27 17 := ⟨Tryd.underlying22, Tryd.sizeOf27⟩
theorem tl_22 : TLit Tryd.prog 22 27 17 #[.bool false, .int .u8 0, .int .u8 0, .int .u8 0, .int .u8 0, .int .u8 0, .int .u8 0, .int .u8 0, .int .u8 0, .int .u8 0, .int .u8 0, .int .u8 0, .int .u8 0, .int .u8 0, .int .u8 0, .int .u8 0, .int .u8 0] := tlit ts_22 tz_27 rfl
theorem ta_27 : TAgg Tryd.prog 27 17 := ⟨Tryd.isAgg27, Tryd.sizeOf27⟩
theorem te_22 : TElem Tryd.prog 22 27 17 17 := ⟨Tryd.underlying22, ⟨Tryd.t27, .agg #[.bool false, .int .u8 0, .int .u8 0, .int .u8 0, .int .u8 0, .int .u8 0, .int .u8 0, .int .u8 0, .int .u8 0, .int .u8 0, .int .u8 0, .int .u8 0, .int .u8 0, .int .u8 0, .int .u8 0, .int .u8 0, .int .u8 0], by kernel_rfl, by kernel_rfl, by kernel_rfl, by kernel_rfl, by kernel_rfl⟩, by decide⟩
theorem mixed : Tryd.prog.follows .mixedOrders = true := by kernel_rfl
theorem to_5 : TOne Tryd.prog 5 := ⟨Tryd.isAgg5, Tryd.sizeOf5⟩
theorem tr_25 : TArr Tryd.prog 25 16 5 := ⟨Tryd.underlying25, to_5, Tryd.underlying5, ⟨Tryd.t5, by kernel_rfl⟩, by kernel_rfl⟩
theorem teq_25 (d : Nat) (a b : Ba 16) (w : World) : (Op.equalIn (d + 2) 25 (.agg (arrCells a).toArray) (.agg (arrCells b).toArray)).run Tryd.prog w = .ok (decide (a = b)) w := teqArr tr_25 d a b w
set_option maxRecDepth 100000 in
theorem teq_27 (d : Nat) (a b : T_api_Addr) (w : World) : (Op.equalIn (d + 3) 27 (.agg (e_api_Addr a).toArray) (.agg (e_api_Addr b).toArray)).run Tryd.prog w = .ok (decide (a = b)) w := by
  refine (eqs w (d + 2) 27 _ _ Tryd.underlying27 (by kernel_rfl) (eqf_cons w (a := .bool a.1) (b := .bool b.1) (by decide) (by kernel_rfl) (by kernel_rfl) (run_equalIn_bool' w _ _ _ _ Tryd.underlying4) (eqf_cons w (a := .agg (arrCells a.2).toArray) (b := .agg (arrCells b.2).toArray) (by decide) (by kernel_rfl) (by kernel_rfl) (teq_25 (d + 0) _ _ w) (eqf_nil w)))).trans ?_
  congr 1; rw [Bool.eq_iff_iff]; simp [Prod.ext_iff]
theorem fa_27_0 : FieldAt Tryd.prog 27 0 0 := fun a w => by kernel_rfl
theorem to_4 : TOne Tryd.prog 4 := ⟨Tryd.isAgg4, Tryd.sizeOf4⟩
theorem fa_27_1 : FieldAt Tryd.prog 27 1 1 := fun a w => by kernel_rfl
theorem en_38 (args : Array Value) (w : World) : (callFunc 38 args).run Tryd.prog w = .ok (.enter 38 args) w := by kernel_rfl
theorem en_68 (args : Array Value) (w : World) : (callFunc 68 args).run Tryd.prog w = .ok (.enter 68 args) w := by kernel_rfl
theorem en_69 (args : Array Value) (w : World) : (callFunc 69 args).run Tryd.prog w = .ok (.enter 69 args) w := by kernel_rfl
theorem en_53 (args : Array Value) (w : World) : (callFunc 53 args).run Tryd.prog w = .ok (.enter 53 args) w := by kernel_rfl
theorem tz_24 : TZero Tryd.prog 24 (.agg #[.bool false, .slice none 0 0]) := Tryd.zeroValue24
theorem fa_24_0 : FieldAt Tryd.prog 24 0 0 := fun a w => by kernel_rfl
theorem fa_24_1 : FieldAt Tryd.prog 24 1 1 := fun a w => by kernel_rfl
theorem to_22 : TOne Tryd.prog 22 := ⟨Tryd.isAgg22, Tryd.sizeOf22⟩
theorem en_28 (args : Array Value) (w : World) : (callFunc 28 args).run Tryd.prog w = .ok (.enter 28 args) w := by kernel_rfl
theorem tp_24 : TPlaces Tryd.prog 24 #[(0, 1), (1, 1)] #[.bool false, .slice none 0 0] := tplaces Tryd.runUnderlying24 Tryd.zeroValue24 rfl (fun w => by kernel_rfl)
theorem ta_24 : TAgg Tryd.prog 24 2 := ⟨Tryd.isAgg24, Tryd.sizeOf24⟩
theorem en_25 (args : Array Value) (w : World) : (callFunc 25 args).run Tryd.prog w = .ok (.enter 25 args) w := by kernel_rfl
theorem en_47 (args : Array Value) (w : World) : (callFunc 47 args).run Tryd.prog w = .ok (.enter 47 args) w := by kernel_rfl
theorem tz_22 : TZero Tryd.prog 22 (.slice none 0 0) := Tryd.zeroValue22
theorem en_77 (args : Array Value) (w : World) : (callFunc 77 args).run Tryd.prog w = .ok (.enter 77 args) w := by kernel_rfl
theorem ts_96 : TSlice Tryd.prog 96 5 1 := ⟨Tryd.underlying96, Tryd.sizeOf5⟩
theorem en_75 (args : Array Value) (w : World) : (callFunc 75 args).run Tryd.prog w = .ok (.enter 75 args) w := by kernel_rfl
theorem en_74 (args : Array Value) (w : World) : (callFunc 74 args).run Tryd.prog w = .ok (.enter 74 args) w := by kernel_rfl
theorem en_59 (args : Array Value) (w : World) : (callFunc 59 args).run Tryd.prog w = .ok (.enter 59 args) w := by kernel_rfl
theorem en_64 (args : Array Value) (w : World) : (callFunc 64 args).run Tryd.prog w = .ok (.enter 64 args) w := by kernel_rfl
theorem en_65 (args : Array Value) (w : World) : (callFunc 65 args).run Tryd.prog w = .ok (.enter 65 args) w := by kernel_rfl
theorem en_48 (args : Array Value) (w : World) : (callFunc 48 args).run Tryd.prog w = .ok (.enter 48 args) w := by kernel_rfl
theorem tp_40 : TPlaces Tryd.prog 40 #[(0, 1), (1, 17), (18, 1)] #[.int .i64 0, .bool false, .int .u8 0, .int .u8 0, .int .u8 0, .int .u8 0, .int .u8 0, .int .u8 0, .int .u8 0, .int .u8 0, .int .u8 0, .int .u8 0, .int .u8 0, .int .u8 0, .int .u8 0, .int .u8 0, .int .u8 0, .int .u8 0, .slice none 0 0] := tplaces Tryd.runUnderlying40 Tryd.zeroValue40 rfl (fun w => by kernel_rfl)
theorem nfm_api_Record {F : Fz} {h : Heap} (x : T_api_Record) (s0 : SliceF F h 17 e_api_Addr x.2.2.1 x.2.2.2) : (nf_api_Record).p F h x := s0
theorem nff_api_Record_18 {F : Fz} {h : Heap} {x : T_api_Record} (s : (nf_api_Record).p F h x) : SliceF F h 17 e_api_Addr x.2.2.1 x.2.2.2 := s
theorem nfi_api_Record_18 {h : Heap} {x : T_api_Record} (s : (nf_api_Record).q h x) : SliceIs h 17 e_api_Addr x.2.2.1 x.2.2.2 := s
theorem nfo_api_Record {h : Heap} {x : T_api_Record} (s : (nf_api_Record).q h x) : ∀ u ∈ e_api_Record x, u.oneCell' = true := by
  intro u hu; simp [e_api_Record] at hu; rcases hu with rfl | rfl | rfl | rfl | rfl | rfl | rfl | rfl | rfl | rfl | rfl | rfl | rfl | rfl | rfl | rfl | rfl | rfl | rfl
  · rfl
  · rfl
  · rfl
  · rfl
  · rfl
  · rfl
  · rfl
  · rfl
  · rfl
  · rfl
  · rfl
  · rfl
  · rfl
  · rfl
  · rfl
  · rfl
  · rfl
  · rfl
  · exact (shp (nfi_api_Record_18 s)).one
theorem tz_40 : TZero Tryd.prog 40 (.agg #[.int .i64 0, .bool false, .int .u8 0, .int .u8 0, .int .u8 0, .int .u8 0, .int .u8 0, .int .u8 0, .int .u8 0, .int .u8 0, .int .u8 0, .int .u8 0, .int .u8 0, .int .u8 0, .int .u8 0, .int .u8 0, .int .u8 0, .int .u8 0, .slice none 0 0]) := Tryd.zeroValue40
theorem ts_31 : TSlice Tryd.prog 31 40 19 := ⟨Tryd.underlying31, Tryd.sizeOf40⟩
theorem tl_31 : TLit Tryd.prog 31 40 19 #[.int .i64 0, .bool false, .int .u8 0, .int .u8 0, .int .u8 0, .int .u8 0, .int .u8 0, .int .u8 0, .int .u8 0, .int .u8 0, .int .u8 0, .int .u8 0, .int .u8 0, .int .u8 0, .int .u8 0, .int .u8 0, .int .u8 0, .int .u8 0, .slice none 0 0] := tlit ts_31 tz_40 rfl
theorem en_41 (args : Array Value) (w : World) : (callFunc 41 args).run Tryd.prog w = .ok (.enter 41 args) w := by kernel_rfl
theorem te_31 : TElem Tryd.prog 31 40 19 56 := ⟨Tryd.underlying31, ⟨Tryd.t40, .agg #[.int .i64 0, .bool false, .int .u8 0, .int .u8 0, .int .u8 0, .int .u8 0, .int .u8 0, .int .u8 0, .int .u8 0, .int .u8 0, .int .u8 0, .int .u8 0, .int .u8 0, .int .u8 0, .int .u8 0, .int .u8 0, .int .u8 0, .int .u8 0, .slice none 0 0], by kernel_rfl, by kernel_rfl, by kernel_rfl, by kernel_rfl, by kernel_rfl⟩, by decide⟩
theorem en_44 (args : Array Value) (w : World) : (callFunc 44 args).run Tryd.prog w = .ok (.enter 44 args) w := by kernel_rfl
theorem ta_40 : TAgg Tryd.prog 40 19 := ⟨Tryd.isAgg40, Tryd.sizeOf40⟩
theorem en_14 (args : Array Value) (w : World) : (callFunc 14 args).run Tryd.prog w = .ok (.enter 14 args) w := by kernel_rfl
theorem fa_40_2 : FieldAt Tryd.prog 40 2 18 := fun a w => by kernel_rfl
theorem fa_40_0 : FieldAt Tryd.prog 40 0 0 := fun a w => by kernel_rfl
theorem to_3 : TOne Tryd.prog 3 := ⟨Tryd.isAgg3, Tryd.sizeOf3⟩
theorem fa_40_1 : FieldAt Tryd.prog 40 1 1 := fun a w => by kernel_rfl
theorem en_49 (args : Array Value) (w : World) : (callFunc 49 args).run Tryd.prog w = .ok (.enter 49 args) w := by kernel_rfl
theorem tz_37 : TZero Tryd.prog 37 (.agg #[.bool false, .slice none 0 0, .slice none 0 0, .slice none 0 0, .slice none 0 0, .bool false, .slice none 0 0, .bool false]) := Tryd.zeroValue37
theorem fa_35_0 : FieldAt Tryd.prog 35 0 0 := fun a w => by kernel_rfl
theorem tp_35 : TPlaces Tryd.prog 35 #[(0, 1), (1, 1), (2, 1)] #[.bool false, .slice none 0 0, .slice none 0 0] := tplaces Tryd.runUnderlying35 Tryd.zeroValue35 rfl (fun w => by kernel_rfl)
theorem tp_37 : TPlaces Tryd.prog 37 #[(0, 3), (3, 1), (4, 1), (5, 1), (6, 1), (7, 1)] #[.bool false, .slice none 0 0, .slice none 0 0, .slice none 0 0, .slice none 0 0, .bool false, .slice none 0 0, .bool false] := tplaces Tryd.runUnderlying37 Tryd.zeroValue37 rfl (fun w => by kernel_rfl)
theorem ta_37 : TAgg Tryd.prog 37 8 := ⟨Tryd.isAgg37, Tryd.sizeOf37⟩
theorem fa_37_0 : FieldAt Tryd.prog 37 0 0 := fun a w => by kernel_rfl
theorem fa_37_3 : FieldAt Tryd.prog 37 3 5 := fun a w => by kernel_rfl
theorem fa_37_5 : FieldAt Tryd.prog 37 5 7 := fun a w => by kernel_rfl
theorem fa_35_1 : FieldAt Tryd.prog 35 1 1 := fun a w => by kernel_rfl
theorem fa_35_2 : FieldAt Tryd.prog 35 2 2 := fun a w => by kernel_rfl
theorem fa_37_1 : FieldAt Tryd.prog 37 1 3 := fun a w => by kernel_rfl
theorem fa_37_2 : FieldAt Tryd.prog 37 2 4 := fun a w => by kernel_rfl
theorem fa_37_4 : FieldAt Tryd.prog 37 4 6 := fun a w => by kernel_rfl
theorem tz_25 : TZero Tryd.prog 25 (.agg #[.int .u8 0, .int .u8 0, .int .u8 0, .int .u8 0, .int .u8 0, .int .u8 0, .int .u8 0, .int .u8 0, .int .u8 0, .int .u8 0, .int .u8 0, .int .u8 0, .int .u8 0, .int .u8 0, .int .u8 0, .int .u8 0]) := Tryd.zeroValue25
theorem tb_25 : TBuildA Tryd.prog 25 #[.int .u8 0, .int .u8 0, .int .u8 0, .int .u8 0, .int .u8 0, .int .u8 0, .int .u8 0, .int .u8 0, .int .u8 0, .int .u8 0, .int .u8 0, .int .u8 0, .int .u8 0, .int .u8 0, .int .u8 0, .int .u8 0] := tbuildA tr_25 tz_25 rfl
theorem tp_27 : TPlaces Tryd.prog 27 #[(0, 1), (1, 16)] #[.bool false, .int .u8 0, .int .u8 0, .int .u8 0, .int .u8 0, .int .u8 0, .int .u8 0, .int .u8 0, .int .u8 0, .int .u8 0, .int .u8 0, .int .u8 0, .int .u8 0, .int .u8 0, .int .u8 0, .int .u8 0, .int .u8 0] := tplaces Tryd.runUnderlying27 Tryd.zeroValue27 rfl (fun w => by kernel_rfl)
theorem nfm_api_Filter {F : Fz} {h : Heap} (x : T_api_Filter) (s0 : SliceF F h 17 e_api_Addr x.2.1 x.2.2) : (nf_api_Filter).p F h x := s0
theorem nff_api_Filter_1 {F : Fz} {h : Heap} {x : T_api_Filter} (s : (nf_api_Filter).p F h x) : SliceF F h 17 e_api_Addr x.2.1 x.2.2 := s
theorem nfi_api_Filter_1 {h : Heap} {x : T_api_Filter} (s : (nf_api_Filter).q h x) : SliceIs h 17 e_api_Addr x.2.1 x.2.2 := s
theorem nfo_api_Filter {h : Heap} {x : T_api_Filter} (s : (nf_api_Filter).q h x) : ∀ u ∈ e_api_Filter x, u.oneCell' = true := by
  intro u hu; simp [e_api_Filter] at hu; rcases hu with rfl | rfl
  · rfl
  · exact (shp (nfi_api_Filter_1 s)).one
theorem ts_45 : TSlice Tryd.prog 45 24 2 := ⟨Tryd.underlying45, Tryd.sizeOf24⟩
theorem en_42 (args : Array Value) (w : World) : (callFunc 42 args).run Tryd.prog w = .ok (.enter 42 args) w := by kernel_rfl
theorem en_40 (args : Array Value) (w : World) : (callFunc 40 args).run Tryd.prog w = .ok (.enter 40 args) w := by kernel_rfl
theorem en_108 (args : Array Value) (w : World) : (callFunc 108 args).run Tryd.prog w = .ok (.enter 108 args) w := by kernel_rfl
theorem en_90 (args : Array Value) (w : World) : (callFunc 90 args).run Tryd.prog w = .ok (.enter 90 args) w := by kernel_rfl
theorem en_102 (args : Array Value) (w : World) : (callFunc 102 args).run Tryd.prog w = .ok (.enter 102 args) w := by kernel_rfl
theorem tz_9 : TZero Tryd.prog 9 (.string (bs [])) := Tryd.zeroValue9
theorem ts_97 : TSlice Tryd.prog 97 9 1 := ⟨Tryd.underlying97, Tryd.sizeOf9⟩
theorem tl_97 : TLit Tryd.prog 97 9 1 #[.string (bs [])] := tlit ts_97 tz_9 rfl
theorem te_97 : TElem Tryd.prog 97 9 1 16 := ⟨Tryd.underlying97, ⟨Tryd.t9, .string (bs []), by kernel_rfl, by kernel_rfl, by kernel_rfl, by kernel_rfl, by kernel_rfl⟩, by decide⟩
theorem en_103 (args : Array Value) (w : World) : (callFunc 103 args).run Tryd.prog w = .ok (.enter 103 args) w := by kernel_rfl
theorem en_104 (args : Array Value) (w : World) : (callFunc 104 args).run Tryd.prog w = .ok (.enter 104 args) w := by kernel_rfl
theorem en_97 (args : Array Value) (w : World) : (callFunc 97 args).run Tryd.prog w = .ok (.enter 97 args) w := by kernel_rfl
theorem en_89 (args : Array Value) (w : World) : (callFunc 89 args).run Tryd.prog w = .ok (.enter 89 args) w := by kernel_rfl
theorem en_76 (args : Array Value) (w : World) : (callFunc 76 args).run Tryd.prog w = .ok (.enter 76 args) w := by kernel_rfl
theorem en_63 (args : Array Value) (w : World) : (callFunc 63 args).run Tryd.prog w = .ok (.enter 63 args) w := by kernel_rfl
theorem en_67 (args : Array Value) (w : World) : (callFunc 67 args).run Tryd.prog w = .ok (.enter 67 args) w := by kernel_rfl
theorem en_50 (args : Array Value) (w : World) : (callFunc 50 args).run Tryd.prog w = .ok (.enter 50 args) w := by kernel_rfl
theorem tl_45 : TLit Tryd.prog 45 24 2 #[.bool false, .slice none 0 0] := tlit ts_45 tz_24 rfl
theorem en_17 (args : Array Value) (w : World) : (callFunc 17 args).run Tryd.prog w = .ok (.enter 17 args) w := by kernel_rfl
theorem en_51 (args : Array Value) (w : World) : (callFunc 51 args).run Tryd.prog w = .ok (.enter 51 args) w := by kernel_rfl
theorem fa_29_0 : FieldAt Tryd.prog 29 0 0 := fun a w => by kernel_rfl
theorem fa_29_1 : FieldAt Tryd.prog 29 1 2 := fun a w => by kernel_rfl
theorem fa_29_2 : FieldAt Tryd.prog 29 2 4 := fun a w => by kernel_rfl
theorem fa_29_3 : FieldAt Tryd.prog 29 3 21 := fun a w => by kernel_rfl
theorem en_9 (args : Array Value) (w : World) : (callFunc 9 args).run Tryd.prog w = .ok (.enter 9 args) w := by kernel_rfl
theorem en_10 (args : Array Value) (w : World) : (callFunc 10 args).run Tryd.prog w = .ok (.enter 10 args) w := by kernel_rfl
theorem en_12 (args : Array Value) (w : World) : (callFunc 12 args).run Tryd.prog w = .ok (.enter 12 args) w := by kernel_rfl
theorem en_11 (args : Array Value) (w : World) : (callFunc 11 args).run Tryd.prog w = .ok (.enter 11 args) w := by kernel_rfl
theorem tz_35 : TZero Tryd.prog 35 (.agg #[.bool false, .slice none 0 0, .slice none 0 0]) := Tryd.zeroValue35
theorem ta_35 : TAgg Tryd.prog 35 3 := ⟨Tryd.isAgg35, Tryd.sizeOf35⟩
theorem en_13 (args : Array Value) (w : World) : (callFunc 13 args).run Tryd.prog w = .ok (.enter 13 args) w := by kernel_rfl
theorem en_16 (args : Array Value) (w : World) : (callFunc 16 args).run Tryd.prog w = .ok (.enter 16 args) w := by kernel_rfl
theorem en_15 (args : Array Value) (w : World) : (callFunc 15 args).run Tryd.prog w = .ok (.enter 15 args) w := by kernel_rfl
def law08_Addrs_j1 (l : List T_api_Addr) (Q : (List T_api_Addr) → Prop) (out_1 : List T_api_Addr) (i_1 : Int) (K_1 : (List T_api_Addr) → Int → Prop) (b_2 : Bool) : Prop :=
  (b_2 = true → ((0 : Int) ≤ i_1 ∧ i_1 < (l.length : Int)) ∧ (((out_1.length + ([(gi l i_1)] : List T_api_Addr).length) * 17 ≤ 140737488355328) ∧ ((I64 (i_1 + 1)) ∧ (K_1 (out_1 ++ ([(gi l i_1)] : List T_api_Addr)) (i_1 + 1))))) ∧ (b_2 = false → Q out_1)
def law08_Addrs_l1 (l : List T_api_Addr) (most : Int) (Q : (List T_api_Addr) → Prop) (K_1 : (List T_api_Addr) → Int → Prop) (out_1 : List T_api_Addr) (i_1 : Int) : Prop :=
  (i_1 < (l.length : Int) → law08_Addrs_j1 l Q out_1 i_1 K_1 (decide (i_1 < most))) ∧ (¬ (i_1 < (l.length : Int)) → law08_Addrs_j1 l Q out_1 i_1 K_1 false)
def law08_Addrs_W (l : List T_api_Addr) (most : Int) (Q : (List T_api_Addr) → Prop) : Prop :=
  loopW (fun (K_1 : (List T_api_Addr × Int) → Prop) (s : List T_api_Addr × Int) => law08_Addrs_l1 l most Q (fun out_1 i_1 => K_1 (out_1, i_1)) s.1 s.2) ([], 0)
set_option maxHeartbeats 40000000 in
set_option maxRecDepth 100000 in
theorem law08_Addrs_walk {F : Fz} {fr : List Ow} {h0 : Heap} (l : List T_api_Addr) (most : Int) (vl : Value) (hS : St F (fr) h0) (hL_l : SliceF F h0 17 e_api_Addr vl l) {Q : (List T_api_Addr) → Prop} (hM : law08_Addrs_W l most Q) :
    HC Tryd.prog 25 #[vl, .int .i64 most] h0 fun u h' => ∃ (F' : Fz) (r_1 : List T_api_Addr) (vr_1 : Value), u = vr_1 ∧ Kp F h0 F' h' ∧ St F' (Ow.own 27 17 e_api_Addr vr_1 r_1 :: fr) h' ∧ (SliceF F' h' 17 e_api_Addr vl l) ∧ Q r_1 := by
  unfold law08_Addrs_W at hM
  have hK := Kp.refl F h0
  refine HC.of_HW (n := 27) Tryd.func25 rfl rfl (Nat.le_of_ble_eq_true rfl) ?_
  refine HW.seq ?_
  refine HW.region ?_
  refine HO.val (v := .slice none 0 0) (want_none) rfl (q_assign rfl) ?_
  refine HO.nil (thenQ_normal (?_))
  refine HW.seq ?_
  refine HW.region ?_
  refine HO.eff (want_none) rfl (st_litEmpty (α := T_api_Addr) e_api_Addr hS tl_22) ?_
  rintro _ h_1 ⟨b_1, rfl, hS, hk⟩
  replace hK := hK.trans hk
  replace hL_l := hL_l.kp hk
  refine HO.val (v := .slice (some ⟨b_1, 0, none⟩) 0 0) (want_none) rfl (q_assign rfl) ?_
  refine HO.nil (thenQ_normal (?_))
  refine HW.seq ?_
  refine HW.seq ?_
  refine HW.region ?_
  refine HO.val (v := .int .i64 0) (want_none) rfl (q_assign rfl) ?_
  refine HO.nil (thenQ_normal (?_))
  refine HW.block ?_
  obtain ⟨I_1, m_1, hI_1, hR_1⟩ := hM
  refine HW.loop (S := List T_api_Addr × Int) (fun s f h => match s with | (out_1, i_1) => ∃ (F' : Fz) (vout_1 : Value), f 0 = vl ∧ f 1 = .int .i64 most ∧ f 4 = .slice none 0 0 ∧ f 5 = vout_1 ∧ f 6 = .int .i64 i_1 ∧ Kp F h0 F' h ∧ St F' (Ow.own 27 17 e_api_Addr vout_1 out_1 :: fr) h ∧ (SliceF F' h 17 e_api_Addr vl l) ∧ I_1 (out_1, i_1)) m_1 ([], 0) ⟨F, .slice (some ⟨b_1, 0, none⟩) 0 0, rfl, rfl, rfl, rfl, rfl, hK, hS, hL_l, hI_1⟩ ?_
  rintro ⟨out_1, i_1⟩ f_1 h_2 ⟨F_1, vout_1, e0, e1, e4, e5, e6, hK, hS, hL_l, hI0⟩
  obtain ⟨K_1, hKe_1⟩ : ∃ K : (List T_api_Addr) → Int → Prop, K = fun out_1' i_1' => I_1 (out_1', i_1') ∧ m_1 (out_1', i_1') < m_1 (out_1, i_1) := ⟨_, rfl⟩
  have hM : law08_Addrs_l1 l most Q K_1 out_1 i_1 := by rw [hKe_1]; exact hR_1 (out_1, i_1) hI0
  unfold law08_Addrs_l1 at hM
  refine HW.fr [(0, vl), (1, .int .i64 most), (4, .slice none 0 0), (5, vout_1), (6, .int .i64 i_1)] ⟨e0, e1, e4, e5, e6, trivial⟩ ?_
  refine HW.seq ?_
  refine HW.seq_mid (fun f h => ∃ (F' : Fz) (b_2 : Bool), f 0 = vl ∧ f 1 = .int .i64 most ∧ f 4 = .slice none 0 0 ∧ f 5 = vout_1 ∧ f 6 = .int .i64 i_1 ∧ f 16 = .bool b_2 ∧ Kp F h0 F' h ∧ St F' (Ow.own 27 17 e_api_Addr vout_1 out_1 :: fr) h ∧ (SliceF F' h 17 e_api_Addr vl l) ∧ law08_Addrs_j1 l Q out_1 i_1 K_1 b_2) ?_ ?_
  · refine HW.region ?_
    refine HO.val (v := .int .i64 i_1) (want_none) rfl (q_move rfl) ?_
    refine HO.val (v := vl) (want_none) rfl (q_move rfl) ?_
    refine HO.val (v := .int .i64 (l.length : Int)) (want_none) rfl (q_len ts_22 (shp hL_l.is) rfl rfl) ?_
    refine HO.val (v := .bool (decide (i_1 < (l.length : Int)))) (want_none) rfl (q_lss rfl rfl) ?_
    refine HO.val (v := .bool (decide (i_1 < (l.length : Int)))) (want_none) rfl (q_move rfl) ?_
    rcases Bool.eq_false_or_eq_true (decide (i_1 < (l.length : Int))) with c_1 | c_1
    · replace hM := hM.1 (of_decide_eq_true c_1)
      refine HO.val (v := .int .i64 i_1) (want_by rfl rfl c_1) rfl (q_move rfl) ?_
      refine HO.val (v := .int .i64 most) (want_by rfl rfl c_1) rfl (q_move rfl) ?_
      refine HO.val (v := .bool (decide (i_1 < most))) (want_by rfl rfl c_1) rfl (q_lss rfl rfl) ?_
      refine HO.val (v := .bool (decide (i_1 < most))) (want_none) rfl (q_pickK true rfl c_1 rfl) ?_
      refine HO.nil (thenQ_normal (?_))
      exact ⟨F_1, decide (i_1 < most), rfl, rfl, rfl, rfl, rfl, rfl, hK, hS, hL_l, hM⟩
    · replace hM := hM.2 (of_decide_eq_false c_1)
      refine HO.past (past_by rfl rfl c_1) rfl ?_
      refine HO.past (past_by rfl rfl c_1) rfl ?_
      refine HO.past (past_by rfl rfl c_1) rfl ?_
      refine HO.val (v := .bool false) (want_none) rfl (q_pickK false rfl c_1 rfl) ?_
      refine HO.nil (thenQ_normal (?_))
      exact ⟨F_1, false, rfl, rfl, rfl, rfl, rfl, rfl, hK, hS, hL_l, hM⟩
  · rintro f_2 h_3 ⟨F_2, b_2, e0, e1, e4, e5, e6, e16, hK, hS, hL_l, hM⟩
    unfold law08_Addrs_j1 at hM
    refine HW.fr [(0, vl), (1, .int .i64 most), (4, .slice none 0 0), (5, vout_1), (6, .int .i64 i_1), (16, .bool b_2)] ⟨e0, e1, e4, e5, e6, e16, trivial⟩ ?_
    refine HW.cond b_2 rfl (fun c_2 => ?_) (fun c_2 => ?_)
    · replace hM := hM.1 c_2
      refine HW.skip (thenQ_normal (?_))
      refine HW.seq ?_
      refine HW.block ?_
      refine HW.region ?_
      refine HO.val (v := vout_1) (want_none) rfl (q_move rfl) ?_
      refine HO.val (v := vl) (want_none) rfl (q_move rfl) ?_
      refine HO.val (v := .int .i64 i_1) (want_none) rfl (q_move rfl) ?_
      obtain ⟨ho_1, hM⟩ := hM
      refine HO.val (v := elemPtr 17 vl (i_1).toNat) (want_none) rfl (q_idx ts_22 hL_l.is rfl rfl ho_1) ?_
      refine HO.val (v := .agg (e_api_Addr (gi l i_1)).toArray) (want_none) rfl (q_ldElemAgg (cs := (e_api_Addr (gi l i_1))) ta_27 hL_l.is rfl ho_1 rfl) ?_
      refine HO.eff (want_none) rfl (st_lit (enc := e_api_Addr) (cells := #[.bool ((gi l i_1).1), .int .u8 (b8 ((gi l i_1).2) 0), .int .u8 (b8 ((gi l i_1).2) 1), .int .u8 (b8 ((gi l i_1).2) 2), .int .u8 (b8 ((gi l i_1).2) 3), .int .u8 (b8 ((gi l i_1).2) 4), .int .u8 (b8 ((gi l i_1).2) 5), .int .u8 (b8 ((gi l i_1).2) 6), .int .u8 (b8 ((gi l i_1).2) 7), .int .u8 (b8 ((gi l i_1).2) 8), .int .u8 (b8 ((gi l i_1).2) 9), .int .u8 (b8 ((gi l i_1).2) 10), .int .u8 (b8 ((gi l i_1).2) 11), .int .u8 (b8 ((gi l i_1).2) 12), .int .u8 (b8 ((gi l i_1).2) 13), .int .u8 (b8 ((gi l i_1).2) 14), .int .u8 (b8 ((gi l i_1).2) 15)]) #[.bool false, .int .u8 0, .int .u8 0, .int .u8 0, .int .u8 0, .int .u8 0, .int .u8 0, .int .u8 0, .int .u8 0, .int .u8 0, .int .u8 0, .int .u8 0, .int .u8 0, .int .u8 0, .int .u8 0, .int .u8 0, .int .u8 0] ([(gi l i_1)] : List T_api_Addr) hS tl_22 (by decide) (by decide) (by kernel_rfl) (by kernel_rfl) rfl (by intro x hx; rfl) rfl) ?_
      rintro _ h_4 ⟨b_3, rfl, hS, hk⟩
      replace hK := hK.trans hk
      replace hL_l := hL_l.kp hk
      obtain ⟨ho_2, hM⟩ := hM
      refine HO.eff (want_none) rfl (st_append te_22 hS (i := 1) rfl (hS.own 0 rfl).slice rfl rfl rfl (by intro a _ u hu; simp [e_api_Addr, encI, encN, encB, encT] at hu; rcases hu with rfl | rfl | rfl | rfl | rfl | rfl | rfl | rfl | rfl | rfl | rfl | rfl | rfl | rfl | rfl | rfl | rfl <;> rfl) ho_2 (by omega)) ?_
      rintro v_1 h_5 ⟨hS, hk⟩
      replace hS : St F_2 (Ow.own 27 17 e_api_Addr (.slice (some ⟨b_3, 0, none⟩) 1 1) ([(gi l i_1)] : List T_api_Addr) :: Ow.own 27 17 e_api_Addr v_1 (out_1 ++ ([(gi l i_1)] : List T_api_Addr)) :: fr) h_5 := hS
      replace hK := hK.trans hk
      replace hL_l := hL_l.kp hk
      refine HO.val (v := v_1) (want_none) rfl (q_assign rfl) ?_
      refine HO.nil (blockQ_normal (thenQ_normal (?_)))
      refine HW.region ?_
      refine HO.val (v := .int .i64 i_1) (want_none) rfl (q_move rfl) ?_
      obtain ⟨ho_3, hM⟩ := hM
      refine HO.val (v := .int .i64 (i_1 + 1)) (want_none) rfl (q_addN _ rfl rfl rfl ho_3.1 ho_3.2) ?_
      refine HO.val (v := .int .i64 (i_1 + 1)) (want_none) rfl (q_assign rfl) ?_
      refine HO.nil (thenQ_normal (?_))
      replace hS : St F_2 (Ow.own 27 17 e_api_Addr v_1 (out_1 ++ ([(gi l i_1)] : List T_api_Addr)) :: fr) h_5 := hS.perm2 [1] 2 rfl rfl
      rw [hKe_1] at hM
      exact ⟨(out_1 ++ ([(gi l i_1)] : List T_api_Addr), i_1 + 1), ⟨F_2, v_1, rfl, rfl, rfl, rfl, rfl, hK, hS, hL_l, hM.1⟩, hM.2⟩
    · replace hM := hM.2 c_2
      refine HW.exit (thenQ_exit (thenQ_exit (blockQ_exit (thenQ_normal (?_)))))
      refine HW.seq ?_
      refine HW.region ?_
      refine HO.val (v := vout_1) (want_none) rfl (q_move rfl) ?_
      refine HO.val (v := vout_1) (want_none) rfl (q_assign rfl) ?_
      refine HO.nil (thenQ_normal (?_))
      refine HW.ret (?_)
      refine ⟨.inr rfl, vout_1, res1 rfl (rt rfl), ?_⟩
      exact ⟨F_2, out_1, vout_1, rfl, hK, hS, hL_l, hM⟩

def ref11_Has_l1 (l : List T_api_Addr) (a : T_api_Addr) (Q : Bool → Prop) (K_1 : Int → Prop) (i_1 : Int) : Prop :=
  (i_1 < (l.length : Int) → ((0 : Int) ≤ i_1 ∧ i_1 < (l.length : Int)) ∧ ((((gi l i_1) : T_api_Addr) = a → Q true) ∧ (¬ (((gi l i_1) : T_api_Addr) = a) → (I64 (i_1 + 1)) ∧ (K_1 (i_1 + 1))))) ∧ (¬ (i_1 < (l.length : Int)) → Q false)
def ref11_Has_W (l : List T_api_Addr) (a : T_api_Addr) (Q : Bool → Prop) : Prop :=
  loopW (fun (K_1 : Int → Prop) (s : Int) => ref11_Has_l1 l a Q K_1 s) 0
set_option maxHeartbeats 40000000 in
set_option maxRecDepth 100000 in
theorem ref11_Has_walk {F : Fz} {fr : List Ow} {h0 : Heap} (l : List T_api_Addr) (a : T_api_Addr) (vl : Value) (hS : St F (fr) h0) (hL_l : SliceF F h0 17 e_api_Addr vl l) {Q : Bool → Prop} (hM : ref11_Has_W l a Q) :
    HC Tryd.prog 38 #[vl, .agg (e_api_Addr a).toArray] h0 fun u h' => ∃ (F' : Fz) (r_1 : Bool), u = .bool r_1 ∧ Kp F h0 F' h' ∧ St F' (fr) h' ∧ (SliceF F' h' 17 e_api_Addr vl l) ∧ Q r_1 := by
  unfold ref11_Has_W at hM
  have hK := Kp.refl F h0
  refine HC.of_HW (n := 18) Tryd.func38 rfl rfl (Nat.le_of_ble_eq_true rfl) ?_
  refine HW.seq ?_
  refine HW.region ?_
  refine HO.eff (want_none) rfl (st_box (c := (e_api_Addr a).toArray) (k' := 17) hS rfl rfl) ?_
  rintro _ h_1 ⟨b_1, rfl, hS, hk⟩
  replace hK := hK.trans hk
  replace hL_l := hL_l.kp hk
  refine HO.val (v := .bool false) (want_none) rfl (q_assign rfl) ?_
  refine HO.nil (thenQ_normal (?_))
  refine HW.seq ?_
  refine HW.seq ?_
  refine HW.region ?_
  refine HO.val (v := .int .i64 0) (want_none) rfl (q_assign rfl) ?_
  refine HO.nil (thenQ_normal (?_))
  refine HW.block ?_
  obtain ⟨I_1, m_1, hI_1, hR_1⟩ := hM
  refine HW.loop (S := Int) (fun i_1 f h => ∃ (F' : Fz), f 0 = vl ∧ f 3 = .pointer (some ⟨b_1, 0, none⟩) ∧ f 4 = .bool false ∧ f 5 = .int .i64 i_1 ∧ Kp F h0 F' h ∧ St F' (Ow.box b_1 27 (e_api_Addr a).toArray :: fr) h ∧ (SliceF F' h 17 e_api_Addr vl l) ∧ I_1 i_1) m_1 0 ⟨F, rfl, rfl, rfl, rfl, hK, hS, hL_l, hI_1⟩ ?_
  rintro i_1 f_1 h_2 ⟨F_1, e0, e3, e4, e5, hK, hS, hL_l, hI0⟩
  obtain ⟨K_1, hKe_1⟩ : ∃ K : Int → Prop, K = fun i_1' => I_1 i_1' ∧ m_1 i_1' < m_1 i_1 := ⟨_, rfl⟩
  have hM : ref11_Has_l1 l a Q K_1 i_1 := by rw [hKe_1]; exact hR_1 i_1 hI0
  unfold ref11_Has_l1 at hM
  refine HW.fr [(0, vl), (3, .pointer (some ⟨b_1, 0, none⟩)), (4, .bool false), (5, .int .i64 i_1)] ⟨e0, e3, e4, e5, trivial⟩ ?_
  refine HW.seq ?_
  refine HW.seq ?_
  refine HW.region ?_
  refine HO.val (v := .int .i64 i_1) (want_none) rfl (q_move rfl) ?_
  refine HO.val (v := vl) (want_none) rfl (q_move rfl) ?_
  refine HO.val (v := .int .i64 (l.length : Int)) (want_none) rfl (q_len ts_22 (shp hL_l.is) rfl rfl) ?_
  refine HO.val (v := .bool (decide (i_1 < (l.length : Int)))) (want_none) rfl (q_lss rfl rfl) ?_
  refine HO.nil (thenQ_normal (?_))
  refine HW.cond (decide (i_1 < (l.length : Int))) rfl (fun c_1 => ?_) (fun c_1 => ?_)
  · replace hM := hM.1 (of_decide_eq_true c_1)
    refine HW.skip (thenQ_normal (?_))
    refine HW.seq ?_
    refine HW.block ?_
    refine HW.seq ?_
    refine HW.regionA 6 mixed (fun h => (SliceIs h 17 e_api_Addr vl l) ∧ (Blk h b_1 (.cells (e_api_Addr a).toArray 27 (0, 0)))) [] (by kernel_rfl) ?_
    refine HA.val (k := 0) (v := vl) rfl rfl (by kernel_rfl) (by kernel_rfl) (want_none) rfl (fun _ ⟨hL_l, c302⟩ => q_move rfl) ?_
    refine HA.val (k := 1) (v := .int .i64 i_1) rfl rfl (by kernel_rfl) (by kernel_rfl) (want_none) rfl (fun _ ⟨hL_l, c302⟩ => q_move rfl) ?_
    obtain ⟨ho_1, hM⟩ := hM
    refine HA.val (k := 2) (v := elemPtr 17 vl (i_1).toNat) rfl rfl (by kernel_rfl) (by kernel_rfl) (want_none) rfl (fun _ ⟨hL_l, c302⟩ => q_idx ts_22 hL_l rfl rfl ho_1) ?_
    refine HA.val (k := 3) (v := .agg (e_api_Addr (gi l i_1)).toArray) rfl rfl (by kernel_rfl) (by kernel_rfl) (want_none) rfl (fun _ ⟨hL_l, c302⟩ => q_ldElemAgg (cs := (e_api_Addr (gi l i_1))) ta_27 hL_l rfl ho_1 rfl) ?_
    refine HA.val (k := 4) (v := .agg (e_api_Addr a).toArray) rfl rfl (by kernel_rfl) (by kernel_rfl) (want_none) rfl (fun _ ⟨hL_l, c302⟩ => q_loadAgg (cs := (e_api_Addr a)) ta_27 rfl rfl (Blk.cells (k := 17) c302 rfl)) ?_
    refine HA.val (k := 5) (v := .bool (decide (((gi l i_1) : T_api_Addr) = a))) rfl rfl (by kernel_rfl) (by kernel_rfl) (want_none) rfl (fun _ ⟨hL_l, c302⟩ => q_eqlAgg (a := (gi l i_1)) (b := a) (fun a b w => teq_27 9997 a b w) (by kernel_rfl) rfl rfl rfl rfl) ?_
    refine HA.nil ⟨⟨hL_l.is, (hS.box 0 rfl)⟩, (Go.Wk.at_nil _ _)⟩ (by kernel_rfl) (thenQ_normal (?_))
    refine HW.cond (decide (((gi l i_1) : T_api_Addr) = a)) rfl (fun c_2 => ?_) (fun c_2 => ?_)
    · replace hM := hM.1 (of_decide_eq_true c_2)
      refine HW.seq ?_
      refine HW.region ?_
      refine HO.val (v := .bool true) (want_none) rfl (q_assign rfl) ?_
      refine HO.nil (thenQ_normal (?_))
      refine HW.ret (blockQ_ret (thenQ_ret (thenQ_ret (blockQ_ret (thenQ_ret (?_))))))
      refine ⟨.inr rfl, .bool true, res1 rfl (rt rfl), ?_⟩
      replace hS : St F_1 (fr) h_2 := hS.perm2 [] 1 rfl rfl
      exact ⟨F_1, true, rfl, hK, hS, hL_l, hM⟩
    · replace hM := hM.2 (of_decide_eq_false c_2)
      refine HW.skip (blockQ_normal (thenQ_normal (?_)))
      refine HW.region ?_
      refine HO.val (v := .int .i64 i_1) (want_none) rfl (q_move rfl) ?_
      obtain ⟨ho_2, hM⟩ := hM
      refine HO.val (v := .int .i64 (i_1 + 1)) (want_none) rfl (q_addN _ rfl rfl rfl ho_2.1 ho_2.2) ?_
      refine HO.val (v := .int .i64 (i_1 + 1)) (want_none) rfl (q_assign rfl) ?_
      refine HO.nil (thenQ_normal (?_))
      rw [hKe_1] at hM
      exact ⟨i_1 + 1, ⟨F_1, rfl, rfl, rfl, rfl, hK, hS, hL_l, hM.1⟩, hM.2⟩
  · replace hM := hM.2 (of_decide_eq_false c_1)
    refine HW.exit (thenQ_exit (thenQ_exit (blockQ_exit (thenQ_normal (?_)))))
    refine HW.seq ?_
    refine HW.region ?_
    refine HO.val (v := .bool false) (want_none) rfl (q_assign rfl) ?_
    refine HO.nil (thenQ_normal (?_))
    refine HW.ret (?_)
    refine ⟨.inr rfl, .bool false, res1 rfl (rt rfl), ?_⟩
    replace hS : St F_1 (fr) h_2 := hS.perm2 [] 1 rfl rfl
    exact ⟨F_1, false, rfl, hK, hS, hL_l, hM⟩

def ref03_Good_l1 (a : T_api_Addr) (Q : Bool → Prop) (K_1 : Int → Prop) (i_1 : Int) : Prop :=
  (i_1 < 16 → ((!a.1) = true → ((0 : Int) ≤ i_1 ∧ i_1 < 16) ∧ ((¬ ((b8 a.2 i_1) = 0) → Q false) ∧ ((b8 a.2 i_1) = 0 → (I64 (i_1 + 1)) ∧ (K_1 (i_1 + 1))))) ∧ ((!a.1) = false → (I64 (i_1 + 1)) ∧ (K_1 (i_1 + 1)))) ∧ (¬ (i_1 < 16) → Q true)
def ref03_Good_W (a : T_api_Addr) (Q : Bool → Prop) : Prop :=
  loopW (fun (K_1 : Int → Prop) (s : Int) => ref03_Good_l1 a Q K_1 s) 4
set_option maxHeartbeats 40000000 in
set_option maxRecDepth 100000 in
theorem ref03_Good_walk {F : Fz} {fr : List Ow} {h0 : Heap} (a : T_api_Addr) (hS : St F (fr) h0)  {Q : Bool → Prop} (hM : ref03_Good_W a Q) :
    HC Tryd.prog 68 #[.agg (e_api_Addr a).toArray] h0 fun u h' => ∃ (F' : Fz) (r_1 : Bool), u = .bool r_1 ∧ Kp F h0 F' h' ∧ St F' (fr) h' ∧ Q r_1 := by
  unfold ref03_Good_W at hM
  have hK := Kp.refl F h0
  refine HC.of_HW (n := 18) Tryd.func68 rfl rfl (Nat.le_of_ble_eq_true rfl) ?_
  refine HW.seq ?_
  refine HW.region ?_
  refine HO.eff (want_none) rfl (st_box (c := (e_api_Addr a).toArray) (k' := 17) hS rfl rfl) ?_
  rintro _ h_1 ⟨b_1, rfl, hS, hk⟩
  replace hK := hK.trans hk
  refine HO.val (v := .bool false) (want_none) rfl (q_assign rfl) ?_
  refine HO.nil (thenQ_normal (?_))
  refine HW.seq ?_
  refine HW.seq ?_
  refine HW.region ?_
  refine HO.val (v := .int .i64 4) (want_none) rfl (q_assign rfl) ?_
  refine HO.nil (thenQ_normal (?_))
  refine HW.block ?_
  obtain ⟨I_1, m_1, hI_1, hR_1⟩ := hM
  refine HW.loop (S := Int) (fun i_1 f h => ∃ (F' : Fz), f 1 = .pointer (some ⟨b_1, 0, none⟩) ∧ f 2 = .bool false ∧ f 3 = .int .i64 i_1 ∧ Kp F h0 F' h ∧ St F' (Ow.box b_1 27 (e_api_Addr a).toArray :: fr) h ∧ I_1 i_1) m_1 4 ⟨F, rfl, rfl, rfl, hK, hS, hI_1⟩ ?_
  rintro i_1 f_1 h_2 ⟨F_1, e1, e2, e3, hK, hS, hI0⟩
  obtain ⟨K_1, hKe_1⟩ : ∃ K : Int → Prop, K = fun i_1' => I_1 i_1' ∧ m_1 i_1' < m_1 i_1 := ⟨_, rfl⟩
  have hM : ref03_Good_l1 a Q K_1 i_1 := by rw [hKe_1]; exact hR_1 i_1 hI0
  unfold ref03_Good_l1 at hM
  refine HW.fr [(1, .pointer (some ⟨b_1, 0, none⟩)), (2, .bool false), (3, .int .i64 i_1)] ⟨e1, e2, e3, trivial⟩ ?_
  refine HW.seq ?_
  refine HW.seq ?_
  refine HW.region ?_
  refine HO.val (v := .int .i64 i_1) (want_none) rfl (q_move rfl) ?_
  refine HO.val (v := .bool (decide (i_1 < 16))) (want_none) rfl (q_lss rfl rfl) ?_
  refine HO.nil (thenQ_normal (?_))
  refine HW.cond (decide (i_1 < 16)) rfl (fun c_1 => ?_) (fun c_1 => ?_)
  · replace hM := hM.1 (of_decide_eq_true c_1)
    refine HW.skip (thenQ_normal (?_))
    refine HW.seq ?_
    refine HW.block ?_
    refine HW.seq ?_
    refine HW.region ?_
    refine HO.val (v := .pointer (some ⟨b_1, 0, none⟩)) (want_none) rfl (q_fieldAddr fa_27_0 rfl rfl) ?_
    refine HO.val (v := .bool a.1) (want_none) rfl (q_load to_4 rfl (Blk.cell (hS.box 0 rfl) rfl)) ?_
    refine HO.val (v := .bool (!a.1)) (want_none) rfl (q_not rfl) ?_
    refine HO.val (v := .bool (!a.1)) (want_none) rfl (q_move rfl) ?_
    rcases Bool.eq_false_or_eq_true (!a.1) with c_2 | c_2
    · replace hM := hM.1 c_2
      refine HO.val (v := .int .i64 i_1) (want_by rfl rfl c_2) rfl (q_move rfl) ?_
      refine HO.val (v := .pointer (some ⟨b_1, 1, none⟩)) (want_by rfl rfl c_2) rfl (q_fieldAddr fa_27_1 rfl rfl) ?_
      obtain ⟨ho_1, hM⟩ := hM
      refine HO.val (v := .pointer (some ⟨b_1, 1 + (i_1).toNat, none⟩)) (want_by rfl rfl c_2) rfl (q_idxA (o := 1) (t := i_1) tr_25 rfl rfl ho_1) ?_
      refine HO.val (v := .int .u8 (b8 a.2 i_1)) (want_by rfl rfl c_2) rfl (q_ldArr (o := 1) (t := i_1) (X := a.2) to_5 rfl (hS.box 0 rfl) rfl ho_1) ?_
      refine HO.val (v := .bool (!decide ((b8 a.2 i_1) = 0))) (want_by rfl rfl c_2) rfl (q_neq rfl rfl) ?_
      refine HO.val (v := .bool (!decide ((b8 a.2 i_1) = 0))) (want_none) rfl (q_pickK true rfl c_2 rfl) ?_
      refine HO.nil (thenQ_normal (?_))
      refine HW.cond (!decide ((b8 a.2 i_1) = 0)) rfl (fun c_3 => ?_) (fun c_3 => ?_)
      · replace hM := hM.1 (nd_true c_3)
        refine HW.seq ?_
        refine HW.region ?_
        refine HO.val (v := .bool false) (want_none) rfl (q_assign rfl) ?_
        refine HO.nil (thenQ_normal (?_))
        refine HW.ret (blockQ_ret (thenQ_ret (thenQ_ret (blockQ_ret (thenQ_ret (?_))))))
        refine ⟨.inr rfl, .bool false, res1 rfl (rt rfl), ?_⟩
        replace hS : St F_1 (fr) h_2 := hS.perm2 [] 1 rfl rfl
        exact ⟨F_1, false, rfl, hK, hS, hM⟩
      · replace hM := hM.2 (nd_false c_3)
        refine HW.skip (blockQ_normal (thenQ_normal (?_)))
        refine HW.region ?_
        refine HO.val (v := .int .i64 i_1) (want_none) rfl (q_move rfl) ?_
        obtain ⟨ho_2, hM⟩ := hM
        refine HO.val (v := .int .i64 (i_1 + 1)) (want_none) rfl (q_addN _ rfl rfl rfl ho_2.1 ho_2.2) ?_
        refine HO.val (v := .int .i64 (i_1 + 1)) (want_none) rfl (q_assign rfl) ?_
        refine HO.nil (thenQ_normal (?_))
        rw [hKe_1] at hM
        exact ⟨i_1 + 1, ⟨F_1, rfl, rfl, rfl, hK, hS, hM.1⟩, hM.2⟩
    · replace hM := hM.2 c_2
      refine HO.past (past_by rfl rfl c_2) rfl ?_
      refine HO.past (past_by rfl rfl c_2) rfl ?_
      refine HO.past (past_by rfl rfl c_2) rfl ?_
      refine HO.past (past_by rfl rfl c_2) rfl ?_
      refine HO.past (past_by rfl rfl c_2) rfl ?_
      refine HO.val (v := .bool false) (want_none) rfl (q_pickK false rfl c_2 rfl) ?_
      refine HO.nil (thenQ_normal (?_))
      refine HW.condF rfl ?_
      refine HW.skip (blockQ_normal (thenQ_normal (?_)))
      refine HW.region ?_
      refine HO.val (v := .int .i64 i_1) (want_none) rfl (q_move rfl) ?_
      obtain ⟨ho_3, hM⟩ := hM
      refine HO.val (v := .int .i64 (i_1 + 1)) (want_none) rfl (q_addN _ rfl rfl rfl ho_3.1 ho_3.2) ?_
      refine HO.val (v := .int .i64 (i_1 + 1)) (want_none) rfl (q_assign rfl) ?_
      refine HO.nil (thenQ_normal (?_))
      rw [hKe_1] at hM
      exact ⟨i_1 + 1, ⟨F_1, rfl, rfl, rfl, hK, hS, hM.1⟩, hM.2⟩
  · replace hM := hM.2 (of_decide_eq_false c_1)
    refine HW.exit (thenQ_exit (thenQ_exit (blockQ_exit (thenQ_normal (?_)))))
    refine HW.seq ?_
    refine HW.region ?_
    refine HO.val (v := .bool true) (want_none) rfl (q_assign rfl) ?_
    refine HO.nil (thenQ_normal (?_))
    refine HW.ret (?_)
    refine ⟨.inr rfl, .bool true, res1 rfl (rt rfl), ?_⟩
    replace hS : St F_1 (fr) h_2 := hS.perm2 [] 1 rfl rfl
    exact ⟨F_1, true, rfl, hK, hS, hM⟩

def ref03_Cmp_j1 (a : T_api_Addr) (b : T_api_Addr) (Q : Int → Prop) (i_1 : Int) (K_1 : Int → Prop) : Prop :=
  ((0 : Int) ≤ i_1 ∧ i_1 < 16) ∧ (((b8 a.2 i_1) < (b8 b.2 i_1) → Q (-1)) ∧ (¬ ((b8 a.2 i_1) < (b8 b.2 i_1)) → ((b8 b.2 i_1) < (b8 a.2 i_1) → Q 1) ∧ (¬ ((b8 b.2 i_1) < (b8 a.2 i_1)) → (I64 (i_1 + 1)) ∧ (K_1 (i_1 + 1)))))
def ref03_Cmp_l1 (a : T_api_Addr) (b : T_api_Addr) (Q : Int → Prop) (K_1 : Int → Prop) (i_1 : Int) : Prop :=
  (i_1 < 16 → (a.1 = true → ref03_Cmp_j1 a b Q i_1 K_1) ∧ (a.1 = false → (i_1 < 4 → ref03_Cmp_j1 a b Q i_1 K_1) ∧ (¬ (i_1 < 4) → Q 0))) ∧ (¬ (i_1 < 16) → Q 0)
def ref03_Cmp_W (a : T_api_Addr) (b : T_api_Addr) (Q : Int → Prop) : Prop :=
  ((!(a.1 == b.1)) = true → (b.1 = true → Q (-1)) ∧ (b.1 = false → Q 1)) ∧ ((!(a.1 == b.1)) = false → loopW (fun (K_1 : Int → Prop) (s : Int) => ref03_Cmp_l1 a b Q K_1 s) 0)
set_option maxHeartbeats 40000000 in
set_option maxRecDepth 100000 in
theorem ref03_Cmp_walk {F : Fz} {fr : List Ow} {h0 : Heap} (a : T_api_Addr) (b : T_api_Addr) (hS : St F (fr) h0)  {Q : Int → Prop} (hM : ref03_Cmp_W a b Q) :
    HC Tryd.prog 69 #[.agg (e_api_Addr a).toArray, .agg (e_api_Addr b).toArray] h0 fun u h' => ∃ (F' : Fz) (r_1 : Int), u = .int .i64 r_1 ∧ Kp F h0 F' h' ∧ St F' (fr) h' ∧ Q r_1 := by
  unfold ref03_Cmp_W at hM
  have hK := Kp.refl F h0
  refine HC.of_HW (n := 43) Tryd.func69 rfl rfl (Nat.le_of_ble_eq_true rfl) ?_
  refine HW.seq ?_
  refine HW.region ?_
  refine HO.eff (want_none) rfl (st_box (c := (e_api_Addr a).toArray) (k' := 17) hS rfl rfl) ?_
  rintro _ h_1 ⟨b_1, rfl, hS, hk⟩
  replace hK := hK.trans hk
  refine HO.eff (want_none) rfl (st_box (c := (e_api_Addr b).toArray) (k' := 17) hS rfl rfl) ?_
  rintro _ h_2 ⟨b_2, rfl, hS, hk⟩
  replace hK := hK.trans hk
  refine HO.val (v := .int .i64 0) (want_none) rfl (q_assign rfl) ?_
  refine HO.nil (thenQ_normal (?_))
  refine HW.seq ?_
  refine HW.seq ?_
  refine HW.region ?_
  refine HO.val (v := .pointer (some ⟨b_1, 0, none⟩)) (want_none) rfl (q_fieldAddr fa_27_0 rfl rfl) ?_
  refine HO.val (v := .bool a.1) (want_none) rfl (q_load to_4 rfl (Blk.cell (hS.box 1 rfl) rfl)) ?_
  refine HO.val (v := .pointer (some ⟨b_2, 0, none⟩)) (want_none) rfl (q_fieldAddr fa_27_0 rfl rfl) ?_
  refine HO.val (v := .bool b.1) (want_none) rfl (q_load to_4 rfl (Blk.cell (hS.box 0 rfl) rfl)) ?_
  refine HO.val (v := .bool (!(a.1 == b.1))) (want_none) rfl (q_neqB Tryd.underlying4 rfl rfl) ?_
  refine HO.nil (thenQ_normal (?_))
  refine HW.cond (!(a.1 == b.1)) rfl (fun c_1 => ?_) (fun c_1 => ?_)
  · replace hM := hM.1 c_1
    refine HW.seq ?_
    refine HW.seq ?_
    refine HW.region ?_
    refine HO.val (v := .pointer (some ⟨b_2, 0, none⟩)) (want_none) rfl (q_fieldAddr fa_27_0 rfl rfl) ?_
    refine HO.val (v := .bool b.1) (want_none) rfl (q_load to_4 rfl (Blk.cell (hS.box 0 rfl) rfl)) ?_
    refine HO.nil (thenQ_normal (?_))
    refine HW.cond b.1 rfl (fun c_2 => ?_) (fun c_2 => ?_)
    · replace hM := hM.1 c_2
      refine HW.seq ?_
      refine HW.region ?_
      refine HO.val (v := .int .i64 (-1)) (want_none) rfl (q_assign rfl) ?_
      refine HO.nil (thenQ_normal (?_))
      refine HW.ret (thenQ_ret (thenQ_ret (?_)))
      refine ⟨.inr rfl, .int .i64 (-1), res1 rfl (rt rfl), ?_⟩
      replace hS : St F (fr) h_2 := hS.perm2 [] 2 rfl rfl
      exact ⟨F, (-1), rfl, hK, hS, hM⟩
    · replace hM := hM.2 c_2
      refine HW.skip (thenQ_normal (?_))
      refine HW.seq ?_
      refine HW.region ?_
      refine HO.val (v := .int .i64 1) (want_none) rfl (q_assign rfl) ?_
      refine HO.nil (thenQ_normal (?_))
      refine HW.ret (thenQ_ret (?_))
      refine ⟨.inr rfl, .int .i64 1, res1 rfl (rt rfl), ?_⟩
      replace hS : St F (fr) h_2 := hS.perm2 [] 2 rfl rfl
      exact ⟨F, 1, rfl, hK, hS, hM⟩
  · replace hM := hM.2 c_1
    refine HW.skip (thenQ_normal (?_))
    refine HW.seq ?_
    refine HW.seq ?_
    refine HW.region ?_
    refine HO.val (v := .int .i64 0) (want_none) rfl (q_assign rfl) ?_
    refine HO.nil (thenQ_normal (?_))
    refine HW.block ?_
    obtain ⟨I_1, m_1, hI_1, hR_1⟩ := hM
    replace hS : St F (Ow.box b_1 27 (e_api_Addr a).toArray :: Ow.box b_2 27 (e_api_Addr b).toArray :: fr) h_2 := hS.perm2 [1, 0] 2 rfl rfl
    refine HW.loop (S := Int) (fun i_1 f h => ∃ (F' : Fz), f 2 = .pointer (some ⟨b_1, 0, none⟩) ∧ f 3 = .pointer (some ⟨b_2, 0, none⟩) ∧ f 4 = .int .i64 0 ∧ f 5 = .int .i64 i_1 ∧ Kp F h0 F' h ∧ St F' (Ow.box b_1 27 (e_api_Addr a).toArray :: Ow.box b_2 27 (e_api_Addr b).toArray :: fr) h ∧ I_1 i_1) m_1 0 ⟨F, rfl, rfl, rfl, rfl, hK, hS, hI_1⟩ ?_
    rintro i_1 f_1 h_3 ⟨F_1, e2, e3, e4, e5, hK, hS, hI0⟩
    obtain ⟨K_1, hKe_1⟩ : ∃ K : Int → Prop, K = fun i_1' => I_1 i_1' ∧ m_1 i_1' < m_1 i_1 := ⟨_, rfl⟩
    have hM : ref03_Cmp_l1 a b Q K_1 i_1 := by rw [hKe_1]; exact hR_1 i_1 hI0
    unfold ref03_Cmp_l1 at hM
    refine HW.fr [(2, .pointer (some ⟨b_1, 0, none⟩)), (3, .pointer (some ⟨b_2, 0, none⟩)), (4, .int .i64 0), (5, .int .i64 i_1)] ⟨e2, e3, e4, e5, trivial⟩ ?_
    refine HW.seq_mid (fun f h => ∃ (F' : Fz), f 2 = .pointer (some ⟨b_1, 0, none⟩) ∧ f 3 = .pointer (some ⟨b_2, 0, none⟩) ∧ f 4 = .int .i64 0 ∧ f 5 = .int .i64 i_1 ∧ Kp F h0 F' h ∧ St F' (Ow.box b_1 27 (e_api_Addr a).toArray :: Ow.box b_2 27 (e_api_Addr b).toArray :: fr) h ∧ ref03_Cmp_j1 a b Q i_1 K_1) ?_ ?_
    · refine HW.seq ?_
      refine HW.region ?_
      refine HO.val (v := .int .i64 i_1) (want_none) rfl (q_move rfl) ?_
      refine HO.val (v := .bool (decide (i_1 < 16))) (want_none) rfl (q_lss rfl rfl) ?_
      refine HO.val (v := .bool (decide (i_1 < 16))) (want_none) rfl (q_move rfl) ?_
      rcases Bool.eq_false_or_eq_true (decide (i_1 < 16)) with c_3 | c_3
      · replace hM := hM.1 (of_decide_eq_true c_3)
        refine HO.val (v := .pointer (some ⟨b_1, 0, none⟩)) (want_by rfl rfl c_3) rfl (q_fieldAddr fa_27_0 rfl rfl) ?_
        refine HO.val (v := .bool a.1) (want_by rfl rfl c_3) rfl (q_load to_4 rfl (Blk.cell (hS.box 0 rfl) rfl)) ?_
        refine HO.val (v := .bool a.1) (want_by rfl rfl c_3) rfl (q_move rfl) ?_
        rcases Bool.eq_false_or_eq_true a.1 with c_4 | c_4
        · replace hM := hM.1 c_4
          refine HO.past (past_by rfl rfl c_4) rfl ?_
          refine HO.past (past_by rfl rfl c_4) rfl ?_
          refine HO.val (v := .bool true) (want_by rfl rfl c_3) rfl (q_pickK true rfl c_4 rfl) ?_
          refine HO.val (v := .bool true) (want_none) rfl (q_pickK true rfl c_3 rfl) ?_
          refine HO.nil (thenQ_normal (?_))
          refine HW.condT rfl ?_
          refine HW.skip (thenQ_normal (?_))
          exact ⟨F_1, rfl, rfl, rfl, rfl, hK, hS, hM⟩
        · replace hM := hM.2 c_4
          refine HO.val (v := .int .i64 i_1) (want_by rfl rfl c_4) rfl (q_move rfl) ?_
          refine HO.val (v := .bool (decide (i_1 < 4))) (want_by rfl rfl c_4) rfl (q_lss rfl rfl) ?_
          refine HO.val (v := .bool (decide (i_1 < 4))) (want_by rfl rfl c_3) rfl (q_pickK false rfl c_4 rfl) ?_
          refine HO.val (v := .bool (decide (i_1 < 4))) (want_none) rfl (q_pickK true rfl c_3 rfl) ?_
          refine HO.nil (thenQ_normal (?_))
          refine HW.cond (decide (i_1 < 4)) rfl (fun c_5 => ?_) (fun c_5 => ?_)
          · replace hM := hM.1 (of_decide_eq_true c_5)
            refine HW.skip (thenQ_normal (?_))
            exact ⟨F_1, rfl, rfl, rfl, rfl, hK, hS, hM⟩
          · replace hM := hM.2 (of_decide_eq_false c_5)
            refine HW.exit (thenQ_exit (thenQ_exit (blockQ_exit (thenQ_normal (?_)))))
            refine HW.seq ?_
            refine HW.region ?_
            refine HO.val (v := .int .i64 0) (want_none) rfl (q_assign rfl) ?_
            refine HO.nil (thenQ_normal (?_))
            refine HW.ret (?_)
            refine ⟨.inr rfl, .int .i64 0, res1 rfl (rt rfl), ?_⟩
            replace hS : St F_1 (fr) h_3 := hS.perm2 [] 2 rfl rfl
            exact ⟨F_1, 0, rfl, hK, hS, hM⟩
      · replace hM := hM.2 (of_decide_eq_false c_3)
        refine HO.past (past_by rfl rfl c_3) rfl ?_
        refine HO.past (past_by rfl rfl c_3) rfl ?_
        refine HO.past (past_by rfl rfl c_3) rfl ?_
        refine HO.past (past_undef rfl rfl) rfl ?_
        refine HO.past (past_undef rfl rfl) rfl ?_
        refine HO.past (past_by rfl rfl c_3) rfl ?_
        refine HO.val (v := .bool false) (want_none) rfl (q_pickK false rfl c_3 rfl) ?_
        refine HO.nil (thenQ_normal (?_))
        refine HW.condF rfl ?_
        refine HW.exit (thenQ_exit (thenQ_exit (blockQ_exit (thenQ_normal (?_)))))
        refine HW.seq ?_
        refine HW.region ?_
        refine HO.val (v := .int .i64 0) (want_none) rfl (q_assign rfl) ?_
        refine HO.nil (thenQ_normal (?_))
        refine HW.ret (?_)
        refine ⟨.inr rfl, .int .i64 0, res1 rfl (rt rfl), ?_⟩
        replace hS : St F_1 (fr) h_3 := hS.perm2 [] 2 rfl rfl
        exact ⟨F_1, 0, rfl, hK, hS, hM⟩
    · rintro f_2 h_4 ⟨F_2, e2, e3, e4, e5, hK, hS, hM⟩
      unfold ref03_Cmp_j1 at hM
      refine HW.fr [(2, .pointer (some ⟨b_1, 0, none⟩)), (3, .pointer (some ⟨b_2, 0, none⟩)), (4, .int .i64 0), (5, .int .i64 i_1)] ⟨e2, e3, e4, e5, trivial⟩ ?_
      refine HW.seq ?_
      refine HW.block ?_
      refine HW.seq ?_
      refine HW.seq ?_
      refine HW.regionA 9 mixed (fun h => (Blk h b_1 (.cells (e_api_Addr a).toArray 27 (0, 0))) ∧ (Blk h b_2 (.cells (e_api_Addr b).toArray 27 (0, 0)))) [] (by kernel_rfl) ?_
      refine HA.val (k := 0) (v := .int .i64 i_1) rfl rfl (by kernel_rfl) (by kernel_rfl) (want_none) rfl (fun _ ⟨c305, c306⟩ => q_move rfl) ?_
      refine HA.val (k := 1) (v := .pointer (some ⟨b_1, 1, none⟩)) rfl rfl (by kernel_rfl) (by kernel_rfl) (want_none) rfl (fun _ ⟨c305, c306⟩ => q_fieldAddr fa_27_1 rfl rfl) ?_
      obtain ⟨ho_1, hM⟩ := hM
      refine HA.val (k := 2) (v := .pointer (some ⟨b_1, 1 + (i_1).toNat, none⟩)) rfl rfl (by kernel_rfl) (by kernel_rfl) (want_none) rfl (fun _ ⟨c305, c306⟩ => q_idxA (o := 1) (t := i_1) tr_25 rfl rfl ho_1) ?_
      refine HA.val (k := 3) (v := .int .u8 (b8 a.2 i_1)) rfl rfl (by kernel_rfl) (by kernel_rfl) (want_none) rfl (fun _ ⟨c305, c306⟩ => q_ldArr (o := 1) (t := i_1) (X := a.2) to_5 rfl c305 rfl ho_1) ?_
      refine HA.val (k := 4) (v := .int .i64 i_1) rfl rfl (by kernel_rfl) (by kernel_rfl) (want_none) rfl (fun _ ⟨c305, c306⟩ => q_move rfl) ?_
      refine HA.val (k := 5) (v := .pointer (some ⟨b_2, 1, none⟩)) rfl rfl (by kernel_rfl) (by kernel_rfl) (want_none) rfl (fun _ ⟨c305, c306⟩ => q_fieldAddr fa_27_1 rfl rfl) ?_
      refine HA.val (k := 6) (v := .pointer (some ⟨b_2, 1 + (i_1).toNat, none⟩)) rfl rfl (by kernel_rfl) (by kernel_rfl) (want_none) rfl (fun _ ⟨c305, c306⟩ => q_idxA (o := 1) (t := i_1) tr_25 rfl rfl ho_1) ?_
      refine HA.val (k := 7) (v := .int .u8 (b8 b.2 i_1)) rfl rfl (by kernel_rfl) (by kernel_rfl) (want_none) rfl (fun _ ⟨c305, c306⟩ => q_ldArr (o := 1) (t := i_1) (X := b.2) to_5 rfl c306 rfl ho_1) ?_
      refine HA.val (k := 8) (v := .bool (decide ((b8 a.2 i_1) < (b8 b.2 i_1)))) rfl rfl (by kernel_rfl) (by kernel_rfl) (want_none) rfl (fun _ ⟨c305, c306⟩ => q_lss rfl rfl) ?_
      refine HA.nil ⟨⟨(hS.box 0 rfl), (hS.box 1 rfl)⟩, (Go.Wk.at_nil _ _)⟩ (by kernel_rfl) (thenQ_normal (?_))
      refine HW.cond (decide ((b8 a.2 i_1) < (b8 b.2 i_1))) rfl (fun c_6 => ?_) (fun c_6 => ?_)
      · replace hM := hM.1 (of_decide_eq_true c_6)
        refine HW.seq ?_
        refine HW.region ?_
        refine HO.val (v := .int .i64 (-1)) (want_none) rfl (q_assign rfl) ?_
        refine HO.nil (thenQ_normal (?_))
        refine HW.ret (thenQ_ret (blockQ_ret (thenQ_ret (thenQ_ret (blockQ_ret (thenQ_ret (?_)))))))
        refine ⟨.inr rfl, .int .i64 (-1), res1 rfl (rt rfl), ?_⟩
        replace hS : St F_2 (fr) h_4 := hS.perm2 [] 2 rfl rfl
        exact ⟨F_2, (-1), rfl, hK, hS, hM⟩
      · replace hM := hM.2 (of_decide_eq_false c_6)
        refine HW.skip (thenQ_normal (?_))
        refine HW.seq ?_
        refine HW.regionA 9 mixed (fun h => (Blk h b_1 (.cells (e_api_Addr a).toArray 27 (0, 0))) ∧ (Blk h b_2 (.cells (e_api_Addr b).toArray 27 (0, 0)))) [] (by kernel_rfl) ?_
        refine HA.val (k := 0) (v := .int .i64 i_1) rfl rfl (by kernel_rfl) (by kernel_rfl) (want_none) rfl (fun _ ⟨c305, c306⟩ => q_move rfl) ?_
        refine HA.val (k := 1) (v := .pointer (some ⟨b_1, 1, none⟩)) rfl rfl (by kernel_rfl) (by kernel_rfl) (want_none) rfl (fun _ ⟨c305, c306⟩ => q_fieldAddr fa_27_1 rfl rfl) ?_
        refine HA.val (k := 2) (v := .pointer (some ⟨b_1, 1 + (i_1).toNat, none⟩)) rfl rfl (by kernel_rfl) (by kernel_rfl) (want_none) rfl (fun _ ⟨c305, c306⟩ => q_idxA (o := 1) (t := i_1) tr_25 rfl rfl ho_1) ?_
        refine HA.val (k := 3) (v := .int .u8 (b8 a.2 i_1)) rfl rfl (by kernel_rfl) (by kernel_rfl) (want_none) rfl (fun _ ⟨c305, c306⟩ => q_ldArr (o := 1) (t := i_1) (X := a.2) to_5 rfl c305 rfl ho_1) ?_
        refine HA.val (k := 4) (v := .int .i64 i_1) rfl rfl (by kernel_rfl) (by kernel_rfl) (want_none) rfl (fun _ ⟨c305, c306⟩ => q_move rfl) ?_
        refine HA.val (k := 5) (v := .pointer (some ⟨b_2, 1, none⟩)) rfl rfl (by kernel_rfl) (by kernel_rfl) (want_none) rfl (fun _ ⟨c305, c306⟩ => q_fieldAddr fa_27_1 rfl rfl) ?_
        refine HA.val (k := 6) (v := .pointer (some ⟨b_2, 1 + (i_1).toNat, none⟩)) rfl rfl (by kernel_rfl) (by kernel_rfl) (want_none) rfl (fun _ ⟨c305, c306⟩ => q_idxA (o := 1) (t := i_1) tr_25 rfl rfl ho_1) ?_
        refine HA.val (k := 7) (v := .int .u8 (b8 b.2 i_1)) rfl rfl (by kernel_rfl) (by kernel_rfl) (want_none) rfl (fun _ ⟨c305, c306⟩ => q_ldArr (o := 1) (t := i_1) (X := b.2) to_5 rfl c306 rfl ho_1) ?_
        refine HA.val (k := 8) (v := .bool (decide ((b8 b.2 i_1) < (b8 a.2 i_1)))) rfl rfl (by kernel_rfl) (by kernel_rfl) (want_none) rfl (fun _ ⟨c305, c306⟩ => q_gtr rfl rfl) ?_
        refine HA.nil ⟨⟨(hS.box 0 rfl), (hS.box 1 rfl)⟩, (Go.Wk.at_nil _ _)⟩ (by kernel_rfl) (thenQ_normal (?_))
        refine HW.cond (decide ((b8 b.2 i_1) < (b8 a.2 i_1))) rfl (fun c_7 => ?_) (fun c_7 => ?_)
        · replace hM := hM.1 (of_decide_eq_true c_7)
          refine HW.seq ?_
          refine HW.region ?_
          refine HO.val (v := .int .i64 1) (want_none) rfl (q_assign rfl) ?_
          refine HO.nil (thenQ_normal (?_))
          refine HW.ret (blockQ_ret (thenQ_ret (thenQ_ret (blockQ_ret (thenQ_ret (?_))))))
          refine ⟨.inr rfl, .int .i64 1, res1 rfl (rt rfl), ?_⟩
          replace hS : St F_2 (fr) h_4 := hS.perm2 [] 2 rfl rfl
          exact ⟨F_2, 1, rfl, hK, hS, hM⟩
        · replace hM := hM.2 (of_decide_eq_false c_7)
          refine HW.skip (blockQ_normal (thenQ_normal (?_)))
          refine HW.region ?_
          refine HO.val (v := .int .i64 i_1) (want_none) rfl (q_move rfl) ?_
          obtain ⟨ho_2, hM⟩ := hM
          refine HO.val (v := .int .i64 (i_1 + 1)) (want_none) rfl (q_addN _ rfl rfl rfl ho_2.1 ho_2.2) ?_
          refine HO.val (v := .int .i64 (i_1 + 1)) (want_none) rfl (q_assign rfl) ?_
          refine HO.nil (thenQ_normal (?_))
          rw [hKe_1] at hM
          exact ⟨i_1 + 1, ⟨F_2, rfl, rfl, rfl, rfl, hK, hS, hM.1⟩, hM.2⟩

def ref11_Add_j2 (l : List T_api_Addr) (a : T_api_Addr) (Q : (List T_api_Addr) → Prop) (n_1 : Int) : Prop :=
  ((0 : Int) ≤ n_1 ∧ n_1 ≤ (l.length : Int)) ∧ (((([] : List T_api_Addr).length + (cut l 0 n_1).length) * 17 ≤ 140737488355328) ∧ ((((([] : List T_api_Addr) ++ (cut l 0 n_1)).length + ([a] : List T_api_Addr).length) * 17 ≤ 140737488355328) ∧ (((((([] : List T_api_Addr) ++ (cut l 0 n_1)) ++ ([a] : List T_api_Addr)).length + (cut l n_1 (l.length : Int)).length) * 17 ≤ 140737488355328) ∧ (Q (((([] : List T_api_Addr) ++ (cut l 0 n_1)) ++ ([a] : List T_api_Addr)) ++ (cut l n_1 (l.length : Int)))))))
def ref11_Add_l1 (l : List T_api_Addr) (a : T_api_Addr) (Q : (List T_api_Addr) → Prop) (K_1 : Int → Prop) (n_2 : Int) : Prop :=
  (n_2 < (l.length : Int) → ((0 : Int) ≤ n_2 ∧ n_2 < (l.length : Int)) ∧ (ref03_Cmp_W (gi l n_2) a (fun r_4 => (r_4 < 0 → (I64 (n_2 + 1)) ∧ (K_1 (n_2 + 1))) ∧ (¬ (r_4 < 0) → ref11_Add_j2 l a Q n_2)))) ∧ (¬ (n_2 < (l.length : Int)) → ref11_Add_j2 l a Q n_2)
def ref11_Add_j1 (l : List T_api_Addr) (a : T_api_Addr) (Q : (List T_api_Addr) → Prop) (b_2 : Bool) : Prop :=
  (b_2 = true → Q l) ∧ (b_2 = false → loopW (fun (K_1 : Int → Prop) (s : Int) => ref11_Add_l1 l a Q K_1 s) 0)
def ref11_Add_W (l : List T_api_Addr) (a : T_api_Addr) (Q : (List T_api_Addr) → Prop) : Prop :=
  ref11_Has_W l a (fun r_2 => (r_2 = true → ref11_Add_j1 l a Q true) ∧ (r_2 = false → ref03_Good_W a (fun r_3 => ref11_Add_j1 l a Q (!r_3))))
set_option maxHeartbeats 40000000 in
set_option maxRecDepth 100000 in
theorem ref11_Add_walk {F : Fz} {fr : List Ow} {h0 : Heap} (l : List T_api_Addr) (a : T_api_Addr) (vl : Value) (hS : St F (fr) h0) (hL_l : SliceF F h0 17 e_api_Addr vl l) {Q : (List T_api_Addr) → Prop} (hM : ref11_Add_W l a Q) :
    HC Tryd.prog 53 #[vl, .agg (e_api_Addr a).toArray] h0 fun u h' => ∃ (F' : Fz) (r_1 : List T_api_Addr) (vr_1 : Value), u = vr_1 ∧ Kp F h0 F' h' ∧ St F' (fr) h' ∧ (SliceF F' h' 17 e_api_Addr vl l) ∧ (SliceF F' h' 17 e_api_Addr vr_1 r_1) ∧ Q r_1 := by
  unfold ref11_Add_W at hM
  have hK := Kp.refl F h0
  refine HC.of_HW (n := 42) Tryd.func53 rfl rfl (Nat.le_of_ble_eq_true rfl) ?_
  refine HW.seq ?_
  refine HW.region ?_
  refine HO.eff (want_none) rfl (st_box (c := (e_api_Addr a).toArray) (k' := 17) hS rfl rfl) ?_
  rintro _ h_1 ⟨b_1, rfl, hS, hk⟩
  replace hK := hK.trans hk
  replace hL_l := hL_l.kp hk
  refine HO.val (v := .slice none 0 0) (want_none) rfl (q_assign rfl) ?_
  refine HO.nil (thenQ_normal (?_))
  refine HW.seq ?_
  refine HW.seq_mid (fun f h => ∃ (F' : Fz) (b_2 : Bool), f 0 = vl ∧ f 3 = .pointer (some ⟨b_1, 0, none⟩) ∧ f 4 = .slice none 0 0 ∧ f 13 = .bool b_2 ∧ Kp F h0 F' h ∧ St F' (Ow.box b_1 27 (e_api_Addr a).toArray :: fr) h ∧ (SliceF F' h 17 e_api_Addr vl l) ∧ ref11_Add_j1 l a Q b_2) ?_ ?_
  · refine HW.region ?_
    refine HO.val (v := vl) (want_none) rfl (q_move rfl) ?_
    refine HO.val (v := .agg (e_api_Addr a).toArray) (want_none) rfl (q_loadAgg (cs := (e_api_Addr a)) ta_27 rfl rfl (Blk.cells (k := 17) (hS.box 0 rfl) rfl)) ?_
    refine HO.call (want_none) rfl (ec en_38 rfl rfl) (ref11_Has_walk (fr := (Ow.box b_1 27 (e_api_Addr a).toArray :: fr)) l a vl hS hL_l hM) ?_
    rintro _ h_2 ⟨F_1, r_2, rfl, hk, hS, _, hM⟩
    replace hK := hK.trans hk
    replace hL_l := hL_l.kp hk
    refine HO.val (v := .bool r_2) (want_none) rfl (q_move rfl) ?_
    rcases Bool.eq_false_or_eq_true r_2 with c_1 | c_1
    · replace hM := hM.1 c_1
      refine HO.past (past_by rfl rfl c_1) rfl ?_
      refine HO.past (past_by rfl rfl c_1) rfl ?_
      refine HO.past (past_by rfl rfl c_1) rfl ?_
      refine HO.val (v := .bool true) (want_none) rfl (q_pickK true rfl c_1 rfl) ?_
      refine HO.nil (thenQ_normal (?_))
      exact ⟨F_1, true, rfl, rfl, rfl, rfl, hK, hS, hL_l, hM⟩
    · replace hM := hM.2 c_1
      refine HO.val (v := .agg (e_api_Addr a).toArray) (want_by rfl rfl c_1) rfl (q_loadAgg (cs := (e_api_Addr a)) ta_27 rfl rfl (Blk.cells (k := 17) (hS.box 0 rfl) rfl)) ?_
      refine HO.call (want_by rfl rfl c_1) rfl (ec en_68 rfl rfl) (ref03_Good_walk (fr := (Ow.box b_1 27 (e_api_Addr a).toArray :: fr)) a hS hM) ?_
      rintro _ h_3 ⟨F_2, r_3, rfl, hk, hS, hM⟩
      replace hK := hK.trans hk
      replace hL_l := hL_l.kp hk
      refine HO.val (v := .bool (!r_3)) (want_by rfl rfl c_1) rfl (q_not rfl) ?_
      refine HO.val (v := .bool (!r_3)) (want_none) rfl (q_pickK false rfl c_1 rfl) ?_
      refine HO.nil (thenQ_normal (?_))
      exact ⟨F_2, !r_3, rfl, rfl, rfl, rfl, hK, hS, hL_l, hM⟩
  · rintro f_1 h_4 ⟨F_3, b_2, e0, e3, e4, e13, hK, hS, hL_l, hM⟩
    unfold ref11_Add_j1 at hM
    refine HW.fr [(0, vl), (3, .pointer (some ⟨b_1, 0, none⟩)), (4, .slice none 0 0), (13, .bool b_2)] ⟨e0, e3, e4, e13, trivial⟩ ?_
    refine HW.cond b_2 rfl (fun c_2 => ?_) (fun c_2 => ?_)
    · replace hM := hM.1 c_2
      refine HW.seq ?_
      refine HW.region ?_
      refine HO.val (v := vl) (want_none) rfl (q_move rfl) ?_
      refine HO.val (v := vl) (want_none) rfl (q_assign rfl) ?_
      refine HO.nil (thenQ_normal (?_))
      refine HW.ret (thenQ_ret (?_))
      refine ⟨.inr rfl, vl, res1 rfl (rt rfl), ?_⟩
      replace hS : St F_3 (fr) h_4 := hS.perm2 [] 1 rfl rfl
      exact ⟨F_3, l, vl, rfl, hK, hS, hL_l, hL_l, hM⟩
    · replace hM := hM.2 c_2
      refine HW.skip (thenQ_normal (?_))
      refine HW.seq ?_
      refine HW.region ?_
      refine HO.val (v := .int .i64 0) (want_none) rfl (q_assign rfl) ?_
      refine HO.nil (thenQ_normal (?_))
      refine HW.seq_mid (fun f h => ∃ (F' : Fz) (n_1 : Int), f 0 = vl ∧ f 3 = .pointer (some ⟨b_1, 0, none⟩) ∧ f 4 = .slice none 0 0 ∧ f 5 = .int .i64 n_1 ∧ Kp F h0 F' h ∧ St F' (Ow.box b_1 27 (e_api_Addr a).toArray :: fr) h ∧ (SliceF F' h 17 e_api_Addr vl l) ∧ ref11_Add_j2 l a Q n_1) ?_ ?_
      · refine HW.block ?_
        obtain ⟨I_1, m_1, hI_1, hR_1⟩ := hM
        refine HW.loop (S := Int) (fun n_2 f h => ∃ (F' : Fz), f 0 = vl ∧ f 3 = .pointer (some ⟨b_1, 0, none⟩) ∧ f 4 = .slice none 0 0 ∧ f 5 = .int .i64 n_2 ∧ Kp F h0 F' h ∧ St F' (Ow.box b_1 27 (e_api_Addr a).toArray :: fr) h ∧ (SliceF F' h 17 e_api_Addr vl l) ∧ I_1 n_2) m_1 0 ⟨F_3, rfl, rfl, rfl, rfl, hK, hS, hL_l, hI_1⟩ ?_
        rintro n_2 f_2 h_5 ⟨F_4, e0, e3, e4, e5, hK, hS, hL_l, hI0⟩
        obtain ⟨K_1, hKe_1⟩ : ∃ K : Int → Prop, K = fun n_2' => I_1 n_2' ∧ m_1 n_2' < m_1 n_2 := ⟨_, rfl⟩
        have hM : ref11_Add_l1 l a Q K_1 n_2 := by rw [hKe_1]; exact hR_1 n_2 hI0
        unfold ref11_Add_l1 at hM
        refine HW.fr [(0, vl), (3, .pointer (some ⟨b_1, 0, none⟩)), (4, .slice none 0 0), (5, .int .i64 n_2)] ⟨e0, e3, e4, e5, trivial⟩ ?_
        refine HW.seq ?_
        refine HW.seq ?_
        refine HW.regionA 13 mixed (fun h => (SliceIs h 17 e_api_Addr vl l) ∧ (Blk h b_1 (.cells (e_api_Addr a).toArray 27 (0, 0)))) [] (by kernel_rfl) ?_
        refine HA.val (k := 0) (v := .int .i64 n_2) rfl rfl (by kernel_rfl) (by kernel_rfl) (want_none) rfl (fun _ ⟨hL_l, c304⟩ => q_move rfl) ?_
        refine HA.val (k := 1) (v := vl) rfl rfl (by kernel_rfl) (by kernel_rfl) (want_none) rfl (fun _ ⟨hL_l, c304⟩ => q_move rfl) ?_
        refine HA.val (k := 2) (v := .int .i64 (l.length : Int)) rfl rfl (by kernel_rfl) (by kernel_rfl) (want_none) rfl (fun _ ⟨hL_l, c304⟩ => q_len ts_22 (shp hL_l) rfl rfl) ?_
        refine HA.val (k := 3) (v := .bool (decide (n_2 < (l.length : Int)))) rfl rfl (by kernel_rfl) (by kernel_rfl) (want_none) rfl (fun _ ⟨hL_l, c304⟩ => q_lss rfl rfl) ?_
        refine HA.val (k := 4) (v := .bool (decide (n_2 < (l.length : Int)))) rfl rfl (by kernel_rfl) (by kernel_rfl) (want_none) rfl (fun _ ⟨hL_l, c304⟩ => q_move rfl) ?_
        rcases Bool.eq_false_or_eq_true (decide (n_2 < (l.length : Int))) with c_3 | c_3
        · replace hM := hM.1 (of_decide_eq_true c_3)
          refine HA.val (k := 5) (v := vl) rfl rfl (by kernel_rfl) (by kernel_rfl) (want_by rfl rfl c_3) rfl (fun _ ⟨hL_l, c304⟩ => q_move rfl) ?_
          refine HA.val (k := 6) (v := .int .i64 n_2) rfl rfl (by kernel_rfl) (by kernel_rfl) (want_by rfl rfl c_3) rfl (fun _ ⟨hL_l, c304⟩ => q_move rfl) ?_
          obtain ⟨ho_1, hM⟩ := hM
          refine HA.val (k := 7) (v := elemPtr 17 vl (n_2).toNat) rfl rfl (by kernel_rfl) (by kernel_rfl) (want_by rfl rfl c_3) rfl (fun _ ⟨hL_l, c304⟩ => q_idx ts_22 hL_l rfl rfl ho_1) ?_
          refine HA.val (k := 8) (v := .agg (e_api_Addr (gi l n_2)).toArray) rfl rfl (by kernel_rfl) (by kernel_rfl) (want_by rfl rfl c_3) rfl (fun _ ⟨hL_l, c304⟩ => q_ldElemAgg (cs := (e_api_Addr (gi l n_2))) ta_27 hL_l rfl ho_1 rfl) ?_
          refine HA.val (k := 9) (v := .agg (e_api_Addr a).toArray) rfl rfl (by kernel_rfl) (by kernel_rfl) (want_by rfl rfl c_3) rfl (fun _ ⟨hL_l, c304⟩ => q_loadAgg (cs := (e_api_Addr a)) ta_27 rfl rfl (Blk.cells (k := 17) c304 rfl)) ?_
          refine HA.one (k := 10) ⟨⟨hL_l.is, (hS.box 0 rfl)⟩, (Go.Wk.at_nil _ _)⟩ (by kernel_rfl) ?_
          refine HS.call rfl (want_by rfl rfl c_3) rfl (ec en_69 rfl rfl) (ref03_Cmp_walk (fr := (Ow.box b_1 27 (e_api_Addr a).toArray :: fr)) (gi l n_2) a hS hM) ?_
          rintro _ h_6 ⟨F_5, r_4, rfl, hk, hS, hM⟩
          replace hK := hK.trans hk
          replace hL_l := hL_l.kp hk
          refine HA.val (k := 11) (v := .bool (decide (r_4 < 0))) rfl rfl (by kernel_rfl) (by kernel_rfl) (want_by rfl rfl c_3) rfl (fun _ ⟨hL_l, c304⟩ => q_lss rfl rfl) ?_
          refine HA.val (k := 12) (v := .bool (decide (r_4 < 0))) rfl rfl (by kernel_rfl) (by kernel_rfl) (want_none) rfl (fun _ ⟨hL_l, c304⟩ => q_pickK true rfl c_3 rfl) ?_
          refine HA.nil ⟨⟨hL_l.is, (hS.box 0 rfl)⟩, (Go.Wk.at_nil _ _)⟩ (by kernel_rfl) (thenQ_normal (?_))
          refine HW.cond (decide (r_4 < 0)) rfl (fun c_4 => ?_) (fun c_4 => ?_)
          · replace hM := hM.1 (of_decide_eq_true c_4)
            refine HW.skip (thenQ_normal (?_))
            refine HW.block ?_
            refine HW.region ?_
            refine HO.val (v := .int .i64 n_2) (want_none) rfl (q_move rfl) ?_
            obtain ⟨ho_2, hM⟩ := hM
            refine HO.val (v := .int .i64 (n_2 + 1)) (want_none) rfl (q_addN _ rfl rfl rfl ho_2.1 ho_2.2) ?_
            refine HO.val (v := .int .i64 (n_2 + 1)) (want_none) rfl (q_assign rfl) ?_
            refine HO.nil (blockQ_normal (thenQ_normal (?_)))
            rw [hKe_1] at hM
            exact ⟨n_2 + 1, ⟨F_5, rfl, rfl, rfl, rfl, hK, hS, hL_l, hM.1⟩, hM.2⟩
          · replace hM := hM.2 (of_decide_eq_false c_4)
            refine HW.exit (thenQ_exit (thenQ_exit (blockQ_exit (thenQ_normal (?_)))))
            exact ⟨F_5, n_2, rfl, rfl, rfl, rfl, hK, hS, hL_l, hM⟩
        · replace hM := hM.2 (of_decide_eq_false c_3)
          refine HA.past (k := 5) rfl rfl (by kernel_rfl) (by kernel_rfl) (past_by rfl rfl c_3) rfl ?_
          refine HA.past (k := 6) rfl rfl (by kernel_rfl) (by kernel_rfl) (past_by rfl rfl c_3) rfl ?_
          refine HA.past (k := 7) rfl rfl (by kernel_rfl) (by kernel_rfl) (past_by rfl rfl c_3) rfl ?_
          refine HA.past (k := 8) rfl rfl (by kernel_rfl) (by kernel_rfl) (past_by rfl rfl c_3) rfl ?_
          refine HA.past (k := 9) rfl rfl (by kernel_rfl) (by kernel_rfl) (past_by rfl rfl c_3) rfl ?_
          refine HA.one (k := 10) ⟨⟨hL_l.is, (hS.box 0 rfl)⟩, (Go.Wk.at_nil _ _)⟩ (by kernel_rfl) ?_
          refine HS.past rfl (past_by rfl rfl c_3) rfl ?_
          refine HA.past (k := 11) rfl rfl (by kernel_rfl) (by kernel_rfl) (past_by rfl rfl c_3) rfl ?_
          refine HA.val (k := 12) (v := .bool false) rfl rfl (by kernel_rfl) (by kernel_rfl) (want_none) rfl (fun _ ⟨hL_l, c304⟩ => q_pickK false rfl c_3 rfl) ?_
          refine HA.nil ⟨⟨hL_l.is, (hS.box 0 rfl)⟩, (Go.Wk.at_nil _ _)⟩ (by kernel_rfl) (thenQ_normal (?_))
          refine HW.condF rfl ?_
          refine HW.exit (thenQ_exit (thenQ_exit (blockQ_exit (thenQ_normal (?_)))))
          exact ⟨F_4, n_2, rfl, rfl, rfl, rfl, hK, hS, hL_l, hM⟩
      · rintro f_3 h_7 ⟨F_6, n_1, e0, e3, e4, e5, hK, hS, hL_l, hM⟩
        unfold ref11_Add_j2 at hM
        refine HW.fr [(0, vl), (3, .pointer (some ⟨b_1, 0, none⟩)), (4, .slice none 0 0), (5, .int .i64 n_1)] ⟨e0, e3, e4, e5, trivial⟩ ?_
        refine HW.seq ?_
        obtain ⟨ho_3, hM⟩ := hM
        obtain ⟨ho_4, hM⟩ := hM
        obtain ⟨ho_5, hM⟩ := hM
        obtain ⟨ho_6, hM⟩ := hM
        refine HW.regionA 13 mixed (fun h => (SliceIs h 17 e_api_Addr vl l) ∧ (Blk h b_1 (.cells (e_api_Addr a).toArray 27 (0, 0)))) [] (by kernel_rfl) ?_
        refine HA.val (k := 1) (v := vl) rfl rfl (by kernel_rfl) (by kernel_rfl) (want_none) rfl (fun _ ⟨hL_l, c203⟩ => q_move rfl) ?_
        refine HA.val (k := 2) (v := .int .i64 n_1) rfl rfl (by kernel_rfl) (by kernel_rfl) (want_none) rfl (fun _ ⟨hL_l, c203⟩ => q_move rfl) ?_
        refine HA.val (k := 3) (v := cutV 17 vl (0 : Int).toNat (n_1).toNat) rfl rfl (by kernel_rfl) (by kernel_rfl) (want_none) rfl (fun _ ⟨hL_l, c203⟩ => q_slH ts_22 hL_l rfl rfl ho_3) ?_
        refine HA.val (k := 5) (v := .agg (e_api_Addr a).toArray) rfl rfl (by kernel_rfl) (by kernel_rfl) (want_none) rfl (fun _ ⟨hL_l, c203⟩ => q_loadAgg (cs := (e_api_Addr a)) ta_27 rfl rfl (Blk.cells (k := 17) c203 rfl)) ?_
        refine HA.val (k := 8) (v := vl) rfl rfl (by kernel_rfl) (by kernel_rfl) (want_none) rfl (fun _ ⟨hL_l, c203⟩ => q_move rfl) ?_
        refine HA.val (k := 9) (v := .int .i64 n_1) rfl rfl (by kernel_rfl) (by kernel_rfl) (want_none) rfl (fun _ ⟨hL_l, c203⟩ => q_move rfl) ?_
        refine HA.val (k := 10) (v := cutV 17 vl (n_1).toNat ((l.length : Int)).toNat) rfl rfl (by kernel_rfl) (by kernel_rfl) (want_none) rfl (fun _ ⟨hL_l, c203⟩ => q_slL ts_22 hL_l rfl rfl ho_3) ?_
        refine HA.two (k := 0) (k' := 6) ⟨⟨hL_l.is, (hS.box 0 rfl)⟩, (Go.Wk.at_nil _ _)⟩ (by kernel_rfl) ?_ ?_
        · refine HS.eff rfl (want_none) rfl (st_litEmpty (α := T_api_Addr) e_api_Addr hS tl_22) ?_
          rintro _ h_8 ⟨b_3, rfl, hS, hk⟩
          replace hK := hK.trans hk
          replace hL_l := hL_l.kp hk
          refine HA.two (k := 4) (k' := 6) ⟨⟨hL_l.is, (hS.box 1 rfl)⟩, (Go.Wk.at_nil _ _)⟩ (by kernel_rfl) ?_ ?_
          · refine HS.eff rfl (want_none) rfl (st_append te_22 hS (i := 0) rfl (cutIs hL_l.is 0 n_1 (Int.le_refl _) ho_3.1 ho_3.2) rfl rfl rfl (by intro a _ u hu; simp [e_api_Addr, encI, encN, encB, encT] at hu; rcases hu with rfl | rfl | rfl | rfl | rfl | rfl | rfl | rfl | rfl | rfl | rfl | rfl | rfl | rfl | rfl | rfl | rfl <;> rfl) ho_4 (by omega)) ?_
            rintro v_1 h_9 ⟨hS, hk⟩
            replace hS : St F_6 (Ow.own 27 17 e_api_Addr v_1 (([] : List T_api_Addr) ++ (cut l 0 n_1)) :: Ow.box b_1 27 (e_api_Addr a).toArray :: fr) h_9 := hS
            replace hK := hK.trans hk
            replace hL_l := hL_l.kp hk
            refine HA.one (k := 6) ⟨⟨hL_l.is, (hS.box 1 rfl)⟩, (Go.Wk.at_nil _ _)⟩ (by kernel_rfl) ?_
            refine HS.eff rfl (want_none) rfl (st_lit (enc := e_api_Addr) (cells := #[.bool a.1, .int .u8 (b8 a.2 0), .int .u8 (b8 a.2 1), .int .u8 (b8 a.2 2), .int .u8 (b8 a.2 3), .int .u8 (b8 a.2 4), .int .u8 (b8 a.2 5), .int .u8 (b8 a.2 6), .int .u8 (b8 a.2 7), .int .u8 (b8 a.2 8), .int .u8 (b8 a.2 9), .int .u8 (b8 a.2 10), .int .u8 (b8 a.2 11), .int .u8 (b8 a.2 12), .int .u8 (b8 a.2 13), .int .u8 (b8 a.2 14), .int .u8 (b8 a.2 15)]) #[.bool false, .int .u8 0, .int .u8 0, .int .u8 0, .int .u8 0, .int .u8 0, .int .u8 0, .int .u8 0, .int .u8 0, .int .u8 0, .int .u8 0, .int .u8 0, .int .u8 0, .int .u8 0, .int .u8 0, .int .u8 0, .int .u8 0] ([a] : List T_api_Addr) hS tl_22 (by decide) (by decide) (by kernel_rfl) (by kernel_rfl) rfl (by intro x hx; rfl) rfl) ?_
            rintro _ h_10 ⟨b_4, rfl, hS, hk⟩
            replace hK := hK.trans hk
            replace hL_l := hL_l.kp hk
            refine HA.one (k := 7) ⟨⟨hL_l.is, (hS.box 2 rfl)⟩, (Go.Wk.at_nil _ _)⟩ (by kernel_rfl) ?_
            refine HS.eff rfl (want_none) rfl (st_append te_22 hS (i := 1) rfl (hS.own 0 rfl).slice rfl rfl rfl (by intro a _ u hu; simp [e_api_Addr, encI, encN, encB, encT] at hu; rcases hu with rfl | rfl | rfl | rfl | rfl | rfl | rfl | rfl | rfl | rfl | rfl | rfl | rfl | rfl | rfl | rfl | rfl <;> rfl) ho_5 (by omega)) ?_
            rintro v_2 h_11 ⟨hS, hk⟩
            replace hS : St F_6 (Ow.own 27 17 e_api_Addr (.slice (some ⟨b_4, 0, none⟩) 1 1) ([a] : List T_api_Addr) :: Ow.own 27 17 e_api_Addr v_2 ((([] : List T_api_Addr) ++ (cut l 0 n_1)) ++ ([a] : List T_api_Addr)) :: Ow.box b_1 27 (e_api_Addr a).toArray :: fr) h_11 := hS
            replace hK := hK.trans hk
            replace hL_l := hL_l.kp hk
            refine HA.one (k := 11) ⟨⟨hL_l.is, (hS.box 2 rfl)⟩, (Go.Wk.at_nil _ _)⟩ (by kernel_rfl) ?_
            refine HS.eff rfl (want_none) rfl (st_append te_22 hS (i := 1) rfl (cutIs hL_l.is n_1 (l.length : Int) ho_3.1 ho_3.2 (Int.le_refl _)) rfl rfl rfl (by intro a _ u hu; simp [e_api_Addr, encI, encN, encB, encT] at hu; rcases hu with rfl | rfl | rfl | rfl | rfl | rfl | rfl | rfl | rfl | rfl | rfl | rfl | rfl | rfl | rfl | rfl | rfl <;> rfl) ho_6 (by omega)) ?_
            rintro v_3 h_12 ⟨hS, hk⟩
            replace hS : St F_6 (Ow.own 27 17 e_api_Addr (.slice (some ⟨b_4, 0, none⟩) 1 1) ([a] : List T_api_Addr) :: Ow.own 27 17 e_api_Addr v_3 (((([] : List T_api_Addr) ++ (cut l 0 n_1)) ++ ([a] : List T_api_Addr)) ++ (cut l n_1 (l.length : Int))) :: Ow.box b_1 27 (e_api_Addr a).toArray :: fr) h_12 := hS
            replace hK := hK.trans hk
            replace hL_l := hL_l.kp hk
            refine HA.val (k := 12) (v := v_3) rfl rfl (by kernel_rfl) (by kernel_rfl) (want_none) rfl (fun _ ⟨hL_l, c203⟩ => q_assign rfl) ?_
            refine HA.nil ⟨⟨hL_l.is, (hS.box 2 rfl)⟩, (Go.Wk.at_nil _ _)⟩ (by kernel_rfl) (thenQ_normal (?_))
            refine HW.ret (?_)
            refine ⟨.inr rfl, v_3, res1 rfl (rt rfl), ?_⟩
            replace hS : St F_6 (Ow.own 27 17 e_api_Addr v_3 (((([] : List T_api_Addr) ++ (cut l 0 n_1)) ++ ([a] : List T_api_Addr)) ++ (cut l n_1 (l.length : Int))) :: Ow.own 27 17 e_api_Addr (.slice (some ⟨b_4, 0, none⟩) 1 1) ([a] : List T_api_Addr) :: Ow.box b_1 27 (e_api_Addr a).toArray :: fr) h_12 := hS.perm2 [1, 0, 2] 3 rfl rfl
            obtain ⟨F_7, hS, hk, hL_2⟩ := hS.freezeOwn
            replace hK := hK.trans hk
            replace hL_l := hL_l.kp hk
            replace hS : St F_7 (fr) h_12 := hS.perm2 [] 2 rfl rfl
            exact ⟨F_7, ((([] : List T_api_Addr) ++ (cut l 0 n_1)) ++ ([a] : List T_api_Addr)) ++ (cut l n_1 (l.length : Int)), v_3, rfl, hK, hS, hL_l, hL_2, hM⟩
          · refine HS.eff rfl (want_none) rfl (st_lit (enc := e_api_Addr) (cells := #[.bool a.1, .int .u8 (b8 a.2 0), .int .u8 (b8 a.2 1), .int .u8 (b8 a.2 2), .int .u8 (b8 a.2 3), .int .u8 (b8 a.2 4), .int .u8 (b8 a.2 5), .int .u8 (b8 a.2 6), .int .u8 (b8 a.2 7), .int .u8 (b8 a.2 8), .int .u8 (b8 a.2 9), .int .u8 (b8 a.2 10), .int .u8 (b8 a.2 11), .int .u8 (b8 a.2 12), .int .u8 (b8 a.2 13), .int .u8 (b8 a.2 14), .int .u8 (b8 a.2 15)]) #[.bool false, .int .u8 0, .int .u8 0, .int .u8 0, .int .u8 0, .int .u8 0, .int .u8 0, .int .u8 0, .int .u8 0, .int .u8 0, .int .u8 0, .int .u8 0, .int .u8 0, .int .u8 0, .int .u8 0, .int .u8 0, .int .u8 0] ([a] : List T_api_Addr) hS tl_22 (by decide) (by decide) (by kernel_rfl) (by kernel_rfl) rfl (by intro x hx; rfl) rfl) ?_
            rintro _ h_9 ⟨b_4, rfl, hS, hk⟩
            replace hK := hK.trans hk
            replace hL_l := hL_l.kp hk
            refine HA.one (k := 4) ⟨⟨hL_l.is, (hS.box 2 rfl)⟩, (Go.Wk.at_nil _ _)⟩ (by kernel_rfl) ?_
            refine HS.eff rfl (want_none) rfl (st_append te_22 hS (i := 1) rfl (cutIs hL_l.is 0 n_1 (Int.le_refl _) ho_3.1 ho_3.2) rfl rfl rfl (by intro a _ u hu; simp [e_api_Addr, encI, encN, encB, encT] at hu; rcases hu with rfl | rfl | rfl | rfl | rfl | rfl | rfl | rfl | rfl | rfl | rfl | rfl | rfl | rfl | rfl | rfl | rfl <;> rfl) ho_4 (by omega)) ?_
            rintro v_1 h_10 ⟨hS, hk⟩
            replace hS : St F_6 (Ow.own 27 17 e_api_Addr (.slice (some ⟨b_4, 0, none⟩) 1 1) ([a] : List T_api_Addr) :: Ow.own 27 17 e_api_Addr v_1 (([] : List T_api_Addr) ++ (cut l 0 n_1)) :: Ow.box b_1 27 (e_api_Addr a).toArray :: fr) h_10 := hS
            replace hK := hK.trans hk
            replace hL_l := hL_l.kp hk
            refine HA.one (k := 7) ⟨⟨hL_l.is, (hS.box 2 rfl)⟩, (Go.Wk.at_nil _ _)⟩ (by kernel_rfl) ?_
            refine HS.eff rfl (want_none) rfl (st_append te_22 hS (i := 1) rfl (hS.own 0 rfl).slice rfl rfl rfl (by intro a _ u hu; simp [e_api_Addr, encI, encN, encB, encT] at hu; rcases hu with rfl | rfl | rfl | rfl | rfl | rfl | rfl | rfl | rfl | rfl | rfl | rfl | rfl | rfl | rfl | rfl | rfl <;> rfl) ho_5 (by omega)) ?_
            rintro v_2 h_11 ⟨hS, hk⟩
            replace hS : St F_6 (Ow.own 27 17 e_api_Addr (.slice (some ⟨b_4, 0, none⟩) 1 1) ([a] : List T_api_Addr) :: Ow.own 27 17 e_api_Addr v_2 ((([] : List T_api_Addr) ++ (cut l 0 n_1)) ++ ([a] : List T_api_Addr)) :: Ow.box b_1 27 (e_api_Addr a).toArray :: fr) h_11 := hS
            replace hK := hK.trans hk
            replace hL_l := hL_l.kp hk
            refine HA.one (k := 11) ⟨⟨hL_l.is, (hS.box 2 rfl)⟩, (Go.Wk.at_nil _ _)⟩ (by kernel_rfl) ?_
            refine HS.eff rfl (want_none) rfl (st_append te_22 hS (i := 1) rfl (cutIs hL_l.is n_1 (l.length : Int) ho_3.1 ho_3.2 (Int.le_refl _)) rfl rfl rfl (by intro a _ u hu; simp [e_api_Addr, encI, encN, encB, encT] at hu; rcases hu with rfl | rfl | rfl | rfl | rfl | rfl | rfl | rfl | rfl | rfl | rfl | rfl | rfl | rfl | rfl | rfl | rfl <;> rfl) ho_6 (by omega)) ?_
            rintro v_3 h_12 ⟨hS, hk⟩
            replace hS : St F_6 (Ow.own 27 17 e_api_Addr (.slice (some ⟨b_4, 0, none⟩) 1 1) ([a] : List T_api_Addr) :: Ow.own 27 17 e_api_Addr v_3 (((([] : List T_api_Addr) ++ (cut l 0 n_1)) ++ ([a] : List T_api_Addr)) ++ (cut l n_1 (l.length : Int))) :: Ow.box b_1 27 (e_api_Addr a).toArray :: fr) h_12 := hS
            replace hK := hK.trans hk
            replace hL_l := hL_l.kp hk
            refine HA.val (k := 12) (v := v_3) rfl rfl (by kernel_rfl) (by kernel_rfl) (want_none) rfl (fun _ ⟨hL_l, c203⟩ => q_assign rfl) ?_
            refine HA.nil ⟨⟨hL_l.is, (hS.box 2 rfl)⟩, (Go.Wk.at_nil _ _)⟩ (by kernel_rfl) (thenQ_normal (?_))
            refine HW.ret (?_)
            refine ⟨.inr rfl, v_3, res1 rfl (rt rfl), ?_⟩
            replace hS : St F_6 (Ow.own 27 17 e_api_Addr v_3 (((([] : List T_api_Addr) ++ (cut l 0 n_1)) ++ ([a] : List T_api_Addr)) ++ (cut l n_1 (l.length : Int))) :: Ow.own 27 17 e_api_Addr (.slice (some ⟨b_4, 0, none⟩) 1 1) ([a] : List T_api_Addr) :: Ow.box b_1 27 (e_api_Addr a).toArray :: fr) h_12 := hS.perm2 [1, 0, 2] 3 rfl rfl
            obtain ⟨F_7, hS, hk, hL_2⟩ := hS.freezeOwn
            replace hK := hK.trans hk
            replace hL_l := hL_l.kp hk
            replace hS : St F_7 (fr) h_12 := hS.perm2 [] 2 rfl rfl
            exact ⟨F_7, ((([] : List T_api_Addr) ++ (cut l 0 n_1)) ++ ([a] : List T_api_Addr)) ++ (cut l n_1 (l.length : Int)), v_3, rfl, hK, hS, hL_l, hL_2, hM⟩
        · refine HS.eff rfl (want_none) rfl (st_lit (enc := e_api_Addr) (cells := #[.bool a.1, .int .u8 (b8 a.2 0), .int .u8 (b8 a.2 1), .int .u8 (b8 a.2 2), .int .u8 (b8 a.2 3), .int .u8 (b8 a.2 4), .int .u8 (b8 a.2 5), .int .u8 (b8 a.2 6), .int .u8 (b8 a.2 7), .int .u8 (b8 a.2 8), .int .u8 (b8 a.2 9), .int .u8 (b8 a.2 10), .int .u8 (b8 a.2 11), .int .u8 (b8 a.2 12), .int .u8 (b8 a.2 13), .int .u8 (b8 a.2 14), .int .u8 (b8 a.2 15)]) #[.bool false, .int .u8 0, .int .u8 0, .int .u8 0, .int .u8 0, .int .u8 0, .int .u8 0, .int .u8 0, .int .u8 0, .int .u8 0, .int .u8 0, .int .u8 0, .int .u8 0, .int .u8 0, .int .u8 0, .int .u8 0, .int .u8 0] ([a] : List T_api_Addr) hS tl_22 (by decide) (by decide) (by kernel_rfl) (by kernel_rfl) rfl (by intro x hx; rfl) rfl) ?_
          rintro _ h_8 ⟨b_3, rfl, hS, hk⟩
          replace hK := hK.trans hk
          replace hL_l := hL_l.kp hk
          refine HA.one (k := 0) ⟨⟨hL_l.is, (hS.box 1 rfl)⟩, (Go.Wk.at_nil _ _)⟩ (by kernel_rfl) ?_
          refine HS.eff rfl (want_none) rfl (st_litEmpty (α := T_api_Addr) e_api_Addr hS tl_22) ?_
          rintro _ h_9 ⟨b_4, rfl, hS, hk⟩
          replace hK := hK.trans hk
          replace hL_l := hL_l.kp hk
          refine HA.one (k := 4) ⟨⟨hL_l.is, (hS.box 2 rfl)⟩, (Go.Wk.at_nil _ _)⟩ (by kernel_rfl) ?_
          refine HS.eff rfl (want_none) rfl (st_append te_22 hS (i := 0) rfl (cutIs hL_l.is 0 n_1 (Int.le_refl _) ho_3.1 ho_3.2) rfl rfl rfl (by intro a _ u hu; simp [e_api_Addr, encI, encN, encB, encT] at hu; rcases hu with rfl | rfl | rfl | rfl | rfl | rfl | rfl | rfl | rfl | rfl | rfl | rfl | rfl | rfl | rfl | rfl | rfl <;> rfl) ho_4 (by omega)) ?_
          rintro v_1 h_10 ⟨hS, hk⟩
          replace hS : St F_6 (Ow.own 27 17 e_api_Addr v_1 (([] : List T_api_Addr) ++ (cut l 0 n_1)) :: Ow.own 27 17 e_api_Addr (.slice (some ⟨b_3, 0, none⟩) 1 1) ([a] : List T_api_Addr) :: Ow.box b_1 27 (e_api_Addr a).toArray :: fr) h_10 := hS
          replace hK := hK.trans hk
          replace hL_l := hL_l.kp hk
          refine HA.one (k := 7) ⟨⟨hL_l.is, (hS.box 2 rfl)⟩, (Go.Wk.at_nil _ _)⟩ (by kernel_rfl) ?_
          refine HS.eff rfl (want_none) rfl (st_append te_22 hS (i := 0) rfl (hS.own 1 rfl).slice rfl rfl rfl (by intro a _ u hu; simp [e_api_Addr, encI, encN, encB, encT] at hu; rcases hu with rfl | rfl | rfl | rfl | rfl | rfl | rfl | rfl | rfl | rfl | rfl | rfl | rfl | rfl | rfl | rfl | rfl <;> rfl) ho_5 (by omega)) ?_
          rintro v_2 h_11 ⟨hS, hk⟩
          replace hS : St F_6 (Ow.own 27 17 e_api_Addr v_2 ((([] : List T_api_Addr) ++ (cut l 0 n_1)) ++ ([a] : List T_api_Addr)) :: Ow.own 27 17 e_api_Addr (.slice (some ⟨b_3, 0, none⟩) 1 1) ([a] : List T_api_Addr) :: Ow.box b_1 27 (e_api_Addr a).toArray :: fr) h_11 := hS
          replace hK := hK.trans hk
          replace hL_l := hL_l.kp hk
          refine HA.one (k := 11) ⟨⟨hL_l.is, (hS.box 2 rfl)⟩, (Go.Wk.at_nil _ _)⟩ (by kernel_rfl) ?_
          refine HS.eff rfl (want_none) rfl (st_append te_22 hS (i := 0) rfl (cutIs hL_l.is n_1 (l.length : Int) ho_3.1 ho_3.2 (Int.le_refl _)) rfl rfl rfl (by intro a _ u hu; simp [e_api_Addr, encI, encN, encB, encT] at hu; rcases hu with rfl | rfl | rfl | rfl | rfl | rfl | rfl | rfl | rfl | rfl | rfl | rfl | rfl | rfl | rfl | rfl | rfl <;> rfl) ho_6 (by omega)) ?_
          rintro v_3 h_12 ⟨hS, hk⟩
          replace hS : St F_6 (Ow.own 27 17 e_api_Addr v_3 (((([] : List T_api_Addr) ++ (cut l 0 n_1)) ++ ([a] : List T_api_Addr)) ++ (cut l n_1 (l.length : Int))) :: Ow.own 27 17 e_api_Addr (.slice (some ⟨b_3, 0, none⟩) 1 1) ([a] : List T_api_Addr) :: Ow.box b_1 27 (e_api_Addr a).toArray :: fr) h_12 := hS
          replace hK := hK.trans hk
          replace hL_l := hL_l.kp hk
          refine HA.val (k := 12) (v := v_3) rfl rfl (by kernel_rfl) (by kernel_rfl) (want_none) rfl (fun _ ⟨hL_l, c203⟩ => q_assign rfl) ?_
          refine HA.nil ⟨⟨hL_l.is, (hS.box 2 rfl)⟩, (Go.Wk.at_nil _ _)⟩ (by kernel_rfl) (thenQ_normal (?_))
          refine HW.ret (?_)
          refine ⟨.inr rfl, v_3, res1 rfl (rt rfl), ?_⟩
          obtain ⟨F_7, hS, hk, hL_2⟩ := hS.freezeOwn
          replace hK := hK.trans hk
          replace hL_l := hL_l.kp hk
          replace hS : St F_7 (fr) h_12 := hS.perm2 [] 2 rfl rfl
          exact ⟨F_7, ((([] : List T_api_Addr) ++ (cut l 0 n_1)) ++ ([a] : List T_api_Addr)) ++ (cut l n_1 (l.length : Int)), v_3, rfl, hK, hS, hL_l, hL_2, hM⟩

def ref11_Of_l1 (l : List T_api_Addr) (Q : (List T_api_Addr) → Prop) (K_1 : (List T_api_Addr) → Int → Prop) (out_1 : List T_api_Addr) (i_1 : Int) : Prop :=
  (i_1 < (l.length : Int) → ((0 : Int) ≤ i_1 ∧ i_1 < (l.length : Int)) ∧ (ref11_Add_W out_1 (gi l i_1) (fun r_2 => (I64 (i_1 + 1)) ∧ (K_1 r_2 (i_1 + 1))))) ∧ (¬ (i_1 < (l.length : Int)) → Q out_1)
def ref11_Of_W (l : List T_api_Addr) (Q : (List T_api_Addr) → Prop) : Prop :=
  loopW (fun (K_1 : (List T_api_Addr × Int) → Prop) (s : List T_api_Addr × Int) => ref11_Of_l1 l Q (fun out_1 i_1 => K_1 (out_1, i_1)) s.1 s.2) ([], 0)
set_option maxHeartbeats 40000000 in
set_option maxRecDepth 100000 in
theorem ref11_Of_walk {F : Fz} {fr : List Ow} {h0 : Heap} (l : List T_api_Addr) (vl : Value) (hS : St F (fr) h0) (hL_l : SliceF F h0 17 e_api_Addr vl l) {Q : (List T_api_Addr) → Prop} (hM : ref11_Of_W l Q) :
    HC Tryd.prog 28 #[vl] h0 fun u h' => ∃ (F' : Fz) (r_1 : List T_api_Addr) (vr_1 : Value), u = vr_1 ∧ Kp F h0 F' h' ∧ St F' (fr) h' ∧ (SliceF F' h' 17 e_api_Addr vl l) ∧ (SliceF F' h' 17 e_api_Addr vr_1 r_1) ∧ Q r_1 := by
  unfold ref11_Of_W at hM
  have hK := Kp.refl F h0
  refine HC.of_HW (n := 19) Tryd.func28 rfl rfl (Nat.le_of_ble_eq_true rfl) ?_
  refine HW.seq ?_
  refine HW.region ?_
  refine HO.val (v := .slice none 0 0) (want_none) rfl (q_assign rfl) ?_
  refine HO.nil (thenQ_normal (?_))
  refine HW.seq ?_
  refine HW.region ?_
  refine HO.eff (want_none) rfl (st_litEmpty (α := T_api_Addr) e_api_Addr hS tl_22) ?_
  rintro _ h_1 ⟨b_1, rfl, hS, hk⟩
  replace hK := hK.trans hk
  replace hL_l := hL_l.kp hk
  refine HO.val (v := .slice (some ⟨b_1, 0, none⟩) 0 0) (want_none) rfl (q_assign rfl) ?_
  refine HO.nil (thenQ_normal (?_))
  refine HW.seq ?_
  refine HW.seq ?_
  refine HW.region ?_
  refine HO.val (v := .int .i64 0) (want_none) rfl (q_assign rfl) ?_
  refine HO.nil (thenQ_normal (?_))
  refine HW.block ?_
  obtain ⟨I_1, m_1, hI_1, hR_1⟩ := hM
  obtain ⟨F_1, hS, hk, hL_3⟩ := hS.freezeOwn
  replace hK := hK.trans hk
  replace hL_l := hL_l.kp hk
  refine HW.loop (S := List T_api_Addr × Int) (fun s f h => match s with | (out_1, i_1) => ∃ (F' : Fz) (vout_1 : Value), f 0 = vl ∧ f 2 = .slice none 0 0 ∧ f 3 = vout_1 ∧ f 4 = .int .i64 i_1 ∧ Kp F h0 F' h ∧ St F' (fr) h ∧ (SliceF F' h 17 e_api_Addr vl l) ∧ (SliceF F' h 17 e_api_Addr vout_1 out_1) ∧ I_1 (out_1, i_1)) m_1 ([], 0) ⟨F_1, .slice (some ⟨b_1, 0, none⟩) 0 0, rfl, rfl, rfl, rfl, hK, hS, hL_l, hL_3, hI_1⟩ ?_
  rintro ⟨out_1, i_1⟩ f_1 h_2 ⟨F_2, vout_1, e0, e2, e3, e4, hK, hS, hL_l, hL_2, hI0⟩
  obtain ⟨K_1, hKe_1⟩ : ∃ K : (List T_api_Addr) → Int → Prop, K = fun out_1' i_1' => I_1 (out_1', i_1') ∧ m_1 (out_1', i_1') < m_1 (out_1, i_1) := ⟨_, rfl⟩
  have hM : ref11_Of_l1 l Q K_1 out_1 i_1 := by rw [hKe_1]; exact hR_1 (out_1, i_1) hI0
  unfold ref11_Of_l1 at hM
  refine HW.fr [(0, vl), (2, .slice none 0 0), (3, vout_1), (4, .int .i64 i_1)] ⟨e0, e2, e3, e4, trivial⟩ ?_
  refine HW.seq ?_
  refine HW.seq ?_
  refine HW.region ?_
  refine HO.val (v := .int .i64 i_1) (want_none) rfl (q_move rfl) ?_
  refine HO.val (v := vl) (want_none) rfl (q_move rfl) ?_
  refine HO.val (v := .int .i64 (l.length : Int)) (want_none) rfl (q_len ts_22 (shp hL_l.is) rfl rfl) ?_
  refine HO.val (v := .bool (decide (i_1 < (l.length : Int)))) (want_none) rfl (q_lss rfl rfl) ?_
  refine HO.nil (thenQ_normal (?_))
  refine HW.cond (decide (i_1 < (l.length : Int))) rfl (fun c_1 => ?_) (fun c_1 => ?_)
  · replace hM := hM.1 (of_decide_eq_true c_1)
    refine HW.skip (thenQ_normal (?_))
    refine HW.seq ?_
    refine HW.block ?_
    refine HW.region ?_
    refine HO.val (v := vout_1) (want_none) rfl (q_move rfl) ?_
    refine HO.val (v := vl) (want_none) rfl (q_move rfl) ?_
    refine HO.val (v := .int .i64 i_1) (want_none) rfl (q_move rfl) ?_
    obtain ⟨ho_1, hM⟩ := hM
    refine HO.val (v := elemPtr 17 vl (i_1).toNat) (want_none) rfl (q_idx ts_22 hL_l.is rfl rfl ho_1) ?_
    refine HO.val (v := .agg (e_api_Addr (gi l i_1)).toArray) (want_none) rfl (q_ldElemAgg (cs := (e_api_Addr (gi l i_1))) ta_27 hL_l.is rfl ho_1 rfl) ?_
    refine HO.call (want_none) rfl (ec en_53 rfl rfl) (ref11_Add_walk (fr := (fr)) out_1 (gi l i_1) vout_1 hS hL_2 hM) ?_
    rintro vr_2 h_3 ⟨F_3, r_2, _, rfl, hk, hS, _, hL_4, hM⟩
    replace hK := hK.trans hk
    replace hL_l := hL_l.kp hk
    replace hL_2 := hL_2.kp hk
    refine HO.val (v := vr_2) (want_none) rfl (q_assign rfl) ?_
    refine HO.nil (blockQ_normal (thenQ_normal (?_)))
    refine HW.region ?_
    refine HO.val (v := .int .i64 i_1) (want_none) rfl (q_move rfl) ?_
    obtain ⟨ho_2, hM⟩ := hM
    refine HO.val (v := .int .i64 (i_1 + 1)) (want_none) rfl (q_addN _ rfl rfl rfl ho_2.1 ho_2.2) ?_
    refine HO.val (v := .int .i64 (i_1 + 1)) (want_none) rfl (q_assign rfl) ?_
    refine HO.nil (thenQ_normal (?_))
    rw [hKe_1] at hM
    exact ⟨(r_2, i_1 + 1), ⟨F_3, vr_2, rfl, rfl, rfl, rfl, hK, hS, hL_l, hL_4, hM.1⟩, hM.2⟩
  · replace hM := hM.2 (of_decide_eq_false c_1)
    refine HW.exit (thenQ_exit (thenQ_exit (blockQ_exit (thenQ_normal (?_)))))
    refine HW.seq ?_
    refine HW.region ?_
    refine HO.val (v := vout_1) (want_none) rfl (q_move rfl) ?_
    refine HO.val (v := vout_1) (want_none) rfl (q_assign rfl) ?_
    refine HO.nil (thenQ_normal (?_))
    refine HW.ret (?_)
    refine ⟨.inr rfl, vout_1, res1 rfl (rt rfl), ?_⟩
    exact ⟨F_2, out_1, vout_1, rfl, hK, hS, hL_l, hL_2, hM⟩

def ref19_Own_W (f_Exclude : Bool) (f_Sources : List T_api_Addr) (Q : Bool → (List T_api_Addr) → Prop) : Prop :=
  ref11_Of_W f_Sources (fun r_1 => Q f_Exclude r_1)
set_option maxHeartbeats 40000000 in
set_option maxRecDepth 100000 in
theorem ref19_Own_walk {F : Fz} {fr : List Ow} {h0 : Heap} (f_Exclude : Bool) (f_Sources : List T_api_Addr) (vf_Sources : Value) (hS : St F (fr) h0) (hL_f_Sources : SliceF F h0 17 e_api_Addr vf_Sources f_Sources) {Q : Bool → (List T_api_Addr) → Prop} (hM : ref19_Own_W f_Exclude f_Sources Q) :
    HC Tryd.prog 47 #[.agg #[.bool f_Exclude, vf_Sources]] h0 fun u h' => ∃ (F' : Fz) (r_0_1 : Bool) (r_1_1 : List T_api_Addr) (vr_1_1 : Value), u = .agg #[.bool r_0_1, vr_1_1] ∧ Kp F h0 F' h' ∧ St F' (fr) h' ∧ (SliceF F' h' 17 e_api_Addr vf_Sources f_Sources) ∧ (SliceF F' h' 17 e_api_Addr vr_1_1 r_1_1) ∧ Q r_0_1 r_1_1 := by
  unfold ref19_Own_W at hM
  have hK := Kp.refl F h0
  refine HC.of_HW (n := 9) Tryd.func47 rfl rfl (Nat.le_of_ble_eq_true rfl) ?_
  refine HW.seq ?_
  refine HW.region ?_
  refine HO.eff (want_none) rfl (st_box (c := #[.bool f_Exclude, vf_Sources]) (k' := 2) hS rfl rfl) ?_
  rintro _ h_1 ⟨b_1, rfl, hS, hk⟩
  replace hK := hK.trans hk
  replace hL_f_Sources := hL_f_Sources.kp hk
  refine HO.eff (want_none) rfl (st_alloc (c := #[.bool false, .slice none 0 0]) hS tz_24 rfl) ?_
  rintro _ h_2 ⟨b_2, rfl, hS, hk⟩
  replace hK := hK.trans hk
  replace hL_f_Sources := hL_f_Sources.kp hk
  refine HO.nil (thenQ_normal (?_))
  refine HW.seq ?_
  refine HW.regionA 7 mixed (fun h => (Blk h b_1 (.cells #[.bool f_Exclude, vf_Sources] 24 (0, 0)))) [] (by kernel_rfl) ?_
  refine HA.val (k := 0) (v := .pointer (some ⟨b_1, 0, none⟩)) rfl rfl (by kernel_rfl) (by kernel_rfl) (want_none) rfl (fun _ c201 => q_fieldAddr fa_24_0 rfl rfl) ?_
  refine HA.val (k := 1) (v := .bool f_Exclude) rfl rfl (by kernel_rfl) (by kernel_rfl) (want_none) rfl (fun _ c201 => q_load to_4 rfl (Blk.cell c201 rfl)) ?_
  refine HA.val (k := 2) (v := .pointer (some ⟨b_1, 1, none⟩)) rfl rfl (by kernel_rfl) (by kernel_rfl) (want_none) rfl (fun _ c201 => q_fieldAddr fa_24_1 rfl rfl) ?_
  refine HA.val (k := 3) (v := vf_Sources) rfl rfl (by kernel_rfl) (by kernel_rfl) (want_none) rfl (fun _ c201 => q_load to_22 rfl (Blk.cell c201 rfl)) ?_
  refine HA.one (k := 4) ⟨(hS.box 1 rfl), (Go.Wk.at_nil _ _)⟩ (by kernel_rfl) ?_
  refine HS.call rfl (want_none) rfl (ec en_28 rfl rfl) (ref11_Of_walk (fr := (Ow.box b_2 24 #[.bool false, .slice none 0 0] :: Ow.box b_1 24 #[.bool f_Exclude, vf_Sources] :: fr)) f_Sources vf_Sources hS hL_f_Sources hM) ?_
  rintro vr_1 h_3 ⟨F_1, r_1, _, rfl, hk, hS, _, hL_2, hM⟩
  replace hK := hK.trans hk
  replace hL_f_Sources := hL_f_Sources.kp hk
  refine Go.Wk.HA.re (fun h => (SliceIs h 17 e_api_Addr vr_1 r_1) ∧ (Blk h b_1 (.cells #[.bool f_Exclude, vf_Sources] 24 (0, 0)))) [] (fun L_ h_ hL_ ⟨hL_2, c201⟩ hs_ => ⟨c201, (Go.Wk.at_nil _ _)⟩) ?_
  refine HA.val (k := 5) (v := .agg #[.bool f_Exclude, vr_1]) rfl rfl (by kernel_rfl) (by kernel_rfl) (want_none) rfl (fun _ ⟨hL_2, c201⟩ => q_build tp_24 (fill_cons (cs' := #[.bool f_Exclude, .slice none 0 0]) (vc := #[.bool f_Exclude]) rfl rfl rfl (Nat.le_of_ble_eq_true rfl) rfl (fill_cons (cs' := #[.bool f_Exclude, vr_1]) (vc := #[vr_1]) rfl (shp hL_2).cells rfl (Nat.le_of_ble_eq_true rfl) rfl rfl))) ?_
  refine HA.one (k := 6) ⟨⟨hL_2.is, (hS.box 1 rfl)⟩, (Go.Wk.at_nil _ _)⟩ (by kernel_rfl) ?_
  refine HS.sto rfl (want_none) rfl (st_storeAgg (c' := #[.bool f_Exclude, vr_1]) hS (i := 0) rfl ta_24 rfl rfl rfl (List.forall_mem_cons.2 ⟨rfl, (List.forall_mem_cons.2 ⟨(shp hL_2.is).one, (fun _ h => by cases h)⟩)⟩) (Nat.le_of_ble_eq_true rfl) rfl) ?_
  rintro h_4 ⟨hS, hk⟩
  replace hS : St F_1 (Ow.box b_2 24 #[.bool f_Exclude, vr_1] :: Ow.box b_1 24 #[.bool f_Exclude, vf_Sources] :: fr) h_4 := hS
  replace hK := hK.trans hk
  replace hL_f_Sources := hL_f_Sources.kp hk
  replace hL_2 := hL_2.kp hk
  refine HA.nil ⟨⟨hL_2.is, (hS.box 1 rfl)⟩, (Go.Wk.at_nil _ _)⟩ (by kernel_rfl) (thenQ_normal (?_))
  refine HW.ret (?_)
  refine ⟨.inr rfl, .agg #[.bool f_Exclude, vr_1], res1 rfl (rca (cs := [.bool f_Exclude, vr_1]) ta_24 rfl rfl (Blk.cells (k := 2) (hS.box 0 rfl) rfl)), ?_⟩
  replace hS : St F_1 (fr) h_4 := hS.perm2 [] 2 rfl rfl
  exact ⟨F_1, f_Exclude, r_1, vr_1, rfl, hK, hS, hL_f_Sources, hL_2, hM⟩

def law19_Few_W (f_Exclude : Bool) (f_Sources : List T_api_Addr) (Q : Bool → (List T_api_Addr) → Prop) : Prop :=
  law08_Addrs_W f_Sources 6 (fun r_1 => ref19_Own_W f_Exclude r_1 (fun r_0_2 r_1_2 => Q r_0_2 r_1_2))
set_option maxHeartbeats 40000000 in
set_option maxRecDepth 100000 in
theorem law19_Few_walk {F : Fz} {fr : List Ow} {h0 : Heap} (f_Exclude : Bool) (f_Sources : List T_api_Addr) (vf_Sources : Value) (hS : St F (fr) h0) (hL_f_Sources : SliceF F h0 17 e_api_Addr vf_Sources f_Sources) {Q : Bool → (List T_api_Addr) → Prop} (hM : law19_Few_W f_Exclude f_Sources Q) :
    HC Tryd.prog 9 #[.agg #[.bool f_Exclude, vf_Sources]] h0 fun u h' => ∃ (F' : Fz) (r_0_1 : Bool) (r_1_1 : List T_api_Addr) (vr_1_1 : Value), u = .agg #[.bool r_0_1, vr_1_1] ∧ Kp F h0 F' h' ∧ St F' (fr) h' ∧ (SliceF F' h' 17 e_api_Addr vf_Sources f_Sources) ∧ (SliceF F' h' 17 e_api_Addr vr_1_1 r_1_1) ∧ Q r_0_1 r_1_1 := by
  unfold law19_Few_W at hM
  have hK := Kp.refl F h0
  refine HC.of_HW (n := 10) Tryd.func9 rfl rfl (Nat.le_of_ble_eq_true rfl) ?_
  refine HW.seq ?_
  refine HW.region ?_
  refine HO.eff (want_none) rfl (st_box (c := #[.bool f_Exclude, vf_Sources]) (k' := 2) hS rfl rfl) ?_
  rintro _ h_1 ⟨b_1, rfl, hS, hk⟩
  replace hK := hK.trans hk
  replace hL_f_Sources := hL_f_Sources.kp hk
  refine HO.eff (want_none) rfl (st_alloc (c := #[.bool false, .slice none 0 0]) hS tz_24 rfl) ?_
  rintro _ h_2 ⟨b_2, rfl, hS, hk⟩
  replace hK := hK.trans hk
  replace hL_f_Sources := hL_f_Sources.kp hk
  refine HO.nil (thenQ_normal (?_))
  refine HW.seq ?_
  refine HW.regionA 8 mixed (fun h => (Blk h b_1 (.cells #[.bool f_Exclude, vf_Sources] 24 (0, 0)))) [] (by kernel_rfl) ?_
  refine HA.val (k := 0) (v := .pointer (some ⟨b_1, 0, none⟩)) rfl rfl (by kernel_rfl) (by kernel_rfl) (want_none) rfl (fun _ c201 => q_fieldAddr fa_24_0 rfl rfl) ?_
  refine HA.val (k := 1) (v := .bool f_Exclude) rfl rfl (by kernel_rfl) (by kernel_rfl) (want_none) rfl (fun _ c201 => q_load to_4 rfl (Blk.cell c201 rfl)) ?_
  refine HA.val (k := 2) (v := .pointer (some ⟨b_1, 1, none⟩)) rfl rfl (by kernel_rfl) (by kernel_rfl) (want_none) rfl (fun _ c201 => q_fieldAddr fa_24_1 rfl rfl) ?_
  refine HA.val (k := 3) (v := vf_Sources) rfl rfl (by kernel_rfl) (by kernel_rfl) (want_none) rfl (fun _ c201 => q_load to_22 rfl (Blk.cell c201 rfl)) ?_
  refine HA.one (k := 4) ⟨(hS.box 1 rfl), (Go.Wk.at_nil _ _)⟩ (by kernel_rfl) ?_
  refine HS.call rfl (want_none) rfl (ec en_25 rfl rfl) (law08_Addrs_walk (fr := (Ow.box b_2 24 #[.bool false, .slice none 0 0] :: Ow.box b_1 24 #[.bool f_Exclude, vf_Sources] :: fr)) f_Sources 6 vf_Sources hS hL_f_Sources hM) ?_
  rintro vr_1 h_3 ⟨F_1, r_1, _, rfl, hk, hS, _, hM⟩
  replace hK := hK.trans hk
  replace hL_f_Sources := hL_f_Sources.kp hk
  refine Go.Wk.HA.re (fun h => (Blk h b_1 (.cells #[.bool f_Exclude, vf_Sources] 24 (0, 0)))) [(6, fun h => (OwnIs h 0 27 17 e_api_Addr vr_1 r_1))] (fun L_ h_ hL_ c201 hs_ => ⟨c201, (Go.Wk.at_nil _ _)⟩) ?_
  refine Go.Wk.HA.valN (k := 5) (v := .agg #[.bool f_Exclude, vr_1]) 0 6 (fun h => (OwnIs h 0 27 17 e_api_Addr vr_1 r_1)) rfl rfl (by kernel_rfl) (by kernel_rfl) (want_none) rfl rfl (by kernel_rfl) (fun _ c201 c227 => q_build tp_24 (fill_cons (cs' := #[.bool f_Exclude, .slice none 0 0]) (vc := #[.bool f_Exclude]) rfl rfl rfl (Nat.le_of_ble_eq_true rfl) rfl (fill_cons (cs' := #[.bool f_Exclude, vr_1]) (vc := #[vr_1]) rfl (shp c227.slice).cells rfl (Nat.le_of_ble_eq_true rfl) rfl rfl))) ?_
  refine HA.one (k := 6) ⟨(hS.box 2 rfl), (at_now (hS.own 0 rfl) (Go.Wk.at_nil _ _))⟩ (by kernel_rfl) ?_
  obtain ⟨F_2, hS, hk, hL_2⟩ := hS.freezeOwn
  replace hK := hK.trans hk
  replace hL_f_Sources := hL_f_Sources.kp hk
  refine HS.call rfl (want_none) rfl (ec en_47 rfl rfl) (ref19_Own_walk (fr := (Ow.box b_2 24 #[.bool false, .slice none 0 0] :: Ow.box b_1 24 #[.bool f_Exclude, vf_Sources] :: fr)) f_Exclude r_1 vr_1 hS hL_2 hM) ?_
  rintro _ h_4 ⟨F_3, r_0_2, r_1_2, vr_1_2, rfl, hk, hS, _, hL_3, hM⟩
  replace hK := hK.trans hk
  replace hL_f_Sources := hL_f_Sources.kp hk
  replace hL_2 := hL_2.kp hk
  refine HA.one (k := 7) ⟨(hS.box 1 rfl), (at_done (by kernel_rfl) (Go.Wk.at_nil _ _))⟩ (by kernel_rfl) ?_
  refine HS.sto rfl (want_none) rfl (st_storeAgg (c' := #[.bool r_0_2, vr_1_2]) hS (i := 0) rfl ta_24 rfl rfl rfl (List.forall_mem_cons.2 ⟨rfl, (List.forall_mem_cons.2 ⟨(shp hL_3.is).one, (fun _ h => by cases h)⟩)⟩) (Nat.le_of_ble_eq_true rfl) rfl) ?_
  rintro h_5 ⟨hS, hk⟩
  replace hS : St F_3 (Ow.box b_2 24 #[.bool r_0_2, vr_1_2] :: Ow.box b_1 24 #[.bool f_Exclude, vf_Sources] :: fr) h_5 := hS
  replace hK := hK.trans hk
  replace hL_f_Sources := hL_f_Sources.kp hk
  replace hL_2 := hL_2.kp hk
  replace hL_3 := hL_3.kp hk
  refine HA.nil ⟨(hS.box 1 rfl), (at_done (by kernel_rfl) (Go.Wk.at_nil _ _))⟩ (by kernel_rfl) (thenQ_normal (?_))
  refine HW.ret (?_)
  refine ⟨.inr rfl, .agg #[.bool r_0_2, vr_1_2], res1 rfl (rca (cs := [.bool r_0_2, vr_1_2]) ta_24 rfl rfl (Blk.cells (k := 2) (hS.box 0 rfl) rfl)), ?_⟩
  replace hS : St F_3 (fr) h_5 := hS.perm2 [] 2 rfl rfl
  exact ⟨F_3, r_0_2, r_1_2, vr_1_2, rfl, hK, hS, hL_f_Sources, hL_3, hM⟩

def slices_Clone_s_api_Addr_api_Addr_W (s1 : List T_api_Addr) (Q : (List T_api_Addr) → Prop) : Prop :=
  (s1 = [] → Q []) ∧ (True → ((([] : List T_api_Addr).length + s1.length) * 17 ≤ 140737488355328) ∧ (Q (([] : List T_api_Addr) ++ s1)))
set_option maxHeartbeats 40000000 in
set_option maxRecDepth 100000 in
theorem slices_Clone_s_api_Addr_api_Addr_walk {F : Fz} {fr : List Ow} {h0 : Heap} (s1 : List T_api_Addr) (vs : Value) (hS : St F (fr) h0) (hL_s1 : SliceF F h0 17 e_api_Addr vs s1) {Q : (List T_api_Addr) → Prop} (hM : slices_Clone_s_api_Addr_api_Addr_W s1 Q) :
    HC Tryd.prog 48 #[vs] h0 fun u h' => ∃ (F' : Fz) (r_1 : List T_api_Addr) (vr_1 : Value), u = vr_1 ∧ Kp F h0 F' h' ∧ St F' (Ow.own 27 17 e_api_Addr vr_1 r_1 :: fr) h' ∧ (SliceF F' h' 17 e_api_Addr vs s1) ∧ Q r_1 := by
  unfold slices_Clone_s_api_Addr_api_Addr_W at hM
  have hK := Kp.refl F h0
  refine HC.of_HW (n := 8) Tryd.func48 rfl rfl (Nat.le_of_ble_eq_true rfl) ?_
  refine HW.seq ?_
  refine HW.region ?_
  refine HO.val (v := .slice none 0 0) (want_none) rfl (q_assign rfl) ?_
  refine HO.nil (thenQ_normal (?_))
  refine HW.seq ?_
  refine HW.seq ?_
  refine HW.region ?_
  refine HO.val (v := vs) (want_none) rfl (q_move rfl) ?_
  refine HO.val (v := .bool (isNil vs)) (want_none) rfl (q_eqlSnil Tryd.underlying22 (shp hL_s1.is) rfl rfl) ?_
  refine HO.nil (thenQ_normal (?_))
  refine HW.cond (isNil vs) rfl (fun c_1 => ?_) (fun c_1 => ?_)
  · replace hM := hM.1 (isNil_nil hL_s1.is c_1)
    refine HW.seq ?_
    refine HW.region ?_
    refine HO.val (v := .slice none 0 0) (want_none) rfl (q_assign rfl) ?_
    refine HO.nil (thenQ_normal (?_))
    refine HW.ret (thenQ_ret (?_))
    refine ⟨.inr rfl, .slice none 0 0, res1 rfl (rt rfl), ?_⟩
    replace hS := hS.nilOwn 27 17 e_api_Addr
    exact ⟨F, [], .slice none 0 0, rfl, hK, hS, hL_s1, hM⟩
  · replace hM := hM.2 trivial
    refine HW.skip (thenQ_normal (?_))
    refine HW.seq ?_
    refine HW.region ?_
    refine HO.eff (want_none) rfl (st_litEmpty (α := T_api_Addr) e_api_Addr hS tl_22) ?_
    rintro _ h_1 ⟨b_1, rfl, hS, hk⟩
    replace hK := hK.trans hk
    replace hL_s1 := hL_s1.kp hk
    refine HO.val (v := vs) (want_none) rfl (q_move rfl) ?_
    obtain ⟨ho_1, hM⟩ := hM
    refine HO.eff (want_none) rfl (st_append te_22 hS (i := 0) rfl hL_s1.is rfl rfl rfl (by intro a _ u hu; simp [e_api_Addr, encI, encN, encB, encT] at hu; rcases hu with rfl | rfl | rfl | rfl | rfl | rfl | rfl | rfl | rfl | rfl | rfl | rfl | rfl | rfl | rfl | rfl | rfl <;> rfl) ho_1 (by omega)) ?_
    rintro v_1 h_2 ⟨hS, hk⟩
    replace hS : St F (Ow.own 27 17 e_api_Addr v_1 (([] : List T_api_Addr) ++ s1) :: fr) h_2 := hS
    replace hK := hK.trans hk
    replace hL_s1 := hL_s1.kp hk
    refine HO.val (v := v_1) (want_none) rfl (q_assign rfl) ?_
    refine HO.nil (thenQ_normal (?_))
    refine HW.ret (?_)
    refine ⟨.inr rfl, v_1, res1 rfl (rt rfl), ?_⟩
    exact ⟨F, ([] : List T_api_Addr) ++ s1, v_1, rfl, hK, hS, hL_s1, hM⟩

def srcs_walk_1_api_Addr_W (x : T_api_Addr) (is : Bool) (c0_v : List T_api_Addr) (Q : (List T_api_Addr) → Prop) : Prop :=
  (is = true → ((c0_v.length + ([x] : List T_api_Addr).length) * 17 ≤ 140737488355328) ∧ (Q (c0_v ++ ([x] : List T_api_Addr)))) ∧ (is = false → Q c0_v)
set_option maxHeartbeats 40000000 in
set_option maxRecDepth 100000 in
theorem srcs_walk_1_api_Addr_walk {F : Fz} {fr : List Ow} {h0 : Heap} (x : T_api_Addr) (is : Bool) (c0_v : List T_api_Addr) (bc0 : Nat) (vc0_v : Value) (hS : St F (Ow.box bc0 22 #[vc0_v] :: Ow.own 27 17 e_api_Addr vc0_v c0_v :: fr) h0)  {Q : (List T_api_Addr) → Prop} (hM : srcs_walk_1_api_Addr_W x is c0_v Q) :
    HC Tryd.prog 77 #[.agg (e_api_Addr x).toArray, .bool is, .pointer (some ⟨bc0, 0, none⟩)] h0 fun u h' => ∃ (F' : Fz) (a2_0_2 : List T_api_Addr) (v_1 : Value), u = .tuple #[] ∧ Kp F h0 F' h' ∧ St F' (Ow.box bc0 22 #[v_1] :: Ow.own 27 17 e_api_Addr v_1 a2_0_2 :: fr) h' ∧ Q a2_0_2 := by
  unfold srcs_walk_1_api_Addr_W at hM
  have hK := Kp.refl F h0
  refine HC.of_HW (n := 10) Tryd.func77 rfl rfl (Nat.le_of_ble_eq_true rfl) ?_
  refine HW.seq ?_
  refine HW.region ?_
  refine HO.eff (want_none) rfl (st_box (c := (e_api_Addr x).toArray) (k' := 17) hS rfl rfl) ?_
  rintro _ h_1 ⟨b_1, rfl, hS, hk⟩
  replace hK := hK.trans hk
  refine HO.nil (thenQ_normal (?_))
  refine HW.seq ?_
  refine HW.region ?_
  refine HO.val (v := .bool is) (want_none) rfl (q_move rfl) ?_
  refine HO.nil (thenQ_normal (?_))
  refine HW.cond is rfl (fun c_1 => ?_) (fun c_1 => ?_)
  · replace hM := hM.1 c_1
    refine HW.region ?_
    refine HO.val (v := vc0_v) (want_none) rfl (q_load to_22 rfl (Blk.cell (hS.box 1 rfl) rfl)) ?_
    refine HO.val (v := .agg (e_api_Addr x).toArray) (want_none) rfl (q_loadAgg (cs := (e_api_Addr x)) ta_27 rfl rfl (Blk.cells (k := 17) (hS.box 0 rfl) rfl)) ?_
    refine HO.eff (want_none) rfl (st_lit (enc := e_api_Addr) (cells := #[.bool x.1, .int .u8 (b8 x.2 0), .int .u8 (b8 x.2 1), .int .u8 (b8 x.2 2), .int .u8 (b8 x.2 3), .int .u8 (b8 x.2 4), .int .u8 (b8 x.2 5), .int .u8 (b8 x.2 6), .int .u8 (b8 x.2 7), .int .u8 (b8 x.2 8), .int .u8 (b8 x.2 9), .int .u8 (b8 x.2 10), .int .u8 (b8 x.2 11), .int .u8 (b8 x.2 12), .int .u8 (b8 x.2 13), .int .u8 (b8 x.2 14), .int .u8 (b8 x.2 15)]) #[.bool false, .int .u8 0, .int .u8 0, .int .u8 0, .int .u8 0, .int .u8 0, .int .u8 0, .int .u8 0, .int .u8 0, .int .u8 0, .int .u8 0, .int .u8 0, .int .u8 0, .int .u8 0, .int .u8 0, .int .u8 0, .int .u8 0] ([x] : List T_api_Addr) hS tl_22 (by decide) (by decide) (by kernel_rfl) (by kernel_rfl) rfl (by intro x hx; rfl) rfl) ?_
    rintro _ h_2 ⟨b_2, rfl, hS, hk⟩
    replace hK := hK.trans hk
    obtain ⟨ho_1, hM⟩ := hM
    refine HO.eff (want_none) rfl (st_append te_22 hS (i := 3) rfl (hS.own 0 rfl).slice rfl rfl rfl (by intro a _ u hu; simp [e_api_Addr, encI, encN, encB, encT] at hu; rcases hu with rfl | rfl | rfl | rfl | rfl | rfl | rfl | rfl | rfl | rfl | rfl | rfl | rfl | rfl | rfl | rfl | rfl <;> rfl) ho_1 (by omega)) ?_
    rintro v_2 h_3 ⟨hS, hk⟩
    replace hS : St F (Ow.own 27 17 e_api_Addr (.slice (some ⟨b_2, 0, none⟩) 1 1) ([x] : List T_api_Addr) :: Ow.box b_1 27 (e_api_Addr x).toArray :: Ow.box bc0 22 #[vc0_v] :: Ow.own 27 17 e_api_Addr v_2 (c0_v ++ ([x] : List T_api_Addr)) :: fr) h_3 := hS
    replace hK := hK.trans hk
    refine HO.sto (want_none) rfl (st_store (c' := #[v_2]) hS (i := 2) rfl to_22 rfl rfl (shp (hS.own 3 rfl).slice).cells (shp (hS.own 3 rfl).slice).one (Nat.le_of_ble_eq_true rfl) rfl) ?_
    rintro h_4 ⟨hS, hk⟩
    replace hS : St F (Ow.own 27 17 e_api_Addr (.slice (some ⟨b_2, 0, none⟩) 1 1) ([x] : List T_api_Addr) :: Ow.box b_1 27 (e_api_Addr x).toArray :: Ow.box bc0 22 #[v_2] :: Ow.own 27 17 e_api_Addr v_2 (c0_v ++ ([x] : List T_api_Addr)) :: fr) h_4 := hS
    replace hK := hK.trans hk
    refine HO.nil (?_)
    refine ⟨.inl rfl, .tuple #[], res0 rfl , ?_⟩
    replace hS : St F (Ow.box bc0 22 #[v_2] :: Ow.own 27 17 e_api_Addr v_2 (c0_v ++ ([x] : List T_api_Addr)) :: fr) h_4 := hS.perm2 [2, 3] 4 rfl rfl
    exact ⟨F, c0_v ++ ([x] : List T_api_Addr), v_2, rfl, hK, hS, hM⟩
  · replace hM := hM.2 c_1
    refine HW.skip (?_)
    refine ⟨.inl rfl, .tuple #[], res0 rfl , ?_⟩
    replace hS : St F (Ow.box bc0 22 #[vc0_v] :: Ow.own 27 17 e_api_Addr vc0_v c0_v :: fr) h_1 := hS.perm2 [1, 2] 3 rfl rfl
    exact ⟨F, c0_v, vc0_v, rfl, hK, hS, hM⟩

def srcs_walk_api_Addr_l3 (second : Bool) (Q : (List T_api_Addr) → Prop) (b_2 : List T_api_Addr) (K_3 : (List T_api_Addr) → Int → Prop) (out_0_3 : List T_api_Addr) (n_2 : Int) : Prop :=
  (n_2 < (b_2.length : Int) → ((0 : Int) ≤ n_2 ∧ n_2 < (b_2.length : Int)) ∧ (srcs_walk_1_api_Addr_W (gi b_2 n_2) second out_0_3 (fun a2_0_5 => (I64 (n_2 + 1)) ∧ (K_3 a2_0_5 (n_2 + 1))))) ∧ (¬ (n_2 < (b_2.length : Int)) → Q out_0_3)
def srcs_walk_api_Addr_l2 (first : Bool) (second : Bool) (Q : (List T_api_Addr) → Prop) (a_1 : List T_api_Addr) (b_2 : List T_api_Addr) (K_2 : (List T_api_Addr) → Int → Prop) (out_0_2 : List T_api_Addr) (n_1 : Int) : Prop :=
  (n_1 < (a_1.length : Int) → ((0 : Int) ≤ n_1 ∧ n_1 < (a_1.length : Int)) ∧ (srcs_walk_1_api_Addr_W (gi a_1 n_1) first out_0_2 (fun a2_0_4 => (I64 (n_1 + 1)) ∧ (K_2 a2_0_4 (n_1 + 1))))) ∧ (¬ (n_1 < (a_1.length : Int)) → loopW (fun (K_3 : (List T_api_Addr × Int) → Prop) (s : List T_api_Addr × Int) => srcs_walk_api_Addr_l3 second Q b_2 (fun out_0_3 n_2 => K_3 (out_0_3, n_2)) s.1 s.2) (out_0_2, 0))
def srcs_walk_api_Addr_j1 (cf_order : T_api_Addr → T_api_Addr → Int) (first : Bool) (both : Bool) (second : Bool) (Q : (List T_api_Addr) → Prop) (a_1 : List T_api_Addr) (b_2 : List T_api_Addr) (out_0_1 : List T_api_Addr) (K_1 : (List T_api_Addr) → (List T_api_Addr) → (List T_api_Addr) → Prop) (b_3 : Bool) : Prop :=
  (b_3 = true → ((0 : Int) ≤ 0 ∧ 0 < (a_1.length : Int)) ∧ (((0 : Int) ≤ 0 ∧ 0 < (b_2.length : Int)) ∧ (((cf_order (gi a_1 0) (gi b_2 0)) < 0 → srcs_walk_1_api_Addr_W (gi a_1 0) first out_0_1 (fun a2_0_1 => ((0 : Int) ≤ 1 ∧ 1 ≤ (a_1.length : Int)) ∧ (K_1 (cut a_1 1 (a_1.length : Int)) b_2 a2_0_1))) ∧ (¬ ((cf_order (gi a_1 0) (gi b_2 0)) < 0) → (0 < (cf_order (gi a_1 0) (gi b_2 0)) → srcs_walk_1_api_Addr_W (gi b_2 0) second out_0_1 (fun a2_0_2 => ((0 : Int) ≤ 1 ∧ 1 ≤ (b_2.length : Int)) ∧ (K_1 a_1 (cut b_2 1 (b_2.length : Int)) a2_0_2))) ∧ (¬ (0 < (cf_order (gi a_1 0) (gi b_2 0))) → srcs_walk_1_api_Addr_W (gi a_1 0) both out_0_1 (fun a2_0_3 => ((0 : Int) ≤ 1 ∧ 1 ≤ (a_1.length : Int)) ∧ (((0 : Int) ≤ 1 ∧ 1 ≤ (b_2.length : Int)) ∧ (K_1 (cut a_1 1 (a_1.length : Int)) (cut b_2 1 (b_2.length : Int)) a2_0_3)))))))) ∧ (b_3 = false → loopW (fun (K_2 : (List T_api_Addr × Int) → Prop) (s : List T_api_Addr × Int) => srcs_walk_api_Addr_l2 first second Q a_1 b_2 (fun out_0_2 n_1 => K_2 (out_0_2, n_1)) s.1 s.2) (out_0_1, 0))
def srcs_walk_api_Addr_l1 (cf_order : T_api_Addr → T_api_Addr → Int) (first : Bool) (both : Bool) (second : Bool) (Q : (List T_api_Addr) → Prop) (K_1 : (List T_api_Addr) → (List T_api_Addr) → (List T_api_Addr) → Prop) (a_1 : List T_api_Addr) (b_2 : List T_api_Addr) (out_0_1 : List T_api_Addr) : Prop :=
  (0 < (a_1.length : Int) → srcs_walk_api_Addr_j1 cf_order first both second Q a_1 b_2 out_0_1 K_1 (decide (0 < (b_2.length : Int)))) ∧ (¬ (0 < (a_1.length : Int)) → srcs_walk_api_Addr_j1 cf_order first both second Q a_1 b_2 out_0_1 K_1 false)
def srcs_walk_api_Addr_W (a : List T_api_Addr) (b : List T_api_Addr) (cf_order : T_api_Addr → T_api_Addr → Int) (first : Bool) (both : Bool) (second : Bool) (Q : (List T_api_Addr) → Prop) : Prop :=
  loopW (fun (K_1 : (List T_api_Addr × List T_api_Addr × List T_api_Addr) → Prop) (s : List T_api_Addr × List T_api_Addr × List T_api_Addr) => srcs_walk_api_Addr_l1 cf_order first both second Q (fun a_1 b_2 out_0_1 => K_1 (a_1, b_2, out_0_1)) s.1 s.2.1 s.2.2) (a, b, [])
set_option maxHeartbeats 40000000 in
set_option maxRecDepth 100000 in
theorem srcs_walk_api_Addr_walk {F : Fz} {fr : List Ow} {h0 : Heap} (a : List T_api_Addr) (b : List T_api_Addr) (cf_order : T_api_Addr → T_api_Addr → Int) (first : Bool) (both : Bool) (second : Bool) (va : Value) (vb : Value) (g_order : Nat) (fs_order : Array Value) (cs_order : Array Value) (hS : St F (fr) h0) (hL_a : SliceF F h0 17 e_api_Addr va a) (hL_b : SliceF F h0 17 e_api_Addr vb b) (hF_cf_order : FnP Tryd.prog F h0 g_order fs_order cs_order (fun x : T_api_Addr × T_api_Addr => [.agg (e_api_Addr x.1).toArray, .agg (e_api_Addr x.2).toArray]) (fun x => .int .i64 (cf_order x.1 x.2))) {Q : (List T_api_Addr) → Prop} (hM : srcs_walk_api_Addr_W a b cf_order first both second Q) :
    HC Tryd.prog 64 #[va, vb, .func (.func g_order) fs_order cs_order, .bool first, .bool both, .bool second] h0 fun u h' => ∃ (F' : Fz) (r_1 : List T_api_Addr) (vr_1 : Value), u = vr_1 ∧ Kp F h0 F' h' ∧ St F' (Ow.own 27 17 e_api_Addr vr_1 r_1 :: fr) h' ∧ (SliceF F' h' 17 e_api_Addr va a) ∧ (SliceF F' h' 17 e_api_Addr vb b) ∧ (FnP Tryd.prog F' h' g_order fs_order cs_order (fun x : T_api_Addr × T_api_Addr => [.agg (e_api_Addr x.1).toArray, .agg (e_api_Addr x.2).toArray]) (fun x => .int .i64 (cf_order x.1 x.2))) ∧ Q r_1 := by
  unfold srcs_walk_api_Addr_W at hM
  have hK := Kp.refl F h0
  refine HC.of_HW (n := 92) Tryd.func64 rfl rfl (Nat.le_of_ble_eq_true rfl) ?_
  refine HW.seq ?_
  refine HW.region ?_
  refine HO.val (v := .slice none 0 0) (want_none) rfl (q_assign rfl) ?_
  refine HO.nil (thenQ_normal (?_))
  refine HW.seq ?_
  refine HW.region ?_
  refine HO.eff (want_none) rfl (st_alloc (c := #[.slice none 0 0]) hS tz_22 rfl) ?_
  rintro _ h_1 ⟨b_1, rfl, hS, hk⟩
  replace hK := hK.trans hk
  replace hL_a := hL_a.kp hk
  replace hL_b := hL_b.kp hk
  replace hF_cf_order := hF_cf_order.kp hk
  refine HO.nil (thenQ_normal (?_))
  refine HW.seq ?_
  refine HW.region ?_
  refine HO.val (v := .func (.func 77) #[] #[.pointer (some ⟨b_1, 0, none⟩)]) (want_none) rfl (q_makeFunc rfl rfl) ?_
  refine HO.val (v := .func (.func 77) #[] #[.pointer (some ⟨b_1, 0, none⟩)]) (want_none) rfl (q_assign rfl) ?_
  refine HO.nil (thenQ_normal (?_))
  refine HW.seq ?_
  refine HW.block ?_
  obtain ⟨I_1, m_1, hI_1, hR_1⟩ := hM
  replace hS := hS.nilOwn 27 17 e_api_Addr
  replace hS : St F (Ow.box b_1 22 #[.slice none 0 0] :: Ow.own 27 17 e_api_Addr (.slice none 0 0) ([] : List T_api_Addr) :: fr) h_1 := hS.perm2 [1, 0] 2 rfl rfl
  refine HW.loop (S := List T_api_Addr × List T_api_Addr × List T_api_Addr) (fun s f h => match s with | (a_1, b_2, out_0_1) => ∃ (F' : Fz) (va_1 : Value) (vb_1 : Value) (vout_0_1 : Value), f 0 = va_1 ∧ f 1 = vb_1 ∧ f 2 = .func (.func g_order) fs_order cs_order ∧ f 3 = .bool first ∧ f 4 = .bool both ∧ f 5 = .bool second ∧ f 12 = .slice none 0 0 ∧ f 13 = .pointer (some ⟨b_1, 0, none⟩) ∧ f 14 = .func (.func 77) #[] #[.pointer (some ⟨b_1, 0, none⟩)] ∧ Kp F h0 F' h ∧ St F' (Ow.box b_1 22 #[vout_0_1] :: Ow.own 27 17 e_api_Addr vout_0_1 out_0_1 :: fr) h ∧ (SliceF F' h 17 e_api_Addr va a) ∧ (SliceF F' h 17 e_api_Addr vb b) ∧ (FnP Tryd.prog F' h g_order fs_order cs_order (fun x : T_api_Addr × T_api_Addr => [.agg (e_api_Addr x.1).toArray, .agg (e_api_Addr x.2).toArray]) (fun x => .int .i64 (cf_order x.1 x.2))) ∧ (SliceF F' h 17 e_api_Addr va_1 a_1) ∧ (SliceF F' h 17 e_api_Addr vb_1 b_2) ∧ I_1 (a_1, b_2, out_0_1)) m_1 (a, b, []) ⟨F, va, vb, .slice none 0 0, rfl, rfl, rfl, rfl, rfl, rfl, rfl, rfl, rfl, hK, hS, hL_a, hL_b, hF_cf_order, hL_a, hL_b, hI_1⟩ ?_
  rintro ⟨a_1, b_2, out_0_1⟩ f_1 h_2 ⟨F_1, va_1, vb_1, vout_0_1, e0, e1, e2, e3, e4, e5, e12, e13, e14, hK, hS, hL_a, hL_b, hF_cf_order, hL_1, hL_2, hI0⟩
  obtain ⟨K_1, hKe_1⟩ : ∃ K : (List T_api_Addr) → (List T_api_Addr) → (List T_api_Addr) → Prop, K = fun a_1' b_2' out_0_1' => I_1 (a_1', b_2', out_0_1') ∧ m_1 (a_1', b_2', out_0_1') < m_1 (a_1, b_2, out_0_1) := ⟨_, rfl⟩
  have hM : srcs_walk_api_Addr_l1 cf_order first both second Q K_1 a_1 b_2 out_0_1 := by rw [hKe_1]; exact hR_1 (a_1, b_2, out_0_1) hI0
  unfold srcs_walk_api_Addr_l1 at hM
  refine HW.fr [(0, va_1), (1, vb_1), (2, .func (.func g_order) fs_order cs_order), (3, .bool first), (4, .bool both), (5, .bool second), (12, .slice none 0 0), (13, .pointer (some ⟨b_1, 0, none⟩)), (14, .func (.func 77) #[] #[.pointer (some ⟨b_1, 0, none⟩)])] ⟨e0, e1, e2, e3, e4, e5, e12, e13, e14, trivial⟩ ?_
  refine HW.seq ?_
  refine HW.seq_mid (fun f h => ∃ (F' : Fz) (b_3 : Bool), f 0 = va_1 ∧ f 1 = vb_1 ∧ f 2 = .func (.func g_order) fs_order cs_order ∧ f 3 = .bool first ∧ f 4 = .bool both ∧ f 5 = .bool second ∧ f 12 = .slice none 0 0 ∧ f 13 = .pointer (some ⟨b_1, 0, none⟩) ∧ f 14 = .func (.func 77) #[] #[.pointer (some ⟨b_1, 0, none⟩)] ∧ f 28 = .bool b_3 ∧ Kp F h0 F' h ∧ St F' (Ow.box b_1 22 #[vout_0_1] :: Ow.own 27 17 e_api_Addr vout_0_1 out_0_1 :: fr) h ∧ (SliceF F' h 17 e_api_Addr va a) ∧ (SliceF F' h 17 e_api_Addr vb b) ∧ (FnP Tryd.prog F' h g_order fs_order cs_order (fun x : T_api_Addr × T_api_Addr => [.agg (e_api_Addr x.1).toArray, .agg (e_api_Addr x.2).toArray]) (fun x => .int .i64 (cf_order x.1 x.2))) ∧ (SliceF F' h 17 e_api_Addr va_1 a_1) ∧ (SliceF F' h 17 e_api_Addr vb_1 b_2) ∧ srcs_walk_api_Addr_j1 cf_order first both second Q a_1 b_2 out_0_1 K_1 b_3) ?_ ?_
  · refine HW.region ?_
    refine HO.val (v := va_1) (want_none) rfl (q_move rfl) ?_
    refine HO.val (v := .int .i64 (a_1.length : Int)) (want_none) rfl (q_len ts_22 (shp hL_1.is) rfl rfl) ?_
    refine HO.val (v := .bool (decide (0 < (a_1.length : Int)))) (want_none) rfl (q_gtr rfl rfl) ?_
    refine HO.val (v := .bool (decide (0 < (a_1.length : Int)))) (want_none) rfl (q_move rfl) ?_
    rcases Bool.eq_false_or_eq_true (decide (0 < (a_1.length : Int))) with c_1 | c_1
    · replace hM := hM.1 (of_decide_eq_true c_1)
      refine HO.val (v := vb_1) (want_by rfl rfl c_1) rfl (q_move rfl) ?_
      refine HO.val (v := .int .i64 (b_2.length : Int)) (want_by rfl rfl c_1) rfl (q_len ts_22 (shp hL_2.is) rfl rfl) ?_
      refine HO.val (v := .bool (decide (0 < (b_2.length : Int)))) (want_by rfl rfl c_1) rfl (q_gtr rfl rfl) ?_
      refine HO.val (v := .bool (decide (0 < (b_2.length : Int)))) (want_none) rfl (q_pickK true rfl c_1 rfl) ?_
      refine HO.nil (thenQ_normal (?_))
      exact ⟨F_1, decide (0 < (b_2.length : Int)), rfl, rfl, rfl, rfl, rfl, rfl, rfl, rfl, rfl, rfl, hK, hS, hL_a, hL_b, hF_cf_order, hL_1, hL_2, hM⟩
    · replace hM := hM.2 (of_decide_eq_false c_1)
      refine HO.past (past_by rfl rfl c_1) rfl ?_
      refine HO.past (past_by rfl rfl c_1) rfl ?_
      refine HO.past (past_by rfl rfl c_1) rfl ?_
      refine HO.val (v := .bool false) (want_none) rfl (q_pickK false rfl c_1 rfl) ?_
      refine HO.nil (thenQ_normal (?_))
      exact ⟨F_1, false, rfl, rfl, rfl, rfl, rfl, rfl, rfl, rfl, rfl, rfl, hK, hS, hL_a, hL_b, hF_cf_order, hL_1, hL_2, hM⟩
  · rintro f_2 h_3 ⟨F_2, b_3, e0, e1, e2, e3, e4, e5, e12, e13, e14, e28, hK, hS, hL_a, hL_b, hF_cf_order, hL_1, hL_2, hM⟩
    unfold srcs_walk_api_Addr_j1 at hM
    refine HW.fr [(0, va_1), (1, vb_1), (2, .func (.func g_order) fs_order cs_order), (3, .bool first), (4, .bool both), (5, .bool second), (12, .slice none 0 0), (13, .pointer (some ⟨b_1, 0, none⟩)), (14, .func (.func 77) #[] #[.pointer (some ⟨b_1, 0, none⟩)]), (28, .bool b_3)] ⟨e0, e1, e2, e3, e4, e5, e12, e13, e14, e28, trivial⟩ ?_
    refine HW.cond b_3 rfl (fun c_2 => ?_) (fun c_2 => ?_)
    · replace hM := hM.1 c_2
      refine HW.skip (thenQ_normal (?_))
      refine HW.block ?_
      refine HW.seq ?_
      refine HW.regionA 9 mixed (fun h => (SliceIs h 17 e_api_Addr va_1 a_1) ∧ (SliceIs h 17 e_api_Addr vb_1 b_2)) [] (by kernel_rfl) ?_
      refine HA.val (k := 0) (v := .func (.func g_order) fs_order cs_order) rfl rfl (by kernel_rfl) (by kernel_rfl) (want_none) rfl (fun _ ⟨hL_1, hL_2⟩ => q_move rfl) ?_
      refine HA.val (k := 1) (v := va_1) rfl rfl (by kernel_rfl) (by kernel_rfl) (want_none) rfl (fun _ ⟨hL_1, hL_2⟩ => q_move rfl) ?_
      obtain ⟨ho_1, hM⟩ := hM
      refine HA.val (k := 2) (v := elemPtr 17 va_1 (0 : Int).toNat) rfl rfl (by kernel_rfl) (by kernel_rfl) (want_none) rfl (fun _ ⟨hL_1, hL_2⟩ => q_idx ts_22 hL_1 rfl rfl ho_1) ?_
      refine HA.val (k := 3) (v := .agg (e_api_Addr (gi a_1 0)).toArray) rfl rfl (by kernel_rfl) (by kernel_rfl) (want_none) rfl (fun _ ⟨hL_1, hL_2⟩ => q_ldElemAgg (cs := (e_api_Addr (gi a_1 0))) ta_27 hL_1 rfl ho_1 rfl) ?_
      refine HA.val (k := 4) (v := vb_1) rfl rfl (by kernel_rfl) (by kernel_rfl) (want_none) rfl (fun _ ⟨hL_1, hL_2⟩ => q_move rfl) ?_
      obtain ⟨ho_2, hM⟩ := hM
      refine HA.val (k := 5) (v := elemPtr 17 vb_1 (0 : Int).toNat) rfl rfl (by kernel_rfl) (by kernel_rfl) (want_none) rfl (fun _ ⟨hL_1, hL_2⟩ => q_idx ts_22 hL_2 rfl rfl ho_2) ?_
      refine HA.val (k := 6) (v := .agg (e_api_Addr (gi b_2 0)).toArray) rfl rfl (by kernel_rfl) (by kernel_rfl) (want_none) rfl (fun _ ⟨hL_1, hL_2⟩ => q_ldElemAgg (cs := (e_api_Addr (gi b_2 0))) ta_27 hL_2 rfl ho_2 rfl) ?_
      refine HA.one (k := 7) ⟨⟨hL_1.is, hL_2.is⟩, (Go.Wk.at_nil _ _)⟩ (by kernel_rfl) ?_
      refine HS.call rfl (want_none) rfl (hF_cf_order.ec ((gi a_1 0), (gi b_2 0)) rfl rfl) (hF_cf_order.hc ((gi a_1 0), (gi b_2 0)) hS) ?_
      rintro _ h_4 ⟨rfl, hS, hk⟩
      replace hK := hK.trans hk
      replace hL_a := hL_a.kp hk
      replace hL_b := hL_b.kp hk
      replace hF_cf_order := hF_cf_order.kp hk
      replace hL_1 := hL_1.kp hk
      replace hL_2 := hL_2.kp hk
      refine HA.val (k := 8) (v := .int .i64 (cf_order (gi a_1 0) (gi b_2 0))) rfl rfl (by kernel_rfl) (by kernel_rfl) (want_none) rfl (fun _ ⟨hL_1, hL_2⟩ => q_assign rfl) ?_
      refine HA.nil ⟨⟨hL_1.is, hL_2.is⟩, (Go.Wk.at_nil _ _)⟩ (by kernel_rfl) (thenQ_normal (?_))
      refine HW.block ?_
      refine HW.seq ?_
      refine HW.region ?_
      refine HO.val (v := .int .i64 (cf_order (gi a_1 0) (gi b_2 0))) (want_none) rfl (q_move rfl) ?_
      refine HO.val (v := .bool (decide ((cf_order (gi a_1 0) (gi b_2 0)) < 0))) (want_none) rfl (q_lss rfl rfl) ?_
      refine HO.val (v := .bool (decide ((cf_order (gi a_1 0) (gi b_2 0)) < 0))) (want_none) rfl (q_assign rfl) ?_
      refine HO.nil (thenQ_normal (?_))
      refine HW.cond (decide ((cf_order (gi a_1 0) (gi b_2 0)) < 0)) rfl (fun c_3 => ?_) (fun c_3 => ?_)
      · replace hM := hM.1 (of_decide_eq_true c_3)
        refine HW.seq ?_
        refine HW.region ?_
        refine HO.val (v := .func (.func 77) #[] #[.pointer (some ⟨b_1, 0, none⟩)]) (want_none) rfl (q_move rfl) ?_
        refine HO.val (v := va_1) (want_none) rfl (q_move rfl) ?_
        refine HO.val (v := elemPtr 17 va_1 (0 : Int).toNat) (want_none) rfl (q_idx ts_22 hL_1.is rfl rfl ho_1) ?_
        refine HO.val (v := .agg (e_api_Addr (gi a_1 0)).toArray) (want_none) rfl (q_ldElemAgg (cs := (e_api_Addr (gi a_1 0))) ta_27 hL_1.is rfl ho_1 rfl) ?_
        refine HO.val (v := .bool first) (want_none) rfl (q_move rfl) ?_
        refine HO.call (want_none) rfl (ec en_77 rfl rfl) (srcs_walk_1_api_Addr_walk (fr := (fr)) (gi a_1 0) first out_0_1 b_1 vout_0_1 hS hM) ?_
        rintro _ h_5 ⟨F_3, a2_0_1, v_1, rfl, hk, hS, hM⟩
        replace hK := hK.trans hk
        replace hL_a := hL_a.kp hk
        replace hL_b := hL_b.kp hk
        replace hF_cf_order := hF_cf_order.kp hk
        replace hL_1 := hL_1.kp hk
        replace hL_2 := hL_2.kp hk
        refine HO.nil (thenQ_normal (?_))
        refine HW.region ?_
        refine HO.val (v := va_1) (want_none) rfl (q_move rfl) ?_
        obtain ⟨ho_3, hM⟩ := hM
        refine HO.val (v := cutV 17 va_1 (1 : Int).toNat ((a_1.length : Int)).toNat) (want_none) rfl (q_slL ts_22 hL_1.is rfl rfl ho_3) ?_
        refine HO.val (v := cutV 17 va_1 (1 : Int).toNat ((a_1.length : Int)).toNat) (want_none) rfl (q_assign rfl) ?_
        refine HO.nil (blockQ_normal (blockQ_normal (thenQ_normal (?_))))
        rw [hKe_1] at hM
        exact ⟨(cut a_1 1 (a_1.length : Int), b_2, a2_0_1), ⟨F_3, cutV 17 va_1 (1 : Int).toNat ((a_1.length : Int)).toNat, vb_1, v_1, rfl, rfl, rfl, rfl, rfl, rfl, rfl, rfl, rfl, hK, hS, hL_a, hL_b, hF_cf_order, (cutF hL_1 1 (a_1.length : Int) ho_3.1 ho_3.2 (Int.le_refl _)), hL_2, hM.1⟩, hM.2⟩
      · replace hM := hM.2 (of_decide_eq_false c_3)
        refine HW.seq ?_
        refine HW.region ?_
        refine HO.val (v := .int .i64 (cf_order (gi a_1 0) (gi b_2 0))) (want_none) rfl (q_move rfl) ?_
        refine HO.val (v := .bool (decide (0 < (cf_order (gi a_1 0) (gi b_2 0))))) (want_none) rfl (q_gtr rfl rfl) ?_
        refine HO.val (v := .bool (decide (0 < (cf_order (gi a_1 0) (gi b_2 0))))) (want_none) rfl (q_assign rfl) ?_
        refine HO.nil (thenQ_normal (?_))
        refine HW.cond (decide (0 < (cf_order (gi a_1 0) (gi b_2 0)))) rfl (fun c_4 => ?_) (fun c_4 => ?_)
        · replace hM := hM.1 (of_decide_eq_true c_4)
          refine HW.seq ?_
          refine HW.region ?_
          refine HO.val (v := .func (.func 77) #[] #[.pointer (some ⟨b_1, 0, none⟩)]) (want_none) rfl (q_move rfl) ?_
          refine HO.val (v := vb_1) (want_none) rfl (q_move rfl) ?_
          refine HO.val (v := elemPtr 17 vb_1 (0 : Int).toNat) (want_none) rfl (q_idx ts_22 hL_2.is rfl rfl ho_2) ?_
          refine HO.val (v := .agg (e_api_Addr (gi b_2 0)).toArray) (want_none) rfl (q_ldElemAgg (cs := (e_api_Addr (gi b_2 0))) ta_27 hL_2.is rfl ho_2 rfl) ?_
          refine HO.val (v := .bool second) (want_none) rfl (q_move rfl) ?_
          refine HO.call (want_none) rfl (ec en_77 rfl rfl) (srcs_walk_1_api_Addr_walk (fr := (fr)) (gi b_2 0) second out_0_1 b_1 vout_0_1 hS hM) ?_
          rintro _ h_6 ⟨F_4, a2_0_2, v_2, rfl, hk, hS, hM⟩
          replace hK := hK.trans hk
          replace hL_a := hL_a.kp hk
          replace hL_b := hL_b.kp hk
          replace hF_cf_order := hF_cf_order.kp hk
          replace hL_1 := hL_1.kp hk
          replace hL_2 := hL_2.kp hk
          refine HO.nil (thenQ_normal (?_))
          refine HW.region ?_
          refine HO.val (v := vb_1) (want_none) rfl (q_move rfl) ?_
          obtain ⟨ho_4, hM⟩ := hM
          refine HO.val (v := cutV 17 vb_1 (1 : Int).toNat ((b_2.length : Int)).toNat) (want_none) rfl (q_slL ts_22 hL_2.is rfl rfl ho_4) ?_
          refine HO.val (v := cutV 17 vb_1 (1 : Int).toNat ((b_2.length : Int)).toNat) (want_none) rfl (q_assign rfl) ?_
          refine HO.nil (blockQ_normal (blockQ_normal (thenQ_normal (?_))))
          rw [hKe_1] at hM
          exact ⟨(a_1, cut b_2 1 (b_2.length : Int), a2_0_2), ⟨F_4, va_1, cutV 17 vb_1 (1 : Int).toNat ((b_2.length : Int)).toNat, v_2, rfl, rfl, rfl, rfl, rfl, rfl, rfl, rfl, rfl, hK, hS, hL_a, hL_b, hF_cf_order, hL_1, (cutF hL_2 1 (b_2.length : Int) ho_4.1 ho_4.2 (Int.le_refl _)), hM.1⟩, hM.2⟩
        · replace hM := hM.2 (of_decide_eq_false c_4)
          refine HW.seq ?_
          refine HW.region ?_
          refine HO.val (v := .func (.func 77) #[] #[.pointer (some ⟨b_1, 0, none⟩)]) (want_none) rfl (q_move rfl) ?_
          refine HO.val (v := va_1) (want_none) rfl (q_move rfl) ?_
          refine HO.val (v := elemPtr 17 va_1 (0 : Int).toNat) (want_none) rfl (q_idx ts_22 hL_1.is rfl rfl ho_1) ?_
          refine HO.val (v := .agg (e_api_Addr (gi a_1 0)).toArray) (want_none) rfl (q_ldElemAgg (cs := (e_api_Addr (gi a_1 0))) ta_27 hL_1.is rfl ho_1 rfl) ?_
          refine HO.val (v := .bool both) (want_none) rfl (q_move rfl) ?_
          refine HO.call (want_none) rfl (ec en_77 rfl rfl) (srcs_walk_1_api_Addr_walk (fr := (fr)) (gi a_1 0) both out_0_1 b_1 vout_0_1 hS hM) ?_
          rintro _ h_7 ⟨F_5, a2_0_3, v_3, rfl, hk, hS, hM⟩
          replace hK := hK.trans hk
          replace hL_a := hL_a.kp hk
          replace hL_b := hL_b.kp hk
          replace hF_cf_order := hF_cf_order.kp hk
          replace hL_1 := hL_1.kp hk
          replace hL_2 := hL_2.kp hk
          refine HO.nil (thenQ_normal (?_))
          refine HW.regionA 6 mixed (fun h => (SliceIs h 17 e_api_Addr va a) ∧ (SliceIs h 17 e_api_Addr vb b) ∧ (True) ∧ (SliceIs h 17 e_api_Addr va_1 a_1) ∧ (SliceIs h 17 e_api_Addr vb_1 b_2) ∧ (Blk h b_1 (.cells #[v_3] 22 (0, 0))) ∧ (OwnIs h 0 27 17 e_api_Addr v_3 a2_0_3)) [] (by kernel_rfl) ?_
          refine HA.val (k := 0) (v := va_1) rfl rfl (by kernel_rfl) (by kernel_rfl) (want_none) rfl (fun _ ⟨hL_a, hL_b, hF_cf_order, hL_1, hL_2, c356, c357⟩ => q_move rfl) ?_
          obtain ⟨ho_5, hM⟩ := hM
          refine HA.val (k := 1) (v := cutV 17 va_1 (1 : Int).toNat ((a_1.length : Int)).toNat) rfl rfl (by kernel_rfl) (by kernel_rfl) (want_none) rfl (fun _ ⟨hL_a, hL_b, hF_cf_order, hL_1, hL_2, c356, c357⟩ => q_slL ts_22 hL_1 rfl rfl ho_5) ?_
          refine HA.val (k := 2) (v := vb_1) rfl rfl (by kernel_rfl) (by kernel_rfl) (want_none) rfl (fun _ ⟨hL_a, hL_b, hF_cf_order, hL_1, hL_2, c356, c357⟩ => q_move rfl) ?_
          obtain ⟨ho_6, hM⟩ := hM
          refine HA.val (k := 3) (v := cutV 17 vb_1 (1 : Int).toNat ((b_2.length : Int)).toNat) rfl rfl (by kernel_rfl) (by kernel_rfl) (want_none) rfl (fun _ ⟨hL_a, hL_b, hF_cf_order, hL_1, hL_2, c356, c357⟩ => q_slL ts_22 hL_2 rfl rfl ho_6) ?_
          refine HA.val (k := 4) (v := cutV 17 va_1 (1 : Int).toNat ((a_1.length : Int)).toNat) rfl rfl (by kernel_rfl) (by kernel_rfl) (want_none) rfl (fun _ ⟨hL_a, hL_b, hF_cf_order, hL_1, hL_2, c356, c357⟩ => q_assign rfl) ?_
          refine HA.val (k := 5) (v := cutV 17 vb_1 (1 : Int).toNat ((b_2.length : Int)).toNat) rfl rfl (by kernel_rfl) (by kernel_rfl) (want_none) rfl (fun _ ⟨hL_a, hL_b, hF_cf_order, hL_1, hL_2, c356, c357⟩ => q_assign rfl) ?_
          refine HA.nil ⟨⟨hL_a.is, hL_b.is, trivial, hL_1.is, hL_2.is, (hS.box 0 rfl), (hS.own 1 rfl)⟩, (Go.Wk.at_nil _ _)⟩ (by kernel_rfl) (blockQ_normal (blockQ_normal (thenQ_normal (?_))))
          rw [hKe_1] at hM
          exact ⟨(cut a_1 1 (a_1.length : Int), cut b_2 1 (b_2.length : Int), a2_0_3), ⟨F_5, cutV 17 va_1 (1 : Int).toNat ((a_1.length : Int)).toNat, cutV 17 vb_1 (1 : Int).toNat ((b_2.length : Int)).toNat, v_3, rfl, rfl, rfl, rfl, rfl, rfl, rfl, rfl, rfl, hK, hS, hL_a, hL_b, hF_cf_order, (cutF hL_1 1 (a_1.length : Int) ho_5.1 ho_5.2 (Int.le_refl _)), (cutF hL_2 1 (b_2.length : Int) ho_6.1 ho_6.2 (Int.le_refl _)), hM.1⟩, hM.2⟩
    · replace hM := hM.2 c_2
      refine HW.exit (thenQ_exit (thenQ_exit (blockQ_exit (thenQ_normal (?_)))))
      refine HW.seq ?_
      refine HW.seq ?_
      refine HW.region ?_
      refine HO.val (v := va_1) (want_none) rfl (q_move rfl) ?_
      refine HO.val (v := .int .i64 (a_1.length : Int)) (want_none) rfl (q_len ts_22 (shp hL_1.is) rfl rfl) ?_
      refine HO.val (v := .int .i64 0) (want_none) rfl (q_move rfl) ?_
      refine HO.nil (thenQ_normal (?_))
      refine HW.block ?_
      obtain ⟨I_2, m_2, hI_2, hR_2⟩ := hM
      refine HW.loop (S := List T_api_Addr × Int) (fun s f h => match s with | (out_0_2, n_1) => ∃ (F' : Fz) (vout_0_2 : Value), f 1 = vb_1 ∧ f 3 = .bool first ∧ f 5 = .bool second ∧ f 12 = .slice none 0 0 ∧ f 13 = .pointer (some ⟨b_1, 0, none⟩) ∧ f 14 = .func (.func 77) #[] #[.pointer (some ⟨b_1, 0, none⟩)] ∧ f 69 = va_1 ∧ f 70 = .int .i64 (a_1.length : Int) ∧ f 71 = .int .i64 n_1 ∧ Kp F h0 F' h ∧ St F' (Ow.box b_1 22 #[vout_0_2] :: Ow.own 27 17 e_api_Addr vout_0_2 out_0_2 :: fr) h ∧ (SliceF F' h 17 e_api_Addr va a) ∧ (SliceF F' h 17 e_api_Addr vb b) ∧ (FnP Tryd.prog F' h g_order fs_order cs_order (fun x : T_api_Addr × T_api_Addr => [.agg (e_api_Addr x.1).toArray, .agg (e_api_Addr x.2).toArray]) (fun x => .int .i64 (cf_order x.1 x.2))) ∧ (SliceF F' h 17 e_api_Addr va_1 a_1) ∧ (SliceF F' h 17 e_api_Addr vb_1 b_2) ∧ I_2 (out_0_2, n_1)) m_2 (out_0_1, 0) ⟨F_2, vout_0_1, rfl, rfl, rfl, rfl, rfl, rfl, rfl, rfl, rfl, hK, hS, hL_a, hL_b, hF_cf_order, hL_1, hL_2, hI_2⟩ ?_
      rintro ⟨out_0_2, n_1⟩ f_3 h_8 ⟨F_6, vout_0_2, e1, e3, e5, e12, e13, e14, e69, e70, e71, hK, hS, hL_a, hL_b, hF_cf_order, hL_1, hL_2, hI0⟩
      obtain ⟨K_2, hKe_2⟩ : ∃ K : (List T_api_Addr) → Int → Prop, K = fun out_0_2' n_1' => I_2 (out_0_2', n_1') ∧ m_2 (out_0_2', n_1') < m_2 (out_0_2, n_1) := ⟨_, rfl⟩
      have hM : srcs_walk_api_Addr_l2 first second Q a_1 b_2 K_2 out_0_2 n_1 := by rw [hKe_2]; exact hR_2 (out_0_2, n_1) hI0
      unfold srcs_walk_api_Addr_l2 at hM
      refine HW.fr [(1, vb_1), (3, .bool first), (5, .bool second), (12, .slice none 0 0), (13, .pointer (some ⟨b_1, 0, none⟩)), (14, .func (.func 77) #[] #[.pointer (some ⟨b_1, 0, none⟩)]), (69, va_1), (70, .int .i64 (a_1.length : Int)), (71, .int .i64 n_1)] ⟨e1, e3, e5, e12, e13, e14, e69, e70, e71, trivial⟩ ?_
      refine HW.seq ?_
      refine HW.region ?_
      refine HO.val (v := .bool (decide (n_1 < (a_1.length : Int)))) (want_none) rfl (q_lss rfl rfl) ?_
      refine HO.nil (thenQ_normal (?_))
      refine HW.seq ?_
      refine HW.cond (decide (n_1 < (a_1.length : Int))) rfl (fun c_5 => ?_) (fun c_5 => ?_)
      · replace hM := hM.1 (of_decide_eq_true c_5)
        refine HW.skip (thenQ_normal (?_))
        refine HW.seq ?_
        refine HW.block ?_
        refine HW.seq ?_
        refine HW.region ?_
        obtain ⟨ho_7, hM⟩ := hM
        refine HO.val (v := elemPtr 17 va_1 (n_1).toNat) (want_none) rfl (q_idx ts_22 hL_1.is rfl rfl ho_7) ?_
        refine HO.val (v := .agg (e_api_Addr (gi a_1 n_1)).toArray) (want_none) rfl (q_ldElemAgg (cs := (e_api_Addr (gi a_1 n_1))) ta_27 hL_1.is rfl ho_7 rfl) ?_
        refine HO.eff (want_none) rfl (st_alloc (c := (e_api_Addr (false, (default : Ba 16))).toArray) hS tz_27 rfl) ?_
        rintro _ h_9 ⟨b_4, rfl, hS, hk⟩
        replace hK := hK.trans hk
        replace hL_a := hL_a.kp hk
        replace hL_b := hL_b.kp hk
        replace hF_cf_order := hF_cf_order.kp hk
        replace hL_1 := hL_1.kp hk
        replace hL_2 := hL_2.kp hk
        refine HO.sto (want_none) rfl (st_storeAgg (c' := (e_api_Addr (gi a_1 n_1)).toArray) hS (i := 0) rfl ta_27 rfl rfl rfl (one_e_api_Addr _) (Nat.le_of_ble_eq_true rfl) rfl) ?_
        rintro h_10 ⟨hS, hk⟩
        replace hS : St F_6 (Ow.box b_4 27 (e_api_Addr (gi a_1 n_1)).toArray :: Ow.box b_1 22 #[vout_0_2] :: Ow.own 27 17 e_api_Addr vout_0_2 out_0_2 :: fr) h_10 := hS
        replace hK := hK.trans hk
        replace hL_a := hL_a.kp hk
        replace hL_b := hL_b.kp hk
        replace hF_cf_order := hF_cf_order.kp hk
        replace hL_1 := hL_1.kp hk
        replace hL_2 := hL_2.kp hk
        refine HO.nil (thenQ_normal (?_))
        refine HW.region ?_
        refine HO.val (v := .func (.func 77) #[] #[.pointer (some ⟨b_1, 0, none⟩)]) (want_none) rfl (q_move rfl) ?_
        refine HO.val (v := .agg (e_api_Addr (gi a_1 n_1)).toArray) (want_none) rfl (q_loadAgg (cs := (e_api_Addr (gi a_1 n_1))) ta_27 rfl rfl (Blk.cells (k := 17) (hS.box 0 rfl) rfl)) ?_
        refine HO.val (v := .bool first) (want_none) rfl (q_move rfl) ?_
        replace hS : St F_6 (Ow.box b_1 22 #[vout_0_2] :: Ow.own 27 17 e_api_Addr vout_0_2 out_0_2 :: Ow.box b_4 27 (e_api_Addr (gi a_1 n_1)).toArray :: fr) h_10 := hS.perm2 [1, 2, 0] 3 rfl rfl
        refine HO.call (want_none) rfl (ec en_77 rfl rfl) (srcs_walk_1_api_Addr_walk (fr := (Ow.box b_4 27 (e_api_Addr (gi a_1 n_1)).toArray :: fr)) (gi a_1 n_1) first out_0_2 b_1 vout_0_2 hS hM) ?_
        rintro _ h_11 ⟨F_7, a2_0_4, v_4, rfl, hk, hS, hM⟩
        replace hK := hK.trans hk
        replace hL_a := hL_a.kp hk
        replace hL_b := hL_b.kp hk
        replace hF_cf_order := hF_cf_order.kp hk
        replace hL_1 := hL_1.kp hk
        replace hL_2 := hL_2.kp hk
        refine HO.nil (blockQ_normal (thenQ_normal (?_)))
        refine HW.region ?_
        obtain ⟨ho_8, hM⟩ := hM
        refine HO.val (v := .int .i64 (n_1 + 1)) (want_none) rfl (q_addN _ rfl rfl rfl ho_8.1 ho_8.2) ?_
        refine HO.val (v := .int .i64 (n_1 + 1)) (want_none) rfl (q_move rfl) ?_
        refine HO.nil (thenQ_normal (?_))
        replace hS : St F_7 (Ow.box b_1 22 #[v_4] :: Ow.own 27 17 e_api_Addr v_4 a2_0_4 :: fr) h_11 := hS.perm2 [0, 1] 3 rfl rfl
        rw [hKe_2] at hM
        exact ⟨(a2_0_4, n_1 + 1), ⟨F_7, v_4, rfl, rfl, rfl, rfl, rfl, rfl, rfl, rfl, rfl, hK, hS, hL_a, hL_b, hF_cf_order, hL_1, hL_2, hM.1⟩, hM.2⟩
      · replace hM := hM.2 (of_decide_eq_false c_5)
        refine HW.exit (thenQ_exit (thenQ_exit (blockQ_exit (thenQ_normal (?_)))))
        refine HW.seq ?_
        refine HW.seq ?_
        refine HW.region ?_
        refine HO.val (v := vb_1) (want_none) rfl (q_move rfl) ?_
        refine HO.val (v := .int .i64 (b_2.length : Int)) (want_none) rfl (q_len ts_22 (shp hL_2.is) rfl rfl) ?_
        refine HO.val (v := .int .i64 0) (want_none) rfl (q_move rfl) ?_
        refine HO.nil (thenQ_normal (?_))
        refine HW.block ?_
        obtain ⟨I_3, m_3, hI_3, hR_3⟩ := hM
        refine HW.loop (S := List T_api_Addr × Int) (fun s f h => match s with | (out_0_3, n_2) => ∃ (F' : Fz) (vout_0_3 : Value), f 5 = .bool second ∧ f 12 = .slice none 0 0 ∧ f 13 = .pointer (some ⟨b_1, 0, none⟩) ∧ f 14 = .func (.func 77) #[] #[.pointer (some ⟨b_1, 0, none⟩)] ∧ f 80 = vb_1 ∧ f 81 = .int .i64 (b_2.length : Int) ∧ f 82 = .int .i64 n_2 ∧ Kp F h0 F' h ∧ St F' (Ow.box b_1 22 #[vout_0_3] :: Ow.own 27 17 e_api_Addr vout_0_3 out_0_3 :: fr) h ∧ (SliceF F' h 17 e_api_Addr va a) ∧ (SliceF F' h 17 e_api_Addr vb b) ∧ (FnP Tryd.prog F' h g_order fs_order cs_order (fun x : T_api_Addr × T_api_Addr => [.agg (e_api_Addr x.1).toArray, .agg (e_api_Addr x.2).toArray]) (fun x => .int .i64 (cf_order x.1 x.2))) ∧ (SliceF F' h 17 e_api_Addr va_1 a_1) ∧ (SliceF F' h 17 e_api_Addr vb_1 b_2) ∧ I_3 (out_0_3, n_2)) m_3 (out_0_2, 0) ⟨F_6, vout_0_2, rfl, rfl, rfl, rfl, rfl, rfl, rfl, hK, hS, hL_a, hL_b, hF_cf_order, hL_1, hL_2, hI_3⟩ ?_
        rintro ⟨out_0_3, n_2⟩ f_4 h_12 ⟨F_8, vout_0_3, e5, e12, e13, e14, e80, e81, e82, hK, hS, hL_a, hL_b, hF_cf_order, hL_1, hL_2, hI0⟩
        obtain ⟨K_3, hKe_3⟩ : ∃ K : (List T_api_Addr) → Int → Prop, K = fun out_0_3' n_2' => I_3 (out_0_3', n_2') ∧ m_3 (out_0_3', n_2') < m_3 (out_0_3, n_2) := ⟨_, rfl⟩
        have hM : srcs_walk_api_Addr_l3 second Q b_2 K_3 out_0_3 n_2 := by rw [hKe_3]; exact hR_3 (out_0_3, n_2) hI0
        unfold srcs_walk_api_Addr_l3 at hM
        refine HW.fr [(5, .bool second), (12, .slice none 0 0), (13, .pointer (some ⟨b_1, 0, none⟩)), (14, .func (.func 77) #[] #[.pointer (some ⟨b_1, 0, none⟩)]), (80, vb_1), (81, .int .i64 (b_2.length : Int)), (82, .int .i64 n_2)] ⟨e5, e12, e13, e14, e80, e81, e82, trivial⟩ ?_
        refine HW.seq ?_
        refine HW.region ?_
        refine HO.val (v := .bool (decide (n_2 < (b_2.length : Int)))) (want_none) rfl (q_lss rfl rfl) ?_
        refine HO.nil (thenQ_normal (?_))
        refine HW.seq ?_
        refine HW.cond (decide (n_2 < (b_2.length : Int))) rfl (fun c_6 => ?_) (fun c_6 => ?_)
        · replace hM := hM.1 (of_decide_eq_true c_6)
          refine HW.skip (thenQ_normal (?_))
          refine HW.seq ?_
          refine HW.block ?_
          refine HW.seq ?_
          refine HW.region ?_
          obtain ⟨ho_9, hM⟩ := hM
          refine HO.val (v := elemPtr 17 vb_1 (n_2).toNat) (want_none) rfl (q_idx ts_22 hL_2.is rfl rfl ho_9) ?_
          refine HO.val (v := .agg (e_api_Addr (gi b_2 n_2)).toArray) (want_none) rfl (q_ldElemAgg (cs := (e_api_Addr (gi b_2 n_2))) ta_27 hL_2.is rfl ho_9 rfl) ?_
          refine HO.eff (want_none) rfl (st_alloc (c := (e_api_Addr (false, (default : Ba 16))).toArray) hS tz_27 rfl) ?_
          rintro _ h_13 ⟨b_5, rfl, hS, hk⟩
          replace hK := hK.trans hk
          replace hL_a := hL_a.kp hk
          replace hL_b := hL_b.kp hk
          replace hF_cf_order := hF_cf_order.kp hk
          replace hL_1 := hL_1.kp hk
          replace hL_2 := hL_2.kp hk
          refine HO.sto (want_none) rfl (st_storeAgg (c' := (e_api_Addr (gi b_2 n_2)).toArray) hS (i := 0) rfl ta_27 rfl rfl rfl (one_e_api_Addr _) (Nat.le_of_ble_eq_true rfl) rfl) ?_
          rintro h_14 ⟨hS, hk⟩
          replace hS : St F_8 (Ow.box b_5 27 (e_api_Addr (gi b_2 n_2)).toArray :: Ow.box b_1 22 #[vout_0_3] :: Ow.own 27 17 e_api_Addr vout_0_3 out_0_3 :: fr) h_14 := hS
          replace hK := hK.trans hk
          replace hL_a := hL_a.kp hk
          replace hL_b := hL_b.kp hk
          replace hF_cf_order := hF_cf_order.kp hk
          replace hL_1 := hL_1.kp hk
          replace hL_2 := hL_2.kp hk
          refine HO.nil (thenQ_normal (?_))
          refine HW.region ?_
          refine HO.val (v := .func (.func 77) #[] #[.pointer (some ⟨b_1, 0, none⟩)]) (want_none) rfl (q_move rfl) ?_
          refine HO.val (v := .agg (e_api_Addr (gi b_2 n_2)).toArray) (want_none) rfl (q_loadAgg (cs := (e_api_Addr (gi b_2 n_2))) ta_27 rfl rfl (Blk.cells (k := 17) (hS.box 0 rfl) rfl)) ?_
          refine HO.val (v := .bool second) (want_none) rfl (q_move rfl) ?_
          replace hS : St F_8 (Ow.box b_1 22 #[vout_0_3] :: Ow.own 27 17 e_api_Addr vout_0_3 out_0_3 :: Ow.box b_5 27 (e_api_Addr (gi b_2 n_2)).toArray :: fr) h_14 := hS.perm2 [1, 2, 0] 3 rfl rfl
          refine HO.call (want_none) rfl (ec en_77 rfl rfl) (srcs_walk_1_api_Addr_walk (fr := (Ow.box b_5 27 (e_api_Addr (gi b_2 n_2)).toArray :: fr)) (gi b_2 n_2) second out_0_3 b_1 vout_0_3 hS hM) ?_
          rintro _ h_15 ⟨F_9, a2_0_5, v_5, rfl, hk, hS, hM⟩
          replace hK := hK.trans hk
          replace hL_a := hL_a.kp hk
          replace hL_b := hL_b.kp hk
          replace hF_cf_order := hF_cf_order.kp hk
          replace hL_1 := hL_1.kp hk
          replace hL_2 := hL_2.kp hk
          refine HO.nil (blockQ_normal (thenQ_normal (?_)))
          refine HW.region ?_
          obtain ⟨ho_10, hM⟩ := hM
          refine HO.val (v := .int .i64 (n_2 + 1)) (want_none) rfl (q_addN _ rfl rfl rfl ho_10.1 ho_10.2) ?_
          refine HO.val (v := .int .i64 (n_2 + 1)) (want_none) rfl (q_move rfl) ?_
          refine HO.nil (thenQ_normal (?_))
          replace hS : St F_9 (Ow.box b_1 22 #[v_5] :: Ow.own 27 17 e_api_Addr v_5 a2_0_5 :: fr) h_15 := hS.perm2 [0, 1] 3 rfl rfl
          rw [hKe_3] at hM
          exact ⟨(a2_0_5, n_2 + 1), ⟨F_9, v_5, rfl, rfl, rfl, rfl, rfl, rfl, rfl, hK, hS, hL_a, hL_b, hF_cf_order, hL_1, hL_2, hM.1⟩, hM.2⟩
        · replace hM := hM.2 (of_decide_eq_false c_6)
          refine HW.exit (thenQ_exit (thenQ_exit (blockQ_exit (thenQ_normal (?_)))))
          refine HW.seq ?_
          refine HW.region ?_
          refine HO.val (v := vout_0_3) (want_none) rfl (q_load to_22 rfl (Blk.cell (hS.box 0 rfl) rfl)) ?_
          refine HO.val (v := vout_0_3) (want_none) rfl (q_assign rfl) ?_
          refine HO.nil (thenQ_normal (?_))
          refine HW.ret (?_)
          refine ⟨.inr rfl, vout_0_3, res1 rfl (rt rfl), ?_⟩
          replace hS : St F_8 (Ow.own 27 17 e_api_Addr vout_0_3 out_0_3 :: fr) h_12 := hS.perm2 [1] 2 rfl rfl
          exact ⟨F_8, out_0_3, vout_0_3, rfl, hK, hS, hL_a, hL_b, hF_cf_order, hM⟩

def addr_bytes_W (a : T_api_Addr) (Q : Str → Prop) : Prop :=
  (a.1 = true → Q (cut a.2.1 0 16)) ∧ (a.1 = false → Q (cut a.2.1 0 4))
set_option maxHeartbeats 40000000 in
set_option maxRecDepth 100000 in
theorem addr_bytes_walk {F : Fz} {fr : List Ow} {h0 : Heap} (a : T_api_Addr) (hS : St F (fr) h0)  {Q : Str → Prop} (hM : addr_bytes_W a Q) :
    HC Tryd.prog 75 #[.agg (e_api_Addr a).toArray] h0 fun u h' => ∃ (F' : Fz) (r_1 : Str), u = .string (bs r_1) ∧ Kp F h0 F' h' ∧ St F' (fr) h' ∧ Q r_1 := by
  unfold addr_bytes_W at hM
  have hK := Kp.refl F h0
  refine HC.of_HW (n := 11) Tryd.func75 rfl rfl (Nat.le_of_ble_eq_true rfl) ?_
  refine HW.seq ?_
  refine HW.region ?_
  refine HO.eff (want_none) rfl (st_box (c := (e_api_Addr a).toArray) (k' := 17) hS rfl rfl) ?_
  rintro _ h_1 ⟨b_1, rfl, hS, hk⟩
  replace hK := hK.trans hk
  refine HO.val (v := .string (bs [])) (want_none) rfl (q_assign rfl) ?_
  refine HO.nil (thenQ_normal (?_))
  refine HW.seq ?_
  refine HW.seq ?_
  refine HW.region ?_
  refine HO.val (v := .pointer (some ⟨b_1, 0, none⟩)) (want_none) rfl (q_fieldAddr fa_27_0 rfl rfl) ?_
  refine HO.val (v := .bool a.1) (want_none) rfl (q_load to_4 rfl (Blk.cell (hS.box 0 rfl) rfl)) ?_
  refine HO.nil (thenQ_normal (?_))
  refine HW.cond a.1 rfl (fun c_1 => ?_) (fun c_1 => ?_)
  · replace hM := hM.1 c_1
    refine HW.seq ?_
    refine HW.region ?_
    refine HO.val (v := .pointer (some ⟨b_1, 1, none⟩)) (want_none) rfl (q_fieldAddr fa_27_1 rfl rfl) ?_
    refine HO.val (v := arrV b_1 1 16 0 16) (want_none) rfl (q_sliceA (o := 1) (lo := 0) (hi := 16) (kl := .i64) (kh := .i64) tr_25 rfl (.inl ⟨rfl, rfl⟩) (.inl ⟨rfl, rfl⟩) ⟨by decide, by decide, by decide⟩) ?_
    refine HO.val (v := .string (bs (cut a.2.1 0 16))) (want_none) rfl (q_bytesStr ts_96 Tryd.underlying5 Tryd.underlying9 (arrSl (o := 1) (n := 16) (X := a.2) (lo := 0) (hi := 16) (hS.box 0 rfl) rfl ⟨by decide, by decide, by decide⟩ (by decide)) rfl) ?_
    refine HO.val (v := .string (bs (cut a.2.1 0 16))) (want_none) rfl (q_assign rfl) ?_
    refine HO.nil (thenQ_normal (?_))
    refine HW.ret (thenQ_ret (?_))
    refine ⟨.inr rfl, .string (bs (cut a.2.1 0 16)), res1 rfl (rt rfl), ?_⟩
    replace hS : St F (fr) h_1 := hS.perm2 [] 1 rfl rfl
    exact ⟨F, cut a.2.1 0 16, rfl, hK, hS, hM⟩
  · replace hM := hM.2 c_1
    refine HW.skip (thenQ_normal (?_))
    refine HW.seq ?_
    refine HW.region ?_
    refine HO.val (v := .pointer (some ⟨b_1, 1, none⟩)) (want_none) rfl (q_fieldAddr fa_27_1 rfl rfl) ?_
    refine HO.val (v := arrV b_1 1 16 0 4) (want_none) rfl (q_sliceA (o := 1) (lo := 0) (hi := 4) (kl := .i64) tr_25 rfl (.inl ⟨rfl, rfl⟩) (.inr ⟨_, rfl, rfl⟩) ⟨by decide, by decide, by decide⟩) ?_
    refine HO.val (v := .string (bs (cut a.2.1 0 4))) (want_none) rfl (q_bytesStr ts_96 Tryd.underlying5 Tryd.underlying9 (arrSl (o := 1) (n := 16) (X := a.2) (lo := 0) (hi := 4) (hS.box 0 rfl) rfl ⟨by decide, by decide, by decide⟩ (by decide)) rfl) ?_
    refine HO.val (v := .string (bs (cut a.2.1 0 4))) (want_none) rfl (q_assign rfl) ?_
    refine HO.nil (thenQ_normal (?_))
    refine HW.ret (?_)
    refine ⟨.inr rfl, .string (bs (cut a.2.1 0 4)), res1 rfl (rt rfl), ?_⟩
    replace hS : St F (fr) h_1 := hS.perm2 [] 1 rfl rfl
    exact ⟨F, cut a.2.1 0 4, rfl, hK, hS, hM⟩

def addr_Cmp_j1 (a : T_api_Addr) (b : T_api_Addr) (Q : Int → Prop) : Prop :=
  addr_bytes_W a (fun r_2 => addr_bytes_W b (fun r_3 => Q (scmp r_2 r_3)))
def addr_Cmp_j2 (a : T_api_Addr) (b : T_api_Addr) (Q : Int → Prop) (b_3 : Bool) : Prop :=
  (b_3 = true → Q 1) ∧ (b_3 = false → ((!a.1) = true → (b.1 = true → Q (-1)) ∧ (b.1 = false → addr_Cmp_j1 a b Q)) ∧ ((!a.1) = false → addr_Cmp_j1 a b Q))
def addr_Cmp_W (a : T_api_Addr) (b : T_api_Addr) (Q : Int → Prop) : Prop :=
  (a.1 = true → addr_Cmp_j2 a b Q (!b.1)) ∧ (a.1 = false → addr_Cmp_j2 a b Q false)
set_option maxHeartbeats 40000000 in
set_option maxRecDepth 100000 in
theorem addr_Cmp_walk {F : Fz} {fr : List Ow} {h0 : Heap} (a : T_api_Addr) (b : T_api_Addr) (hS : St F (fr) h0)  {Q : Int → Prop} (hM : addr_Cmp_W a b Q) :
    HC Tryd.prog 59 #[.agg (e_api_Addr a).toArray, .agg (e_api_Addr b).toArray] h0 fun u h' => ∃ (F' : Fz) (r_1 : Int), u = .int .i64 r_1 ∧ Kp F h0 F' h' ∧ St F' (fr) h' ∧ Q r_1 := by
  unfold addr_Cmp_W at hM
  have hK := Kp.refl F h0
  refine HC.of_HW (n := 26) Tryd.func59 rfl rfl (Nat.le_of_ble_eq_true rfl) ?_
  refine HW.seq ?_
  refine HW.region ?_
  refine HO.eff (want_none) rfl (st_box (c := (e_api_Addr a).toArray) (k' := 17) hS rfl rfl) ?_
  rintro _ h_1 ⟨b_1, rfl, hS, hk⟩
  replace hK := hK.trans hk
  refine HO.eff (want_none) rfl (st_box (c := (e_api_Addr b).toArray) (k' := 17) hS rfl rfl) ?_
  rintro _ h_2 ⟨b_2, rfl, hS, hk⟩
  replace hK := hK.trans hk
  refine HO.val (v := .int .i64 0) (want_none) rfl (q_assign rfl) ?_
  refine HO.nil (thenQ_normal (?_))
  refine HW.seq_mid (fun f h => ∃ (F' : Fz), f 2 = .pointer (some ⟨b_1, 0, none⟩) ∧ f 3 = .pointer (some ⟨b_2, 0, none⟩) ∧ f 4 = .int .i64 0 ∧ Kp F h0 F' h ∧ St F' (Ow.box b_1 27 (e_api_Addr a).toArray :: Ow.box b_2 27 (e_api_Addr b).toArray :: fr) h ∧ addr_Cmp_j1 a b Q) ?_ ?_
  · refine HW.block ?_
    refine HW.seq_mid (fun f h => ∃ (F' : Fz) (b_3 : Bool), f 2 = .pointer (some ⟨b_1, 0, none⟩) ∧ f 3 = .pointer (some ⟨b_2, 0, none⟩) ∧ f 4 = .int .i64 0 ∧ f 5 = .bool b_3 ∧ Kp F h0 F' h ∧ St F' (Ow.box b_1 27 (e_api_Addr a).toArray :: Ow.box b_2 27 (e_api_Addr b).toArray :: fr) h ∧ addr_Cmp_j2 a b Q b_3) ?_ ?_
    · refine HW.region ?_
      refine HO.val (v := .pointer (some ⟨b_1, 0, none⟩)) (want_none) rfl (q_fieldAddr fa_27_0 rfl rfl) ?_
      refine HO.val (v := .bool a.1) (want_none) rfl (q_load to_4 rfl (Blk.cell (hS.box 1 rfl) rfl)) ?_
      refine HO.val (v := .bool a.1) (want_none) rfl (q_move rfl) ?_
      rcases Bool.eq_false_or_eq_true a.1 with c_1 | c_1
      · replace hM := hM.1 c_1
        refine HO.val (v := .pointer (some ⟨b_2, 0, none⟩)) (want_by rfl rfl c_1) rfl (q_fieldAddr fa_27_0 rfl rfl) ?_
        refine HO.val (v := .bool b.1) (want_by rfl rfl c_1) rfl (q_load to_4 rfl (Blk.cell (hS.box 0 rfl) rfl)) ?_
        refine HO.val (v := .bool (!b.1)) (want_by rfl rfl c_1) rfl (q_not rfl) ?_
        refine HO.val (v := .bool (!b.1)) (want_none) rfl (q_pickK true rfl c_1 rfl) ?_
        refine HO.val (v := .bool (!b.1)) (want_none) rfl (q_assign rfl) ?_
        refine HO.nil (thenQ_normal (?_))
        replace hS : St F (Ow.box b_1 27 (e_api_Addr a).toArray :: Ow.box b_2 27 (e_api_Addr b).toArray :: fr) h_2 := hS.perm2 [1, 0] 2 rfl rfl
        exact ⟨F, !b.1, rfl, rfl, rfl, rfl, hK, hS, hM⟩
      · replace hM := hM.2 c_1
        refine HO.past (past_by rfl rfl c_1) rfl ?_
        refine HO.past (past_by rfl rfl c_1) rfl ?_
        refine HO.past (past_by rfl rfl c_1) rfl ?_
        refine HO.val (v := .bool false) (want_none) rfl (q_pickK false rfl c_1 rfl) ?_
        refine HO.val (v := .bool false) (want_none) rfl (q_assign rfl) ?_
        refine HO.nil (thenQ_normal (?_))
        replace hS : St F (Ow.box b_1 27 (e_api_Addr a).toArray :: Ow.box b_2 27 (e_api_Addr b).toArray :: fr) h_2 := hS.perm2 [1, 0] 2 rfl rfl
        exact ⟨F, false, rfl, rfl, rfl, rfl, hK, hS, hM⟩
    · rintro f_1 h_3 ⟨F_1, b_3, e2, e3, e4, e5, hK, hS, hM⟩
      unfold addr_Cmp_j2 at hM
      refine HW.fr [(2, .pointer (some ⟨b_1, 0, none⟩)), (3, .pointer (some ⟨b_2, 0, none⟩)), (4, .int .i64 0), (5, .bool b_3)] ⟨e2, e3, e4, e5, trivial⟩ ?_
      refine HW.cond b_3 rfl (fun c_2 => ?_) (fun c_2 => ?_)
      · replace hM := hM.1 c_2
        refine HW.seq ?_
        refine HW.region ?_
        refine HO.val (v := .int .i64 1) (want_none) rfl (q_assign rfl) ?_
        refine HO.nil (thenQ_normal (?_))
        refine HW.ret (blockQ_ret (thenQ_ret (?_)))
        refine ⟨.inr rfl, .int .i64 1, res1 rfl (rt rfl), ?_⟩
        replace hS : St F_1 (fr) h_3 := hS.perm2 [] 2 rfl rfl
        exact ⟨F_1, 1, rfl, hK, hS, hM⟩
      · replace hM := hM.2 c_2
        refine HW.seq ?_
        refine HW.region ?_
        refine HO.val (v := .pointer (some ⟨b_1, 0, none⟩)) (want_none) rfl (q_fieldAddr fa_27_0 rfl rfl) ?_
        refine HO.val (v := .bool a.1) (want_none) rfl (q_load to_4 rfl (Blk.cell (hS.box 0 rfl) rfl)) ?_
        refine HO.val (v := .bool (!a.1)) (want_none) rfl (q_not rfl) ?_
        refine HO.val (v := .bool (!a.1)) (want_none) rfl (q_move rfl) ?_
        rcases Bool.eq_false_or_eq_true (!a.1) with c_3 | c_3
        · replace hM := hM.1 c_3
          refine HO.val (v := .pointer (some ⟨b_2, 0, none⟩)) (want_by rfl rfl c_3) rfl (q_fieldAddr fa_27_0 rfl rfl) ?_
          refine HO.val (v := .bool b.1) (want_by rfl rfl c_3) rfl (q_load to_4 rfl (Blk.cell (hS.box 1 rfl) rfl)) ?_
          refine HO.val (v := .bool b.1) (want_none) rfl (q_pickK true rfl c_3 rfl) ?_
          refine HO.val (v := .bool b.1) (want_none) rfl (q_assign rfl) ?_
          refine HO.nil (thenQ_normal (?_))
          refine HW.cond b.1 rfl (fun c_4 => ?_) (fun c_4 => ?_)
          · replace hM := hM.1 c_4
            refine HW.seq ?_
            refine HW.region ?_
            refine HO.val (v := .int .i64 (-1)) (want_none) rfl (q_assign rfl) ?_
            refine HO.nil (thenQ_normal (?_))
            refine HW.ret (blockQ_ret (thenQ_ret (?_)))
            refine ⟨.inr rfl, .int .i64 (-1), res1 rfl (rt rfl), ?_⟩
            replace hS : St F_1 (fr) h_3 := hS.perm2 [] 2 rfl rfl
            exact ⟨F_1, (-1), rfl, hK, hS, hM⟩
          · replace hM := hM.2 c_4
            refine HW.skip (blockQ_normal (thenQ_normal (?_)))
            exact ⟨F_1, rfl, rfl, rfl, hK, hS, hM⟩
        · replace hM := hM.2 c_3
          refine HO.past (past_by rfl rfl c_3) rfl ?_
          refine HO.past (past_by rfl rfl c_3) rfl ?_
          refine HO.val (v := .bool false) (want_none) rfl (q_pickK false rfl c_3 rfl) ?_
          refine HO.val (v := .bool false) (want_none) rfl (q_assign rfl) ?_
          refine HO.nil (thenQ_normal (?_))
          refine HW.condF rfl ?_
          refine HW.skip (blockQ_normal (thenQ_normal (?_)))
          exact ⟨F_1, rfl, rfl, rfl, hK, hS, hM⟩
  · rintro f_2 h_4 ⟨F_2, e2, e3, e4, hK, hS, hM⟩
    unfold addr_Cmp_j1 at hM
    refine HW.fr [(2, .pointer (some ⟨b_1, 0, none⟩)), (3, .pointer (some ⟨b_2, 0, none⟩)), (4, .int .i64 0)] ⟨e2, e3, e4, trivial⟩ ?_
    refine HW.seq ?_
    refine HW.regionA 6 mixed (fun h => (Blk h b_1 (.cells (e_api_Addr a).toArray 27 (0, 0))) ∧ (Blk h b_2 (.cells (e_api_Addr b).toArray 27 (0, 0)))) [] (by kernel_rfl) ?_
    refine HA.val (k := 0) (v := .agg (e_api_Addr a).toArray) rfl rfl (by kernel_rfl) (by kernel_rfl) (want_none) rfl (fun _ ⟨c203, c204⟩ => q_loadAgg (cs := (e_api_Addr a)) ta_27 rfl rfl (Blk.cells (k := 17) c203 rfl)) ?_
    refine HA.val (k := 2) (v := .agg (e_api_Addr b).toArray) rfl rfl (by kernel_rfl) (by kernel_rfl) (want_none) rfl (fun _ ⟨c203, c204⟩ => q_loadAgg (cs := (e_api_Addr b)) ta_27 rfl rfl (Blk.cells (k := 17) c204 rfl)) ?_
    refine HA.one (k := 1) ⟨⟨(hS.box 0 rfl), (hS.box 1 rfl)⟩, (Go.Wk.at_nil _ _)⟩ (by kernel_rfl) ?_
    refine HS.call rfl (want_none) rfl (ec en_75 rfl rfl) (addr_bytes_walk (fr := (Ow.box b_1 27 (e_api_Addr a).toArray :: Ow.box b_2 27 (e_api_Addr b).toArray :: fr)) a hS hM) ?_
    rintro _ h_5 ⟨F_3, r_2, rfl, hk, hS, hM⟩
    replace hK := hK.trans hk
    refine HA.one (k := 3) ⟨⟨(hS.box 0 rfl), (hS.box 1 rfl)⟩, (Go.Wk.at_nil _ _)⟩ (by kernel_rfl) ?_
    refine HS.call rfl (want_none) rfl (ec en_75 rfl rfl) (addr_bytes_walk (fr := (Ow.box b_1 27 (e_api_Addr a).toArray :: Ow.box b_2 27 (e_api_Addr b).toArray :: fr)) b hS hM) ?_
    rintro _ h_6 ⟨F_4, r_3, rfl, hk, hS, hM⟩
    replace hK := hK.trans hk
    refine HA.one (k := 4) ⟨⟨(hS.box 0 rfl), (hS.box 1 rfl)⟩, (Go.Wk.at_nil _ _)⟩ (by kernel_rfl) ?_
    refine HS.call rfl (want_none) rfl (ec en_74 rfl rfl) (strCompare_hc Tryd.strCmp r_2 r_3 _) ?_
    rintro _ h_7 ⟨rfl, hEq⟩
    rw [hEq]
    refine HA.val (k := 5) (v := .int .i64 (scmp r_2 r_3)) rfl rfl (by kernel_rfl) (by kernel_rfl) (want_none) rfl (fun _ ⟨c203, c204⟩ => q_assign rfl) ?_
    refine HA.nil ⟨⟨(hS.box 0 rfl), (hS.box 1 rfl)⟩, (Go.Wk.at_nil _ _)⟩ (by kernel_rfl) (thenQ_normal (?_))
    refine HW.ret (?_)
    refine ⟨.inr rfl, .int .i64 (scmp r_2 r_3), res1 rfl (rt rfl), ?_⟩
    replace hS : St F_4 (fr) h_6 := hS.perm2 [] 2 rfl rfl
    exact ⟨F_4, scmp r_2 r_3, rfl, hK, hS, hM⟩

def srcs_minus_W (a : List T_api_Addr) (b : List T_api_Addr) (Q : (List T_api_Addr) → Prop) : Prop :=
  ∃ cf_1 : T_api_Addr → T_api_Addr → Int, (∀ x0 x1, addr_Cmp_W x0 x1 (fun r => r = cf_1 x0 x1)) ∧ (srcs_walk_api_Addr_W a b cf_1 true false false (fun r_2 => Q r_2))
set_option maxHeartbeats 40000000 in
set_option maxRecDepth 100000 in
theorem srcs_minus_walk {F : Fz} {fr : List Ow} {h0 : Heap} (a : List T_api_Addr) (b : List T_api_Addr) (va : Value) (vb : Value) (hS : St F (fr) h0) (hL_a : SliceF F h0 17 e_api_Addr va a) (hL_b : SliceF F h0 17 e_api_Addr vb b) {Q : (List T_api_Addr) → Prop} (hM : srcs_minus_W a b Q) :
    HC Tryd.prog 65 #[va, vb] h0 fun u h' => ∃ (F' : Fz) (r_1 : List T_api_Addr) (vr_1 : Value), u = vr_1 ∧ Kp F h0 F' h' ∧ St F' (Ow.own 27 17 e_api_Addr vr_1 r_1 :: fr) h' ∧ (SliceF F' h' 17 e_api_Addr va a) ∧ (SliceF F' h' 17 e_api_Addr vb b) ∧ Q r_1 := by
  unfold srcs_minus_W at hM
  have hK := Kp.refl F h0
  refine HC.of_HW (n := 8) Tryd.func65 rfl rfl (Nat.le_of_ble_eq_true rfl) ?_
  refine HW.seq ?_
  refine HW.region ?_
  refine HO.val (v := .slice none 0 0) (want_none) rfl (q_assign rfl) ?_
  refine HO.nil (thenQ_normal (?_))
  refine HW.seq ?_
  refine HW.region ?_
  refine HO.val (v := va) (want_none) rfl (q_move rfl) ?_
  refine HO.val (v := vb) (want_none) rfl (q_move rfl) ?_
  obtain ⟨cf_1, hc_1, hM⟩ := hM
  have hF_1 : FnP Tryd.prog F h0 59 #[] #[] (fun x : T_api_Addr × T_api_Addr => [.agg (e_api_Addr x.1).toArray, .agg (e_api_Addr x.2).toArray]) (fun x => .int .i64 (cf_1 x.1 x.2)) := FnP.of en_59 (fun x h' hk_ => @HC.mono ⟨true⟩ _ _ _ _ _ _ (@addr_Cmp_walk ⟨true⟩ (allF h') [] h' x.1 x.2  (St.init h')  (fun r => r = cf_1 x.1 x.2) (hc_1 x.1 x.2)) (fun u h'' ⟨F', r, hu, k_, _, hr⟩ => ⟨by rw [hu, hr], F', k_⟩))
  refine HO.call (want_none) rfl (ec en_64 rfl rfl) (srcs_walk_api_Addr_walk (fr := (fr)) a b cf_1 true false false va vb 59 (#[]) (#[]) hS hL_a hL_b hF_1 hM) ?_
  rintro vr_2 h_1 ⟨F_1, r_2, _, rfl, hk, hS, _, _, _, hM⟩
  replace hK := hK.trans hk
  replace hL_a := hL_a.kp hk
  replace hL_b := hL_b.kp hk
  replace hF_1 := hF_1.kp hk
  refine HO.val (v := vr_2) (want_none) rfl (q_assign rfl) ?_
  refine HO.nil (thenQ_normal (?_))
  refine HW.ret (?_)
  refine ⟨.inr rfl, vr_2, res1 rfl (rt rfl), ?_⟩
  exact ⟨F_1, r_2, vr_2, rfl, hK, hS, hL_a, hL_b, hM⟩

def srcs_Minus_W (a : List T_api_Addr) (b : List T_api_Addr) (Q : (List T_api_Addr) → Prop) : Prop :=
  srcs_minus_W a b (fun r_2 => Q r_2)
set_option maxHeartbeats 40000000 in
set_option maxRecDepth 100000 in
theorem srcs_Minus_walk {F : Fz} {fr : List Ow} {h0 : Heap} (a : List T_api_Addr) (b : List T_api_Addr) (va : Value) (vb : Value) (hS : St F (fr) h0) (hL_a : SliceF F h0 17 e_api_Addr va a) (hL_b : SliceF F h0 17 e_api_Addr vb b) {Q : (List T_api_Addr) → Prop} (hM : srcs_Minus_W a b Q) :
    HC Tryd.prog 41 #[va, vb] h0 fun u h' => ∃ (F' : Fz) (r_1 : List T_api_Addr) (vr_1 : Value), u = vr_1 ∧ Kp F h0 F' h' ∧ St F' (Ow.own 27 17 e_api_Addr vr_1 r_1 :: fr) h' ∧ (SliceF F' h' 17 e_api_Addr va a) ∧ (SliceF F' h' 17 e_api_Addr vb b) ∧ Q r_1 := by
  unfold srcs_Minus_W at hM
  have hK := Kp.refl F h0
  refine HC.of_HW (n := 8) Tryd.func41 rfl rfl (Nat.le_of_ble_eq_true rfl) ?_
  refine HW.seq ?_
  refine HW.region ?_
  refine HO.val (v := .slice none 0 0) (want_none) rfl (q_assign rfl) ?_
  refine HO.nil (thenQ_normal (?_))
  refine HW.seq ?_
  refine HW.region ?_
  refine HO.val (v := va) (want_none) rfl (q_move rfl) ?_
  refine HO.val (v := vb) (want_none) rfl (q_move rfl) ?_
  refine HO.call (want_none) rfl (ec en_65 rfl rfl) (srcs_minus_walk (fr := (fr)) a b va vb hS hL_a hL_b hM) ?_
  rintro vr_2 h_1 ⟨F_1, r_2, _, rfl, hk, hS, _, _, hM⟩
  replace hK := hK.trans hk
  replace hL_a := hL_a.kp hk
  replace hL_b := hL_b.kp hk
  refine HO.val (v := vr_2) (want_none) rfl (q_assign rfl) ?_
  refine HO.nil (thenQ_normal (?_))
  refine HW.ret (?_)
  refine ⟨.inr rfl, vr_2, res1 rfl (rt rfl), ?_⟩
  exact ⟨F_1, r_2, vr_2, rfl, hK, hS, hL_a, hL_b, hM⟩

def merge_Change_j1 (g : T_api_Addr) (next_Sources : List T_api_Addr) (Q : (List T_api_Record) → Prop) (kind_1 : Int) : Prop :=
  slices_Clone_s_api_Addr_api_Addr_W next_Sources (fun r_2 => ∀ vr_2 : Value, (Q ([(kind_1, g, (vr_2, r_2))] : List T_api_Record)))
def merge_Change_j3 (g : T_api_Addr) (Q : (List T_api_Record) → Prop) (less_1 : List T_api_Addr) (out_1 : List T_api_Record) : Prop :=
  (0 < (less_1.length : Int) → ∀ vless_1 : Value, (((out_1.length + ([(6, g, (vless_1, less_1))] : List T_api_Record).length) * 56 ≤ 140737488355328) ∧ (Q (out_1 ++ ([(6, g, (vless_1, less_1))] : List T_api_Record))))) ∧ (¬ (0 < (less_1.length : Int)) → Q out_1)
def merge_Change_j2 (g : T_api_Addr) (Q : (List T_api_Record) → Prop) (more_1 : List T_api_Addr) (less_1 : List T_api_Addr) : Prop :=
  (0 < (more_1.length : Int) → ∀ vmore_1 : Value, (((([(5, g, (vmore_1, more_1))] : List T_api_Record)).length * 56 ≤ 140737488355328) ∧ (merge_Change_j3 g Q less_1 ([(5, g, (vmore_1, more_1))] : List T_api_Record)))) ∧ (¬ (0 < (more_1.length : Int)) → merge_Change_j3 g Q less_1 [])
def merge_Change_W (g : T_api_Addr) (old_Exclude : Bool) (old_Sources : List T_api_Addr) (next_Exclude : Bool) (next_Sources : List T_api_Addr) (Q : (List T_api_Record) → Prop) : Prop :=
  ((!(old_Exclude == next_Exclude)) = true → (next_Exclude = true → merge_Change_j1 g next_Sources Q 4) ∧ (next_Exclude = false → merge_Change_j1 g next_Sources Q 3)) ∧ ((!(old_Exclude == next_Exclude)) = false → srcs_Minus_W next_Sources old_Sources (fun r_3 => srcs_Minus_W old_Sources next_Sources (fun r_4 => (old_Exclude = true → merge_Change_j2 g Q r_4 r_3) ∧ (old_Exclude = false → merge_Change_j2 g Q r_3 r_4))))
set_option maxHeartbeats 40000000 in
set_option maxRecDepth 100000 in
theorem merge_Change_walk {F : Fz} {fr : List Ow} {h0 : Heap} (g : T_api_Addr) (old_Exclude : Bool) (old_Sources : List T_api_Addr) (next_Exclude : Bool) (next_Sources : List T_api_Addr) (vold_Sources : Value) (vnext_Sources : Value) (hS : St F (fr) h0) (hL_old_Sources : SliceF F h0 17 e_api_Addr vold_Sources old_Sources) (hL_next_Sources : SliceF F h0 17 e_api_Addr vnext_Sources next_Sources) {Q : (List T_api_Record) → Prop} (hM : merge_Change_W g old_Exclude old_Sources next_Exclude next_Sources Q) :
    HC Tryd.prog 10 #[.agg (e_api_Addr g).toArray, .agg #[.bool old_Exclude, vold_Sources], .agg #[.bool next_Exclude, vnext_Sources]] h0 fun u h' => ∃ (F' : Fz) (r_1 : List T_api_Record) (vr_1 : Value), u = vr_1 ∧ Kp F h0 F' h' ∧ St F' (Ow.own 40 19 e_api_Record vr_1 r_1 :: fr) h' ∧ (SliceF F' h' 17 e_api_Addr vold_Sources old_Sources) ∧ (SliceF F' h' 17 e_api_Addr vnext_Sources next_Sources) ∧ (NfL nf_api_Record F' h' r_1) ∧ Q r_1 := by
  unfold merge_Change_W at hM
  have hK := Kp.refl F h0
  refine HC.of_HW (n := 58) Tryd.func10 rfl rfl (Nat.le_of_ble_eq_true rfl) ?_
  refine HW.seq ?_
  refine HW.region ?_
  refine HO.eff (want_none) rfl (st_box (c := (e_api_Addr g).toArray) (k' := 17) hS rfl rfl) ?_
  rintro _ h_1 ⟨b_1, rfl, hS, hk⟩
  replace hK := hK.trans hk
  replace hL_old_Sources := hL_old_Sources.kp hk
  replace hL_next_Sources := hL_next_Sources.kp hk
  refine HO.eff (want_none) rfl (st_box (c := #[.bool old_Exclude, vold_Sources]) (k' := 2) hS rfl rfl) ?_
  rintro _ h_2 ⟨b_2, rfl, hS, hk⟩
  replace hK := hK.trans hk
  replace hL_old_Sources := hL_old_Sources.kp hk
  replace hL_next_Sources := hL_next_Sources.kp hk
  refine HO.eff (want_none) rfl (st_box (c := #[.bool next_Exclude, vnext_Sources]) (k' := 2) hS rfl rfl) ?_
  rintro _ h_3 ⟨b_3, rfl, hS, hk⟩
  replace hK := hK.trans hk
  replace hL_old_Sources := hL_old_Sources.kp hk
  replace hL_next_Sources := hL_next_Sources.kp hk
  refine HO.val (v := .slice none 0 0) (want_none) rfl (q_assign rfl) ?_
  refine HO.nil (thenQ_normal (?_))
  refine HW.seq ?_
  refine HW.region ?_
  refine HO.val (v := .slice none 0 0) (want_none) rfl (q_assign rfl) ?_
  refine HO.nil (thenQ_normal (?_))
  refine HW.seq ?_
  refine HW.seq ?_
  refine HW.region ?_
  refine HO.val (v := .pointer (some ⟨b_2, 0, none⟩)) (want_none) rfl (q_fieldAddr fa_24_0 rfl rfl) ?_
  refine HO.val (v := .bool old_Exclude) (want_none) rfl (q_load to_4 rfl (Blk.cell (hS.box 1 rfl) rfl)) ?_
  refine HO.val (v := .pointer (some ⟨b_3, 0, none⟩)) (want_none) rfl (q_fieldAddr fa_24_0 rfl rfl) ?_
  refine HO.val (v := .bool next_Exclude) (want_none) rfl (q_load to_4 rfl (Blk.cell (hS.box 0 rfl) rfl)) ?_
  refine HO.val (v := .bool (!(old_Exclude == next_Exclude))) (want_none) rfl (q_neqB Tryd.underlying4 rfl rfl) ?_
  refine HO.nil (thenQ_normal (?_))
  refine HW.cond (!(old_Exclude == next_Exclude)) rfl (fun c_1 => ?_) (fun c_1 => ?_)
  · replace hM := hM.1 c_1
    refine HW.seq ?_
    refine HW.region ?_
    refine HO.val (v := .int .i64 3) (want_none) rfl (q_assign rfl) ?_
    refine HO.nil (thenQ_normal (?_))
    refine HW.seq_mid (fun f h => ∃ (F' : Fz) (kind_1 : Int), f 3 = .pointer (some ⟨b_1, 0, none⟩) ∧ f 4 = .pointer (some ⟨b_2, 0, none⟩) ∧ f 5 = .pointer (some ⟨b_3, 0, none⟩) ∧ f 6 = .slice none 0 0 ∧ f 7 = .slice none 0 0 ∧ f 8 = .int .i64 kind_1 ∧ Kp F h0 F' h ∧ St F' (Ow.box b_1 27 (e_api_Addr g).toArray :: Ow.box b_2 24 #[.bool old_Exclude, vold_Sources] :: Ow.box b_3 24 #[.bool next_Exclude, vnext_Sources] :: fr) h ∧ (SliceF F' h 17 e_api_Addr vold_Sources old_Sources) ∧ (SliceF F' h 17 e_api_Addr vnext_Sources next_Sources) ∧ merge_Change_j1 g next_Sources Q kind_1) ?_ ?_
    · refine HW.seq ?_
      refine HW.region ?_
      refine HO.val (v := .pointer (some ⟨b_3, 0, none⟩)) (want_none) rfl (q_fieldAddr fa_24_0 rfl rfl) ?_
      refine HO.val (v := .bool next_Exclude) (want_none) rfl (q_load to_4 rfl (Blk.cell (hS.box 0 rfl) rfl)) ?_
      refine HO.nil (thenQ_normal (?_))
      refine HW.cond next_Exclude rfl (fun c_2 => ?_) (fun c_2 => ?_)
      · replace hM := hM.1 c_2
        refine HW.region ?_
        refine HO.val (v := .int .i64 4) (want_none) rfl (q_assign rfl) ?_
        refine HO.nil (thenQ_normal (?_))
        replace hS : St F (Ow.box b_1 27 (e_api_Addr g).toArray :: Ow.box b_2 24 #[.bool old_Exclude, vold_Sources] :: Ow.box b_3 24 #[.bool next_Exclude, vnext_Sources] :: fr) h_3 := hS.perm2 [2, 1, 0] 3 rfl rfl
        exact ⟨F, 4, rfl, rfl, rfl, rfl, rfl, rfl, hK, hS, hL_old_Sources, hL_next_Sources, hM⟩
      · replace hM := hM.2 c_2
        refine HW.skip (thenQ_normal (?_))
        replace hS : St F (Ow.box b_1 27 (e_api_Addr g).toArray :: Ow.box b_2 24 #[.bool old_Exclude, vold_Sources] :: Ow.box b_3 24 #[.bool next_Exclude, vnext_Sources] :: fr) h_3 := hS.perm2 [2, 1, 0] 3 rfl rfl
        exact ⟨F, 3, rfl, rfl, rfl, rfl, rfl, rfl, hK, hS, hL_old_Sources, hL_next_Sources, hM⟩
    · rintro f_1 h_4 ⟨F_1, kind_1, e3, e4, e5, e6, e7, e8, hK, hS, hL_old_Sources, hL_next_Sources, hM⟩
      unfold merge_Change_j1 at hM
      refine HW.fr [(3, .pointer (some ⟨b_1, 0, none⟩)), (4, .pointer (some ⟨b_2, 0, none⟩)), (5, .pointer (some ⟨b_3, 0, none⟩)), (6, .slice none 0 0), (7, .slice none 0 0), (8, .int .i64 kind_1)] ⟨e3, e4, e5, e6, e7, e8, trivial⟩ ?_
      refine HW.seq ?_
      refine HW.regionA 8 mixed (fun h => (Blk h b_1 (.cells (e_api_Addr g).toArray 27 (0, 0))) ∧ (Blk h b_3 (.cells #[.bool next_Exclude, vnext_Sources] 24 (0, 0)))) [] (by kernel_rfl) ?_
      refine HA.val (k := 0) (v := .int .i64 kind_1) rfl rfl (by kernel_rfl) (by kernel_rfl) (want_none) rfl (fun _ ⟨c205, c207⟩ => q_move rfl) ?_
      refine HA.val (k := 1) (v := .agg (e_api_Addr g).toArray) rfl rfl (by kernel_rfl) (by kernel_rfl) (want_none) rfl (fun _ ⟨c205, c207⟩ => q_loadAgg (cs := (e_api_Addr g)) ta_27 rfl rfl (Blk.cells (k := 17) c205 rfl)) ?_
      refine HA.val (k := 2) (v := .pointer (some ⟨b_3, 1, none⟩)) rfl rfl (by kernel_rfl) (by kernel_rfl) (want_none) rfl (fun _ ⟨c205, c207⟩ => q_fieldAddr fa_24_1 rfl rfl) ?_
      refine HA.val (k := 3) (v := vnext_Sources) rfl rfl (by kernel_rfl) (by kernel_rfl) (want_none) rfl (fun _ ⟨c205, c207⟩ => q_load to_22 rfl (Blk.cell c207 rfl)) ?_
      refine HA.one (k := 4) ⟨⟨(hS.box 0 rfl), (hS.box 2 rfl)⟩, (Go.Wk.at_nil _ _)⟩ (by kernel_rfl) ?_
      refine HS.call rfl (want_none) rfl (ec en_48 rfl rfl) (slices_Clone_s_api_Addr_api_Addr_walk (fr := (Ow.box b_1 27 (e_api_Addr g).toArray :: Ow.box b_2 24 #[.bool old_Exclude, vold_Sources] :: Ow.box b_3 24 #[.bool next_Exclude, vnext_Sources] :: fr)) next_Sources vnext_Sources hS hL_next_Sources hM) ?_
      rintro vr_2 h_5 ⟨F_2, r_2, _, rfl, hk, hS, _, hM⟩
      replace hK := hK.trans hk
      replace hL_old_Sources := hL_old_Sources.kp hk
      replace hL_next_Sources := hL_next_Sources.kp hk
      refine Go.Wk.HA.re (fun h => (Blk h b_1 (.cells (e_api_Addr g).toArray 27 (0, 0))) ∧ (Blk h b_3 (.cells #[.bool next_Exclude, vnext_Sources] 24 (0, 0)))) [(6, fun h => (OwnIs h 0 27 17 e_api_Addr vr_2 r_2))] (fun L_ h_ hL_ ⟨c205, c207⟩ hs_ => ⟨⟨c205, c207⟩, (Go.Wk.at_nil _ _)⟩) ?_
      refine Go.Wk.HA.valN (k := 5) (v := .agg #[.int .i64 kind_1, .bool g.1, .int .u8 (b8 g.2 0), .int .u8 (b8 g.2 1), .int .u8 (b8 g.2 2), .int .u8 (b8 g.2 3), .int .u8 (b8 g.2 4), .int .u8 (b8 g.2 5), .int .u8 (b8 g.2 6), .int .u8 (b8 g.2 7), .int .u8 (b8 g.2 8), .int .u8 (b8 g.2 9), .int .u8 (b8 g.2 10), .int .u8 (b8 g.2 11), .int .u8 (b8 g.2 12), .int .u8 (b8 g.2 13), .int .u8 (b8 g.2 14), .int .u8 (b8 g.2 15), vr_2]) 0 6 (fun h => (OwnIs h 0 27 17 e_api_Addr vr_2 r_2)) rfl rfl (by kernel_rfl) (by kernel_rfl) (want_none) rfl rfl (by kernel_rfl) (fun _ ⟨c205, c207⟩ c232 => q_build tp_40 (fill_cons (cs' := #[.int .i64 kind_1, .bool false, .int .u8 (b8 (default : Ba 16) 0), .int .u8 (b8 (default : Ba 16) 1), .int .u8 (b8 (default : Ba 16) 2), .int .u8 (b8 (default : Ba 16) 3), .int .u8 (b8 (default : Ba 16) 4), .int .u8 (b8 (default : Ba 16) 5), .int .u8 (b8 (default : Ba 16) 6), .int .u8 (b8 (default : Ba 16) 7), .int .u8 (b8 (default : Ba 16) 8), .int .u8 (b8 (default : Ba 16) 9), .int .u8 (b8 (default : Ba 16) 10), .int .u8 (b8 (default : Ba 16) 11), .int .u8 (b8 (default : Ba 16) 12), .int .u8 (b8 (default : Ba 16) 13), .int .u8 (b8 (default : Ba 16) 14), .int .u8 (b8 (default : Ba 16) 15), .slice none 0 0]) (vc := #[.int .i64 kind_1]) rfl rfl rfl (Nat.le_of_ble_eq_true rfl) rfl (fill_cons (cs' := #[.int .i64 kind_1, .bool g.1, .int .u8 (b8 g.2 0), .int .u8 (b8 g.2 1), .int .u8 (b8 g.2 2), .int .u8 (b8 g.2 3), .int .u8 (b8 g.2 4), .int .u8 (b8 g.2 5), .int .u8 (b8 g.2 6), .int .u8 (b8 g.2 7), .int .u8 (b8 g.2 8), .int .u8 (b8 g.2 9), .int .u8 (b8 g.2 10), .int .u8 (b8 g.2 11), .int .u8 (b8 g.2 12), .int .u8 (b8 g.2 13), .int .u8 (b8 g.2 14), .int .u8 (b8 g.2 15), .slice none 0 0]) (vc := (e_api_Addr g).toArray) rfl rfl rfl (Nat.le_of_ble_eq_true rfl) rfl (fill_cons (cs' := #[.int .i64 kind_1, .bool g.1, .int .u8 (b8 g.2 0), .int .u8 (b8 g.2 1), .int .u8 (b8 g.2 2), .int .u8 (b8 g.2 3), .int .u8 (b8 g.2 4), .int .u8 (b8 g.2 5), .int .u8 (b8 g.2 6), .int .u8 (b8 g.2 7), .int .u8 (b8 g.2 8), .int .u8 (b8 g.2 9), .int .u8 (b8 g.2 10), .int .u8 (b8 g.2 11), .int .u8 (b8 g.2 12), .int .u8 (b8 g.2 13), .int .u8 (b8 g.2 14), .int .u8 (b8 g.2 15), vr_2]) (vc := #[vr_2]) rfl (shp c232.slice).cells rfl (Nat.le_of_ble_eq_true rfl) rfl rfl)))) ?_
      refine HA.one (k := 6) ⟨⟨(hS.box 1 rfl), (hS.box 3 rfl)⟩, (at_now (hS.own 0 rfl) (Go.Wk.at_nil _ _))⟩ (by kernel_rfl) ?_
      obtain ⟨F_3, hS, hk, hL_1⟩ := hS.freezeOwn
      replace hK := hK.trans hk
      replace hL_old_Sources := hL_old_Sources.kp hk
      replace hL_next_Sources := hL_next_Sources.kp hk
      replace hM := hM vr_2
      refine HS.eff rfl (want_none) rfl (st_lit (enc := e_api_Record) (cells := #[.int .i64 kind_1, .bool g.1, .int .u8 (b8 g.2 0), .int .u8 (b8 g.2 1), .int .u8 (b8 g.2 2), .int .u8 (b8 g.2 3), .int .u8 (b8 g.2 4), .int .u8 (b8 g.2 5), .int .u8 (b8 g.2 6), .int .u8 (b8 g.2 7), .int .u8 (b8 g.2 8), .int .u8 (b8 g.2 9), .int .u8 (b8 g.2 10), .int .u8 (b8 g.2 11), .int .u8 (b8 g.2 12), .int .u8 (b8 g.2 13), .int .u8 (b8 g.2 14), .int .u8 (b8 g.2 15), vr_2]) #[.int .i64 0, .bool false, .int .u8 0, .int .u8 0, .int .u8 0, .int .u8 0, .int .u8 0, .int .u8 0, .int .u8 0, .int .u8 0, .int .u8 0, .int .u8 0, .int .u8 0, .int .u8 0, .int .u8 0, .int .u8 0, .int .u8 0, .int .u8 0, .slice none 0 0] ([(kind_1, g, (vr_2, r_2))] : List T_api_Record) hS tl_31 (by decide) (by decide) (by kernel_rfl) (by kernel_rfl) rfl (by intro x hx; rfl) rfl) ?_
      rintro _ h_6 ⟨b_4, rfl, hS, hk⟩
      replace hK := hK.trans hk
      replace hL_old_Sources := hL_old_Sources.kp hk
      replace hL_next_Sources := hL_next_Sources.kp hk
      replace hL_1 := hL_1.kp hk
      have hN_2 : NfL nf_api_Record F_3 h_6 ([(kind_1, g, (vr_2, r_2))] : List T_api_Record) := (NfL.cons (nfm_api_Record (kind_1, g, (vr_2, r_2)) hL_1) (NfL.nil _ _ _))
      refine HA.val (k := 7) (v := .slice (some ⟨b_4, 0, none⟩) 1 1) rfl rfl (by kernel_rfl) (by kernel_rfl) (want_none) rfl (fun _ ⟨c205, c207⟩ => q_assign rfl) ?_
      refine HA.nil ⟨⟨(hS.box 1 rfl), (hS.box 3 rfl)⟩, (at_done (by kernel_rfl) (Go.Wk.at_nil _ _))⟩ (by kernel_rfl) (thenQ_normal (?_))
      refine HW.ret (thenQ_ret (?_))
      refine ⟨.inr rfl, .slice (some ⟨b_4, 0, none⟩) 1 1, res1 rfl (rt rfl), ?_⟩
      replace hS : St F_3 (Ow.own 40 19 e_api_Record (.slice (some ⟨b_4, 0, none⟩) 1 1) ([(kind_1, g, (vr_2, r_2))] : List T_api_Record) :: fr) h_6 := hS.perm2 [0] 4 rfl rfl
      exact ⟨F_3, ([(kind_1, g, (vr_2, r_2))] : List T_api_Record), .slice (some ⟨b_4, 0, none⟩) 1 1, rfl, hK, hS, hL_old_Sources, hL_next_Sources, hN_2, hM⟩
  · replace hM := hM.2 c_1
    refine HW.skip (thenQ_normal (?_))
    refine HW.seq ?_
    refine HW.regionA 12 mixed (fun h => (Blk h b_3 (.cells #[.bool next_Exclude, vnext_Sources] 24 (0, 0))) ∧ (Blk h b_2 (.cells #[.bool old_Exclude, vold_Sources] 24 (0, 0)))) [] (by kernel_rfl) ?_
    refine HA.val (k := 0) (v := .pointer (some ⟨b_3, 1, none⟩)) rfl rfl (by kernel_rfl) (by kernel_rfl) (want_none) rfl (fun _ ⟨c204, c203⟩ => q_fieldAddr fa_24_1 rfl rfl) ?_
    refine HA.val (k := 1) (v := vnext_Sources) rfl rfl (by kernel_rfl) (by kernel_rfl) (want_none) rfl (fun _ ⟨c204, c203⟩ => q_load to_22 rfl (Blk.cell c204 rfl)) ?_
    refine HA.val (k := 2) (v := .pointer (some ⟨b_2, 1, none⟩)) rfl rfl (by kernel_rfl) (by kernel_rfl) (want_none) rfl (fun _ ⟨c204, c203⟩ => q_fieldAddr fa_24_1 rfl rfl) ?_
    refine HA.val (k := 3) (v := vold_Sources) rfl rfl (by kernel_rfl) (by kernel_rfl) (want_none) rfl (fun _ ⟨c204, c203⟩ => q_load to_22 rfl (Blk.cell c203 rfl)) ?_
    refine HA.val (k := 5) (v := .pointer (some ⟨b_2, 1, none⟩)) rfl rfl (by kernel_rfl) (by kernel_rfl) (want_none) rfl (fun _ ⟨c204, c203⟩ => q_fieldAddr fa_24_1 rfl rfl) ?_
    refine HA.val (k := 6) (v := vold_Sources) rfl rfl (by kernel_rfl) (by kernel_rfl) (want_none) rfl (fun _ ⟨c204, c203⟩ => q_load to_22 rfl (Blk.cell c203 rfl)) ?_
    refine HA.val (k := 7) (v := .pointer (some ⟨b_3, 1, none⟩)) rfl rfl (by kernel_rfl) (by kernel_rfl) (want_none) rfl (fun _ ⟨c204, c203⟩ => q_fieldAddr fa_24_1 rfl rfl) ?_
    refine HA.val (k := 8) (v := vnext_Sources) rfl rfl (by kernel_rfl) (by kernel_rfl) (want_none) rfl (fun _ ⟨c204, c203⟩ => q_load to_22 rfl (Blk.cell c204 rfl)) ?_
    refine HA.one (k := 4) ⟨⟨(hS.box 0 rfl), (hS.box 1 rfl)⟩, (Go.Wk.at_nil _ _)⟩ (by kernel_rfl) ?_
    refine HS.call rfl (want_none) rfl (ec en_41 rfl rfl) (srcs_Minus_walk (fr := (Ow.box b_3 24 #[.bool next_Exclude, vnext_Sources] :: Ow.box b_2 24 #[.bool old_Exclude, vold_Sources] :: Ow.box b_1 27 (e_api_Addr g).toArray :: fr)) next_Sources old_Sources vnext_Sources vold_Sources hS hL_next_Sources hL_old_Sources hM) ?_
    rintro vr_3 h_7 ⟨F_4, r_3, _, rfl, hk, hS, _, _, hM⟩
    replace hK := hK.trans hk
    replace hL_old_Sources := hL_old_Sources.kp hk
    replace hL_next_Sources := hL_next_Sources.kp hk
    refine HA.one (k := 9) ⟨⟨(hS.box 1 rfl), (hS.box 2 rfl)⟩, (Go.Wk.at_nil _ _)⟩ (by kernel_rfl) ?_
    refine HS.call rfl (want_none) rfl (ec en_41 rfl rfl) (srcs_Minus_walk (fr := (Ow.own 27 17 e_api_Addr vr_3 r_3 :: Ow.box b_3 24 #[.bool next_Exclude, vnext_Sources] :: Ow.box b_2 24 #[.bool old_Exclude, vold_Sources] :: Ow.box b_1 27 (e_api_Addr g).toArray :: fr)) old_Sources next_Sources vold_Sources vnext_Sources hS hL_old_Sources hL_next_Sources hM) ?_
    rintro vr_4 h_8 ⟨F_5, r_4, _, rfl, hk, hS, _, _, hM⟩
    replace hK := hK.trans hk
    replace hL_old_Sources := hL_old_Sources.kp hk
    replace hL_next_Sources := hL_next_Sources.kp hk
    refine HA.val (k := 10) (v := vr_3) rfl rfl (by kernel_rfl) (by kernel_rfl) (want_none) rfl (fun _ ⟨c204, c203⟩ => q_assign rfl) ?_
    refine HA.val (k := 11) (v := vr_4) rfl rfl (by kernel_rfl) (by kernel_rfl) (want_none) rfl (fun _ ⟨c204, c203⟩ => q_assign rfl) ?_
    refine HA.nil ⟨⟨(hS.box 2 rfl), (hS.box 3 rfl)⟩, (Go.Wk.at_nil _ _)⟩ (by kernel_rfl) (thenQ_normal (?_))
    refine HW.seq_mid (fun f h => ∃ (F' : Fz) (more_1 : List T_api_Addr) (less_1 : List T_api_Addr) (vmore_1 : Value) (vless_1 : Value), f 3 = .pointer (some ⟨b_1, 0, none⟩) ∧ f 6 = .slice none 0 0 ∧ f 7 = .slice none 0 0 ∧ f 9 = vmore_1 ∧ f 10 = vless_1 ∧ Kp F h0 F' h ∧ St F' (Ow.box b_1 27 (e_api_Addr g).toArray :: Ow.own 27 17 e_api_Addr vmore_1 more_1 :: Ow.own 27 17 e_api_Addr vless_1 less_1 :: fr) h ∧ (SliceF F' h 17 e_api_Addr vold_Sources old_Sources) ∧ (SliceF F' h 17 e_api_Addr vnext_Sources next_Sources) ∧ merge_Change_j2 g Q more_1 less_1) ?_ ?_
    · refine HW.seq ?_
      refine HW.region ?_
      refine HO.val (v := .pointer (some ⟨b_2, 0, none⟩)) (want_none) rfl (q_fieldAddr fa_24_0 rfl rfl) ?_
      refine HO.val (v := .bool old_Exclude) (want_none) rfl (q_load to_4 rfl (Blk.cell (hS.box 3 rfl) rfl)) ?_
      refine HO.nil (thenQ_normal (?_))
      refine HW.cond old_Exclude rfl (fun c_3 => ?_) (fun c_3 => ?_)
      · replace hM := hM.1 c_3
        refine HW.region ?_
        refine HO.val (v := vr_4) (want_none) rfl (q_move rfl) ?_
        refine HO.val (v := vr_3) (want_none) rfl (q_move rfl) ?_
        refine HO.val (v := vr_4) (want_none) rfl (q_assign rfl) ?_
        refine HO.val (v := vr_3) (want_none) rfl (q_assign rfl) ?_
        refine HO.nil (thenQ_normal (?_))
        replace hS : St F_5 (Ow.box b_1 27 (e_api_Addr g).toArray :: Ow.own 27 17 e_api_Addr vr_4 r_4 :: Ow.own 27 17 e_api_Addr vr_3 r_3 :: fr) h_8 := hS.perm2 [4, 0, 1] 5 rfl rfl
        exact ⟨F_5, r_4, r_3, vr_4, vr_3, rfl, rfl, rfl, rfl, rfl, hK, hS, hL_old_Sources, hL_next_Sources, hM⟩
      · replace hM := hM.2 c_3
        refine HW.skip (thenQ_normal (?_))
        replace hS : St F_5 (Ow.box b_1 27 (e_api_Addr g).toArray :: Ow.own 27 17 e_api_Addr vr_3 r_3 :: Ow.own 27 17 e_api_Addr vr_4 r_4 :: fr) h_8 := hS.perm2 [4, 1, 0] 5 rfl rfl
        exact ⟨F_5, r_3, r_4, vr_3, vr_4, rfl, rfl, rfl, rfl, rfl, hK, hS, hL_old_Sources, hL_next_Sources, hM⟩
    · rintro f_2 h_9 ⟨F_6, more_1, less_1, vmore_1, vless_1, e3, e6, e7, e9, e10, hK, hS, hL_old_Sources, hL_next_Sources, hM⟩
      unfold merge_Change_j2 at hM
      refine HW.fr [(3, .pointer (some ⟨b_1, 0, none⟩)), (6, .slice none 0 0), (7, .slice none 0 0), (9, vmore_1), (10, vless_1)] ⟨e3, e6, e7, e9, e10, trivial⟩ ?_
      refine HW.seq_mid (fun f h => ∃ (F' : Fz) (out_1 : List T_api_Record) (vout_1 : Value), f 3 = .pointer (some ⟨b_1, 0, none⟩) ∧ f 6 = .slice none 0 0 ∧ f 7 = vout_1 ∧ f 10 = vless_1 ∧ Kp F h0 F' h ∧ St F' (Ow.box b_1 27 (e_api_Addr g).toArray :: Ow.own 40 19 e_api_Record vout_1 out_1 :: Ow.own 27 17 e_api_Addr vless_1 less_1 :: fr) h ∧ (SliceF F' h 17 e_api_Addr vold_Sources old_Sources) ∧ (SliceF F' h 17 e_api_Addr vnext_Sources next_Sources) ∧ (NfL nf_api_Record F' h out_1) ∧ merge_Change_j3 g Q less_1 out_1) ?_ ?_
      · refine HW.seq ?_
        refine HW.region ?_
        refine HO.val (v := vmore_1) (want_none) rfl (q_move rfl) ?_
        refine HO.val (v := .int .i64 (more_1.length : Int)) (want_none) rfl (q_len ts_22 (shp (hS.own 1 rfl).slice) rfl rfl) ?_
        refine HO.val (v := .bool (decide (0 < (more_1.length : Int)))) (want_none) rfl (q_gtr rfl rfl) ?_
        refine HO.nil (thenQ_normal (?_))
        refine HW.cond (decide (0 < (more_1.length : Int))) rfl (fun c_4 => ?_) (fun c_4 => ?_)
        · replace hM := hM.1 (of_decide_eq_true c_4)
          refine HW.region ?_
          refine HO.val (v := .slice none 0 0) (want_none) rfl (q_move rfl) ?_
          refine HO.val (v := .agg (e_api_Addr g).toArray) (want_none) rfl (q_loadAgg (cs := (e_api_Addr g)) ta_27 rfl rfl (Blk.cells (k := 17) (hS.box 0 rfl) rfl)) ?_
          refine HO.val (v := vmore_1) (want_none) rfl (q_move rfl) ?_
          refine HO.val (v := .agg #[.int .i64 5, .bool g.1, .int .u8 (b8 g.2 0), .int .u8 (b8 g.2 1), .int .u8 (b8 g.2 2), .int .u8 (b8 g.2 3), .int .u8 (b8 g.2 4), .int .u8 (b8 g.2 5), .int .u8 (b8 g.2 6), .int .u8 (b8 g.2 7), .int .u8 (b8 g.2 8), .int .u8 (b8 g.2 9), .int .u8 (b8 g.2 10), .int .u8 (b8 g.2 11), .int .u8 (b8 g.2 12), .int .u8 (b8 g.2 13), .int .u8 (b8 g.2 14), .int .u8 (b8 g.2 15), vmore_1]) (want_none) rfl (q_build tp_40 (fill_cons (cs' := #[.int .i64 5, .bool false, .int .u8 (b8 (default : Ba 16) 0), .int .u8 (b8 (default : Ba 16) 1), .int .u8 (b8 (default : Ba 16) 2), .int .u8 (b8 (default : Ba 16) 3), .int .u8 (b8 (default : Ba 16) 4), .int .u8 (b8 (default : Ba 16) 5), .int .u8 (b8 (default : Ba 16) 6), .int .u8 (b8 (default : Ba 16) 7), .int .u8 (b8 (default : Ba 16) 8), .int .u8 (b8 (default : Ba 16) 9), .int .u8 (b8 (default : Ba 16) 10), .int .u8 (b8 (default : Ba 16) 11), .int .u8 (b8 (default : Ba 16) 12), .int .u8 (b8 (default : Ba 16) 13), .int .u8 (b8 (default : Ba 16) 14), .int .u8 (b8 (default : Ba 16) 15), .slice none 0 0]) (vc := #[.int .i64 5]) rfl rfl rfl (Nat.le_of_ble_eq_true rfl) rfl (fill_cons (cs' := #[.int .i64 5, .bool g.1, .int .u8 (b8 g.2 0), .int .u8 (b8 g.2 1), .int .u8 (b8 g.2 2), .int .u8 (b8 g.2 3), .int .u8 (b8 g.2 4), .int .u8 (b8 g.2 5), .int .u8 (b8 g.2 6), .int .u8 (b8 g.2 7), .int .u8 (b8 g.2 8), .int .u8 (b8 g.2 9), .int .u8 (b8 g.2 10), .int .u8 (b8 g.2 11), .int .u8 (b8 g.2 12), .int .u8 (b8 g.2 13), .int .u8 (b8 g.2 14), .int .u8 (b8 g.2 15), .slice none 0 0]) (vc := (e_api_Addr g).toArray) rfl rfl rfl (Nat.le_of_ble_eq_true rfl) rfl (fill_cons (cs' := #[.int .i64 5, .bool g.1, .int .u8 (b8 g.2 0), .int .u8 (b8 g.2 1), .int .u8 (b8 g.2 2), .int .u8 (b8 g.2 3), .int .u8 (b8 g.2 4), .int .u8 (b8 g.2 5), .int .u8 (b8 g.2 6), .int .u8 (b8 g.2 7), .int .u8 (b8 g.2 8), .int .u8 (b8 g.2 9), .int .u8 (b8 g.2 10), .int .u8 (b8 g.2 11), .int .u8 (b8 g.2 12), .int .u8 (b8 g.2 13), .int .u8 (b8 g.2 14), .int .u8 (b8 g.2 15), vmore_1]) (vc := #[vmore_1]) rfl (shp (hS.own 1 rfl).slice).cells rfl (Nat.le_of_ble_eq_true rfl) rfl rfl)))) ?_
          replace hS : St F_6 (Ow.own 27 17 e_api_Addr vmore_1 more_1 :: Ow.box b_1 27 (e_api_Addr g).toArray :: Ow.own 27 17 e_api_Addr vless_1 less_1 :: fr) h_9 := hS.perm2 [1, 0, 2] 3 rfl rfl
          obtain ⟨F_7, hS, hk, hL_2⟩ := hS.freezeOwn
          replace hK := hK.trans hk
          replace hL_old_Sources := hL_old_Sources.kp hk
          replace hL_next_Sources := hL_next_Sources.kp hk
          replace hM := hM vmore_1
          refine HO.eff (want_none) rfl (st_lit (enc := e_api_Record) (cells := #[.int .i64 5, .bool g.1, .int .u8 (b8 g.2 0), .int .u8 (b8 g.2 1), .int .u8 (b8 g.2 2), .int .u8 (b8 g.2 3), .int .u8 (b8 g.2 4), .int .u8 (b8 g.2 5), .int .u8 (b8 g.2 6), .int .u8 (b8 g.2 7), .int .u8 (b8 g.2 8), .int .u8 (b8 g.2 9), .int .u8 (b8 g.2 10), .int .u8 (b8 g.2 11), .int .u8 (b8 g.2 12), .int .u8 (b8 g.2 13), .int .u8 (b8 g.2 14), .int .u8 (b8 g.2 15), vmore_1]) #[.int .i64 0, .bool false, .int .u8 0, .int .u8 0, .int .u8 0, .int .u8 0, .int .u8 0, .int .u8 0, .int .u8 0, .int .u8 0, .int .u8 0, .int .u8 0, .int .u8 0, .int .u8 0, .int .u8 0, .int .u8 0, .int .u8 0, .int .u8 0, .slice none 0 0] ([(5, g, (vmore_1, more_1))] : List T_api_Record) hS tl_31 (by decide) (by decide) (by kernel_rfl) (by kernel_rfl) rfl (by intro x hx; rfl) rfl) ?_
          rintro _ h_10 ⟨b_5, rfl, hS, hk⟩
          replace hK := hK.trans hk
          replace hL_old_Sources := hL_old_Sources.kp hk
          replace hL_next_Sources := hL_next_Sources.kp hk
          replace hL_2 := hL_2.kp hk
          have hN_4 : NfL nf_api_Record F_7 h_10 ([(5, g, (vmore_1, more_1))] : List T_api_Record) := (NfL.cons (nfm_api_Record (5, g, (vmore_1, more_1)) hL_2) (NfL.nil _ _ _))
          obtain ⟨ho_1, hM⟩ := hM
          refine HO.eff (want_none) rfl (st_appendNil te_31 hS (hS.own 0 rfl).slice rfl rfl rfl (fun a_ ha_ => nfo_api_Record (hN_4.is.all a_ ha_)) ho_1 (by omega)) ?_
          rintro v_1 h_11 ⟨hS, hk⟩
          replace hK := hK.trans hk
          replace hL_old_Sources := hL_old_Sources.kp hk
          replace hL_next_Sources := hL_next_Sources.kp hk
          replace hL_2 := hL_2.kp hk
          replace hN_4 := hN_4.kp hk
          refine HO.val (v := v_1) (want_none) rfl (q_assign rfl) ?_
          refine HO.nil (thenQ_normal (?_))
          replace hS : St F_7 (Ow.box b_1 27 (e_api_Addr g).toArray :: Ow.own 40 19 e_api_Record v_1 ([(5, g, (vmore_1, more_1))] : List T_api_Record) :: Ow.own 27 17 e_api_Addr vless_1 less_1 :: fr) h_11 := hS.perm2 [2, 0, 3] 4 rfl rfl
          exact ⟨F_7, ([(5, g, (vmore_1, more_1))] : List T_api_Record), v_1, rfl, rfl, rfl, rfl, hK, hS, hL_old_Sources, hL_next_Sources, hN_4, hM⟩
        · replace hM := hM.2 (of_decide_eq_false c_4)
          refine HW.skip (thenQ_normal (?_))
          replace hS := hS.nilOwn 40 19 e_api_Record
          have hN_5 : NfL nf_api_Record F_6 h_9 ([] : List T_api_Record) := NfL.nil _ _ _
          replace hS : St F_6 (Ow.box b_1 27 (e_api_Addr g).toArray :: Ow.own 40 19 e_api_Record (.slice none 0 0) ([] : List T_api_Record) :: Ow.own 27 17 e_api_Addr vless_1 less_1 :: fr) h_9 := hS.perm2 [1, 0, 3] 4 rfl rfl
          exact ⟨F_6, [], .slice none 0 0, rfl, rfl, rfl, rfl, hK, hS, hL_old_Sources, hL_next_Sources, hN_5, hM⟩
      · rintro f_3 h_12 ⟨F_8, out_1, vout_1, e3, e6, e7, e10, hK, hS, hL_old_Sources, hL_next_Sources, hN_3, hM⟩
        unfold merge_Change_j3 at hM
        refine HW.fr [(3, .pointer (some ⟨b_1, 0, none⟩)), (6, .slice none 0 0), (7, vout_1), (10, vless_1)] ⟨e3, e6, e7, e10, trivial⟩ ?_
        refine HW.seq ?_
        refine HW.seq ?_
        refine HW.region ?_
        refine HO.val (v := vless_1) (want_none) rfl (q_move rfl) ?_
        refine HO.val (v := .int .i64 (less_1.length : Int)) (want_none) rfl (q_len ts_22 (shp (hS.own 2 rfl).slice) rfl rfl) ?_
        refine HO.val (v := .bool (decide (0 < (less_1.length : Int)))) (want_none) rfl (q_gtr rfl rfl) ?_
        refine HO.nil (thenQ_normal (?_))
        refine HW.cond (decide (0 < (less_1.length : Int))) rfl (fun c_5 => ?_) (fun c_5 => ?_)
        · replace hM := hM.1 (of_decide_eq_true c_5)
          refine HW.region ?_
          refine HO.val (v := vout_1) (want_none) rfl (q_move rfl) ?_
          refine HO.val (v := .agg (e_api_Addr g).toArray) (want_none) rfl (q_loadAgg (cs := (e_api_Addr g)) ta_27 rfl rfl (Blk.cells (k := 17) (hS.box 0 rfl) rfl)) ?_
          refine HO.val (v := vless_1) (want_none) rfl (q_move rfl) ?_
          refine HO.val (v := .agg #[.int .i64 6, .bool g.1, .int .u8 (b8 g.2 0), .int .u8 (b8 g.2 1), .int .u8 (b8 g.2 2), .int .u8 (b8 g.2 3), .int .u8 (b8 g.2 4), .int .u8 (b8 g.2 5), .int .u8 (b8 g.2 6), .int .u8 (b8 g.2 7), .int .u8 (b8 g.2 8), .int .u8 (b8 g.2 9), .int .u8 (b8 g.2 10), .int .u8 (b8 g.2 11), .int .u8 (b8 g.2 12), .int .u8 (b8 g.2 13), .int .u8 (b8 g.2 14), .int .u8 (b8 g.2 15), vless_1]) (want_none) rfl (q_build tp_40 (fill_cons (cs' := #[.int .i64 6, .bool false, .int .u8 (b8 (default : Ba 16) 0), .int .u8 (b8 (default : Ba 16) 1), .int .u8 (b8 (default : Ba 16) 2), .int .u8 (b8 (default : Ba 16) 3), .int .u8 (b8 (default : Ba 16) 4), .int .u8 (b8 (default : Ba 16) 5), .int .u8 (b8 (default : Ba 16) 6), .int .u8 (b8 (default : Ba 16) 7), .int .u8 (b8 (default : Ba 16) 8), .int .u8 (b8 (default : Ba 16) 9), .int .u8 (b8 (default : Ba 16) 10), .int .u8 (b8 (default : Ba 16) 11), .int .u8 (b8 (default : Ba 16) 12), .int .u8 (b8 (default : Ba 16) 13), .int .u8 (b8 (default : Ba 16) 14), .int .u8 (b8 (default : Ba 16) 15), .slice none 0 0]) (vc := #[.int .i64 6]) rfl rfl rfl (Nat.le_of_ble_eq_true rfl) rfl (fill_cons (cs' := #[.int .i64 6, .bool g.1, .int .u8 (b8 g.2 0), .int .u8 (b8 g.2 1), .int .u8 (b8 g.2 2), .int .u8 (b8 g.2 3), .int .u8 (b8 g.2 4), .int .u8 (b8 g.2 5), .int .u8 (b8 g.2 6), .int .u8 (b8 g.2 7), .int .u8 (b8 g.2 8), .int .u8 (b8 g.2 9), .int .u8 (b8 g.2 10), .int .u8 (b8 g.2 11), .int .u8 (b8 g.2 12), .int .u8 (b8 g.2 13), .int .u8 (b8 g.2 14), .int .u8 (b8 g.2 15), .slice none 0 0]) (vc := (e_api_Addr g).toArray) rfl rfl rfl (Nat.le_of_ble_eq_true rfl) rfl (fill_cons (cs' := #[.int .i64 6, .bool g.1, .int .u8 (b8 g.2 0), .int .u8 (b8 g.2 1), .int .u8 (b8 g.2 2), .int .u8 (b8 g.2 3), .int .u8 (b8 g.2 4), .int .u8 (b8 g.2 5), .int .u8 (b8 g.2 6), .int .u8 (b8 g.2 7), .int .u8 (b8 g.2 8), .int .u8 (b8 g.2 9), .int .u8 (b8 g.2 10), .int .u8 (b8 g.2 11), .int .u8 (b8 g.2 12), .int .u8 (b8 g.2 13), .int .u8 (b8 g.2 14), .int .u8 (b8 g.2 15), vless_1]) (vc := #[vless_1]) rfl (shp (hS.own 2 rfl).slice).cells rfl (Nat.le_of_ble_eq_true rfl) rfl rfl)))) ?_
          replace hS : St F_8 (Ow.own 27 17 e_api_Addr vless_1 less_1 :: Ow.box b_1 27 (e_api_Addr g).toArray :: Ow.own 40 19 e_api_Record vout_1 out_1 :: fr) h_12 := hS.perm2 [2, 0, 1] 3 rfl rfl
          obtain ⟨F_9, hS, hk, hL_3⟩ := hS.freezeOwn
          replace hK := hK.trans hk
          replace hL_old_Sources := hL_old_Sources.kp hk
          replace hL_next_Sources := hL_next_Sources.kp hk
          replace hN_3 := hN_3.kp hk
          replace hM := hM vless_1
          refine HO.eff (want_none) rfl (st_lit (enc := e_api_Record) (cells := #[.int .i64 6, .bool g.1, .int .u8 (b8 g.2 0), .int .u8 (b8 g.2 1), .int .u8 (b8 g.2 2), .int .u8 (b8 g.2 3), .int .u8 (b8 g.2 4), .int .u8 (b8 g.2 5), .int .u8 (b8 g.2 6), .int .u8 (b8 g.2 7), .int .u8 (b8 g.2 8), .int .u8 (b8 g.2 9), .int .u8 (b8 g.2 10), .int .u8 (b8 g.2 11), .int .u8 (b8 g.2 12), .int .u8 (b8 g.2 13), .int .u8 (b8 g.2 14), .int .u8 (b8 g.2 15), vless_1]) #[.int .i64 0, .bool false, .int .u8 0, .int .u8 0, .int .u8 0, .int .u8 0, .int .u8 0, .int .u8 0, .int .u8 0, .int .u8 0, .int .u8 0, .int .u8 0, .int .u8 0, .int .u8 0, .int .u8 0, .int .u8 0, .int .u8 0, .int .u8 0, .slice none 0 0] ([(6, g, (vless_1, less_1))] : List T_api_Record) hS tl_31 (by decide) (by decide) (by kernel_rfl) (by kernel_rfl) rfl (by intro x hx; rfl) rfl) ?_
          rintro _ h_13 ⟨b_6, rfl, hS, hk⟩
          replace hK := hK.trans hk
          replace hL_old_Sources := hL_old_Sources.kp hk
          replace hL_next_Sources := hL_next_Sources.kp hk
          replace hN_3 := hN_3.kp hk
          replace hL_3 := hL_3.kp hk
          have hN_6 : NfL nf_api_Record F_9 h_13 ([(6, g, (vless_1, less_1))] : List T_api_Record) := (NfL.cons (nfm_api_Record (6, g, (vless_1, less_1)) hL_3) (NfL.nil _ _ _))
          obtain ⟨ho_2, hM⟩ := hM
          refine HO.eff (want_none) rfl (st_append te_31 hS (i := 2) rfl (hS.own 0 rfl).slice rfl rfl rfl (fun a_ ha_ => nfo_api_Record (hN_6.is.all a_ ha_)) ho_2 (by omega)) ?_
          rintro v_2 h_14 ⟨hS, hk⟩
          replace hS : St F_9 (Ow.own 40 19 e_api_Record (.slice (some ⟨b_6, 0, none⟩) 1 1) ([(6, g, (vless_1, less_1))] : List T_api_Record) :: Ow.box b_1 27 (e_api_Addr g).toArray :: Ow.own 40 19 e_api_Record v_2 (out_1 ++ ([(6, g, (vless_1, less_1))] : List T_api_Record)) :: fr) h_14 := hS
          replace hK := hK.trans hk
          replace hL_old_Sources := hL_old_Sources.kp hk
          replace hL_next_Sources := hL_next_Sources.kp hk
          replace hN_3 := hN_3.kp hk
          replace hL_3 := hL_3.kp hk
          replace hN_6 := hN_6.kp hk
          have hN_7 : NfL nf_api_Record F_9 h_14 (out_1 ++ ([(6, g, (vless_1, less_1))] : List T_api_Record)) := NfL.app hN_3 hN_6
          refine HO.val (v := v_2) (want_none) rfl (q_assign rfl) ?_
          refine HO.nil (thenQ_normal (?_))
          refine HW.seq ?_
          refine HW.region ?_
          refine HO.val (v := v_2) (want_none) rfl (q_move rfl) ?_
          refine HO.val (v := v_2) (want_none) rfl (q_assign rfl) ?_
          refine HO.nil (thenQ_normal (?_))
          refine HW.ret (?_)
          refine ⟨.inr rfl, v_2, res1 rfl (rt rfl), ?_⟩
          replace hS : St F_9 (Ow.own 40 19 e_api_Record v_2 (out_1 ++ ([(6, g, (vless_1, less_1))] : List T_api_Record)) :: fr) h_14 := hS.perm2 [2] 3 rfl rfl
          exact ⟨F_9, out_1 ++ ([(6, g, (vless_1, less_1))] : List T_api_Record), v_2, rfl, hK, hS, hL_old_Sources, hL_next_Sources, hN_7, hM⟩
        · replace hM := hM.2 (of_decide_eq_false c_5)
          refine HW.skip (thenQ_normal (?_))
          refine HW.seq ?_
          refine HW.region ?_
          refine HO.val (v := vout_1) (want_none) rfl (q_move rfl) ?_
          refine HO.val (v := vout_1) (want_none) rfl (q_assign rfl) ?_
          refine HO.nil (thenQ_normal (?_))
          refine HW.ret (?_)
          refine ⟨.inr rfl, vout_1, res1 rfl (rt rfl), ?_⟩
          replace hS : St F_8 (Ow.own 40 19 e_api_Record vout_1 out_1 :: fr) h_12 := hS.perm2 [1] 3 rfl rfl
          exact ⟨F_8, out_1, vout_1, rfl, hK, hS, hL_old_Sources, hL_next_Sources, hN_3, hM⟩

def ref11_Or_W (a : List T_api_Addr) (b : List T_api_Addr) (Q : (List T_api_Addr) → Prop) : Prop :=
  ((([] : List T_api_Addr).length + a.length) * 17 ≤ 140737488355328) ∧ ((((([] : List T_api_Addr) ++ a).length + b.length) * 17 ≤ 140737488355328) ∧ (ref11_Of_W ((([] : List T_api_Addr) ++ a) ++ b) (fun r_2 => Q r_2)))
set_option maxHeartbeats 40000000 in
set_option maxRecDepth 100000 in
theorem ref11_Or_walk {F : Fz} {fr : List Ow} {h0 : Heap} (a : List T_api_Addr) (b : List T_api_Addr) (va : Value) (vb : Value) (hS : St F (fr) h0) (hL_a : SliceF F h0 17 e_api_Addr va a) (hL_b : SliceF F h0 17 e_api_Addr vb b) {Q : (List T_api_Addr) → Prop} (hM : ref11_Or_W a b Q) :
    HC Tryd.prog 44 #[va, vb] h0 fun u h' => ∃ (F' : Fz) (r_1 : List T_api_Addr) (vr_1 : Value), u = vr_1 ∧ Kp F h0 F' h' ∧ St F' (fr) h' ∧ (SliceF F' h' 17 e_api_Addr va a) ∧ (SliceF F' h' 17 e_api_Addr vb b) ∧ (SliceF F' h' 17 e_api_Addr vr_1 r_1) ∧ Q r_1 := by
  unfold ref11_Or_W at hM
  have hK := Kp.refl F h0
  refine HC.of_HW (n := 11) Tryd.func44 rfl rfl (Nat.le_of_ble_eq_true rfl) ?_
  refine HW.seq ?_
  refine HW.region ?_
  refine HO.val (v := .slice none 0 0) (want_none) rfl (q_assign rfl) ?_
  refine HO.nil (thenQ_normal (?_))
  refine HW.seq ?_
  refine HW.region ?_
  refine HO.eff (want_none) rfl (st_litEmpty (α := T_api_Addr) e_api_Addr hS tl_22) ?_
  rintro _ h_1 ⟨b_1, rfl, hS, hk⟩
  replace hK := hK.trans hk
  replace hL_a := hL_a.kp hk
  replace hL_b := hL_b.kp hk
  refine HO.val (v := va) (want_none) rfl (q_move rfl) ?_
  obtain ⟨ho_1, hM⟩ := hM
  refine HO.eff (want_none) rfl (st_append te_22 hS (i := 0) rfl hL_a.is rfl rfl rfl (by intro a _ u hu; simp [e_api_Addr, encI, encN, encB, encT] at hu; rcases hu with rfl | rfl | rfl | rfl | rfl | rfl | rfl | rfl | rfl | rfl | rfl | rfl | rfl | rfl | rfl | rfl | rfl <;> rfl) ho_1 (by omega)) ?_
  rintro v_1 h_2 ⟨hS, hk⟩
  replace hS : St F (Ow.own 27 17 e_api_Addr v_1 (([] : List T_api_Addr) ++ a) :: fr) h_2 := hS
  replace hK := hK.trans hk
  replace hL_a := hL_a.kp hk
  replace hL_b := hL_b.kp hk
  refine HO.val (v := vb) (want_none) rfl (q_move rfl) ?_
  obtain ⟨ho_2, hM⟩ := hM
  refine HO.eff (want_none) rfl (st_append te_22 hS (i := 0) rfl hL_b.is rfl rfl rfl (by intro a _ u hu; simp [e_api_Addr, encI, encN, encB, encT] at hu; rcases hu with rfl | rfl | rfl | rfl | rfl | rfl | rfl | rfl | rfl | rfl | rfl | rfl | rfl | rfl | rfl | rfl | rfl <;> rfl) ho_2 (by omega)) ?_
  rintro v_2 h_3 ⟨hS, hk⟩
  replace hS : St F (Ow.own 27 17 e_api_Addr v_2 ((([] : List T_api_Addr) ++ a) ++ b) :: fr) h_3 := hS
  replace hK := hK.trans hk
  replace hL_a := hL_a.kp hk
  replace hL_b := hL_b.kp hk
  obtain ⟨F_1, hS, hk, hL_2⟩ := hS.freezeOwn
  replace hK := hK.trans hk
  replace hL_a := hL_a.kp hk
  replace hL_b := hL_b.kp hk
  refine HO.call (want_none) rfl (ec en_28 rfl rfl) (ref11_Of_walk (fr := (fr)) ((([] : List T_api_Addr) ++ a) ++ b) v_2 hS hL_2 hM) ?_
  rintro vr_2 h_4 ⟨F_2, r_2, _, rfl, hk, hS, _, hL_3, hM⟩
  replace hK := hK.trans hk
  replace hL_a := hL_a.kp hk
  replace hL_b := hL_b.kp hk
  replace hL_2 := hL_2.kp hk
  refine HO.val (v := vr_2) (want_none) rfl (q_assign rfl) ?_
  refine HO.nil (thenQ_normal (?_))
  refine HW.ret (?_)
  refine ⟨.inr rfl, vr_2, res1 rfl (rt rfl), ?_⟩
  exact ⟨F_2, r_2, vr_2, rfl, hK, hS, hL_a, hL_b, hL_3, hM⟩

def ref19_Lets_W (f_Exclude : Bool) (f_Sources : List T_api_Addr) (a : T_api_Addr) (Q : Bool → Prop) : Prop :=
  (f_Exclude = true → ref11_Has_W f_Sources a (fun r_2 => Q (!r_2))) ∧ (f_Exclude = false → ref11_Has_W f_Sources a (fun r_3 => Q r_3))
set_option maxHeartbeats 40000000 in
set_option maxRecDepth 100000 in
theorem ref19_Lets_walk {F : Fz} {fr : List Ow} {h0 : Heap} (f_Exclude : Bool) (f_Sources : List T_api_Addr) (a : T_api_Addr) (vf_Sources : Value) (hS : St F (fr) h0) (hL_f_Sources : SliceF F h0 17 e_api_Addr vf_Sources f_Sources) {Q : Bool → Prop} (hM : ref19_Lets_W f_Exclude f_Sources a Q) :
    HC Tryd.prog 14 #[.agg #[.bool f_Exclude, vf_Sources], .agg (e_api_Addr a).toArray] h0 fun u h' => ∃ (F' : Fz) (r_1 : Bool), u = .bool r_1 ∧ Kp F h0 F' h' ∧ St F' (fr) h' ∧ (SliceF F' h' 17 e_api_Addr vf_Sources f_Sources) ∧ Q r_1 := by
  unfold ref19_Lets_W at hM
  have hK := Kp.refl F h0
  refine HC.of_HW (n := 16) Tryd.func14 rfl rfl (Nat.le_of_ble_eq_true rfl) ?_
  refine HW.seq ?_
  refine HW.region ?_
  refine HO.eff (want_none) rfl (st_box (c := #[.bool f_Exclude, vf_Sources]) (k' := 2) hS rfl rfl) ?_
  rintro _ h_1 ⟨b_1, rfl, hS, hk⟩
  replace hK := hK.trans hk
  replace hL_f_Sources := hL_f_Sources.kp hk
  refine HO.eff (want_none) rfl (st_box (c := (e_api_Addr a).toArray) (k' := 17) hS rfl rfl) ?_
  rintro _ h_2 ⟨b_2, rfl, hS, hk⟩
  replace hK := hK.trans hk
  replace hL_f_Sources := hL_f_Sources.kp hk
  refine HO.val (v := .bool false) (want_none) rfl (q_assign rfl) ?_
  refine HO.nil (thenQ_normal (?_))
  refine HW.seq ?_
  refine HW.seq ?_
  refine HW.region ?_
  refine HO.val (v := .pointer (some ⟨b_1, 0, none⟩)) (want_none) rfl (q_fieldAddr fa_24_0 rfl rfl) ?_
  refine HO.val (v := .bool f_Exclude) (want_none) rfl (q_load to_4 rfl (Blk.cell (hS.box 1 rfl) rfl)) ?_
  refine HO.nil (thenQ_normal (?_))
  refine HW.cond f_Exclude rfl (fun c_1 => ?_) (fun c_1 => ?_)
  · replace hM := hM.1 c_1
    refine HW.seq ?_
    refine HW.region ?_
    refine HO.val (v := .pointer (some ⟨b_1, 1, none⟩)) (want_none) rfl (q_fieldAddr fa_24_1 rfl rfl) ?_
    refine HO.val (v := vf_Sources) (want_none) rfl (q_load to_22 rfl (Blk.cell (hS.box 1 rfl) rfl)) ?_
    refine HO.val (v := .agg (e_api_Addr a).toArray) (want_none) rfl (q_loadAgg (cs := (e_api_Addr a)) ta_27 rfl rfl (Blk.cells (k := 17) (hS.box 0 rfl) rfl)) ?_
    refine HO.call (want_none) rfl (ec en_38 rfl rfl) (ref11_Has_walk (fr := (Ow.box b_2 27 (e_api_Addr a).toArray :: Ow.box b_1 24 #[.bool f_Exclude, vf_Sources] :: fr)) f_Sources a vf_Sources hS hL_f_Sources hM) ?_
    rintro _ h_3 ⟨F_1, r_2, rfl, hk, hS, _, hM⟩
    replace hK := hK.trans hk
    replace hL_f_Sources := hL_f_Sources.kp hk
    refine HO.val (v := .bool (!r_2)) (want_none) rfl (q_not rfl) ?_
    refine HO.val (v := .bool (!r_2)) (want_none) rfl (q_assign rfl) ?_
    refine HO.nil (thenQ_normal (?_))
    refine HW.ret (thenQ_ret (?_))
    refine ⟨.inr rfl, .bool (!r_2), res1 rfl (rt rfl), ?_⟩
    replace hS : St F_1 (fr) h_3 := hS.perm2 [] 2 rfl rfl
    exact ⟨F_1, !r_2, rfl, hK, hS, hL_f_Sources, hM⟩
  · replace hM := hM.2 c_1
    refine HW.skip (thenQ_normal (?_))
    refine HW.seq ?_
    refine HW.region ?_
    refine HO.val (v := .pointer (some ⟨b_1, 1, none⟩)) (want_none) rfl (q_fieldAddr fa_24_1 rfl rfl) ?_
    refine HO.val (v := vf_Sources) (want_none) rfl (q_load to_22 rfl (Blk.cell (hS.box 1 rfl) rfl)) ?_
    refine HO.val (v := .agg (e_api_Addr a).toArray) (want_none) rfl (q_loadAgg (cs := (e_api_Addr a)) ta_27 rfl rfl (Blk.cells (k := 17) (hS.box 0 rfl) rfl)) ?_
    refine HO.call (want_none) rfl (ec en_38 rfl rfl) (ref11_Has_walk (fr := (Ow.box b_2 27 (e_api_Addr a).toArray :: Ow.box b_1 24 #[.bool f_Exclude, vf_Sources] :: fr)) f_Sources a vf_Sources hS hL_f_Sources hM) ?_
    rintro _ h_4 ⟨F_2, r_3, rfl, hk, hS, _, hM⟩
    replace hK := hK.trans hk
    replace hL_f_Sources := hL_f_Sources.kp hk
    refine HO.val (v := .bool r_3) (want_none) rfl (q_assign rfl) ?_
    refine HO.nil (thenQ_normal (?_))
    refine HW.ret (?_)
    refine ⟨.inr rfl, .bool r_3, res1 rfl (rt rfl), ?_⟩
    replace hS : St F_2 (fr) h_4 := hS.perm2 [] 2 rfl rfl
    exact ⟨F_2, r_3, rfl, hK, hS, hL_f_Sources, hM⟩

def ref19_Change_j6 (r_2 : List T_api_Addr) (b_18_1 : List T_api_Addr) (i_1 : Int) (K_1 : (List T_api_Addr) → (List T_api_Addr) → Int → Prop) (a_18_2 : List T_api_Addr) (b_15 : Bool) : Prop :=
  (b_15 = true → ((b_18_1.length + ([(gi r_2 i_1)] : List T_api_Addr).length) * 17 ≤ 140737488355328) ∧ ((I64 (i_1 + 1)) ∧ (K_1 a_18_2 (b_18_1 ++ ([(gi r_2 i_1)] : List T_api_Addr)) (i_1 + 1)))) ∧ (b_15 = false → (I64 (i_1 + 1)) ∧ (K_1 a_18_2 b_18_1 (i_1 + 1)))
def ref19_Change_j4 (r_2 : List T_api_Addr) (b_18_1 : List T_api_Addr) (i_1 : Int) (K_1 : (List T_api_Addr) → (List T_api_Addr) → Int → Prop) (r_3 : Bool) (r_4 : Bool) (a_18_2 : List T_api_Addr) : Prop :=
  (r_3 = true → ref19_Change_j6 r_2 b_18_1 i_1 K_1 a_18_2 (!r_4)) ∧ (r_3 = false → ref19_Change_j6 r_2 b_18_1 i_1 K_1 a_18_2 false)
def ref19_Change_j5 (r_2 : List T_api_Addr) (a_18_1 : List T_api_Addr) (b_18_1 : List T_api_Addr) (i_1 : Int) (K_1 : (List T_api_Addr) → (List T_api_Addr) → Int → Prop) (r_3 : Bool) (r_4 : Bool) (b_13 : Bool) : Prop :=
  (b_13 = true → ((a_18_1.length + ([(gi r_2 i_1)] : List T_api_Addr).length) * 17 ≤ 140737488355328) ∧ (ref19_Change_j4 r_2 b_18_1 i_1 K_1 r_3 r_4 (a_18_1 ++ ([(gi r_2 i_1)] : List T_api_Addr)))) ∧ (b_13 = false → ref19_Change_j4 r_2 b_18_1 i_1 K_1 r_3 r_4 a_18_1)
def ref19_Change_j7 (g : T_api_Addr) (Q : (List T_api_Record) → Prop) (b_18_1 : List T_api_Addr) (out_1 : List T_api_Record) : Prop :=
  (0 < (b_18_1.length : Int) → ∀ vb_18_1 : Value, (((out_1.length + ([(6, g, (vb_18_1, b_18_1))] : List T_api_Record).length) * 56 ≤ 140737488355328) ∧ (Q (out_1 ++ ([(6, g, (vb_18_1, b_18_1))] : List T_api_Record))))) ∧ (¬ (0 < (b_18_1.length : Int)) → Q out_1)
def ref19_Change_l1 (g : T_api_Addr) (old_Exclude : Bool) (old_Sources : List T_api_Addr) (next_Exclude : Bool) (next_Sources : List T_api_Addr) (Q : (List T_api_Record) → Prop) (r_2 : List T_api_Addr) (K_1 : (List T_api_Addr) → (List T_api_Addr) → Int → Prop) (a_18_1 : List T_api_Addr) (b_18_1 : List T_api_Addr) (i_1 : Int) : Prop :=
  (i_1 < (r_2.length : Int) → ((0 : Int) ≤ i_1 ∧ i_1 < (r_2.length : Int)) ∧ (ref19_Lets_W old_Exclude old_Sources (gi r_2 i_1) (fun r_3 => ref19_Lets_W next_Exclude next_Sources (gi r_2 i_1) (fun r_4 => (r_4 = true → ref19_Change_j5 r_2 a_18_1 b_18_1 i_1 K_1 r_3 r_4 (!r_3)) ∧ (r_4 = false → ref19_Change_j5 r_2 a_18_1 b_18_1 i_1 K_1 r_3 r_4 false))))) ∧ (¬ (i_1 < (r_2.length : Int)) → (0 < (a_18_1.length : Int) → ∀ va_18_1 : Value, (((([] : List T_api_Record).length + ([(5, g, (va_18_1, a_18_1))] : List T_api_Record).length) * 56 ≤ 140737488355328) ∧ (ref19_Change_j7 g Q b_18_1 (([] : List T_api_Record) ++ ([(5, g, (va_18_1, a_18_1))] : List T_api_Record))))) ∧ (¬ (0 < (a_18_1.length : Int)) → ref19_Change_j7 g Q b_18_1 []))
def ref19_Change_j3 (g : T_api_Addr) (old_Exclude : Bool) (old_Sources : List T_api_Addr) (next_Exclude : Bool) (next_Sources : List T_api_Addr) (Q : (List T_api_Record) → Prop) (r_2 : List T_api_Addr) : Prop :=
  loopW (fun (K_1 : (List T_api_Addr × List T_api_Addr × Int) → Prop) (s : List T_api_Addr × List T_api_Addr × Int) => ref19_Change_l1 g old_Exclude old_Sources next_Exclude next_Sources Q r_2 (fun a_18_1 b_18_1 i_1 => K_1 (a_18_1, b_18_1, i_1)) s.1 s.2.1 s.2.2) ([], [], 0)
def ref19_Change_j2 (g : T_api_Addr) (old_Exclude : Bool) (old_Sources : List T_api_Addr) (next_Exclude : Bool) (next_Sources : List T_api_Addr) (Q : (List T_api_Record) → Prop) (b_7 : Bool) : Prop :=
  (b_7 = true → ∀ vnext_Sources : Value, (((([] : List T_api_Record).length + ([(4, g, (vnext_Sources, next_Sources))] : List T_api_Record).length) * 56 ≤ 140737488355328) ∧ (Q (([] : List T_api_Record) ++ ([(4, g, (vnext_Sources, next_Sources))] : List T_api_Record))))) ∧ (b_7 = false → ref11_Or_W old_Sources next_Sources (fun r_2 => ref19_Change_j3 g old_Exclude old_Sources next_Exclude next_Sources Q r_2))
def ref19_Change_j1 (g : T_api_Addr) (old_Exclude : Bool) (old_Sources : List T_api_Addr) (next_Exclude : Bool) (next_Sources : List T_api_Addr) (Q : (List T_api_Record) → Prop) (b_5 : Bool) : Prop :=
  (b_5 = true → ∀ vnext_Sources : Value, (((([] : List T_api_Record).length + ([(3, g, (vnext_Sources, next_Sources))] : List T_api_Record).length) * 56 ≤ 140737488355328) ∧ (Q (([] : List T_api_Record) ++ ([(3, g, (vnext_Sources, next_Sources))] : List T_api_Record))))) ∧ (b_5 = false → (next_Exclude = true → ref19_Change_j2 g old_Exclude old_Sources next_Exclude next_Sources Q (!old_Exclude)) ∧ (next_Exclude = false → ref19_Change_j2 g old_Exclude old_Sources next_Exclude next_Sources Q false))
def ref19_Change_W (g : T_api_Addr) (old_Exclude : Bool) (old_Sources : List T_api_Addr) (next_Exclude : Bool) (next_Sources : List T_api_Addr) (Q : (List T_api_Record) → Prop) : Prop :=
  (old_Exclude = true → ref19_Change_j1 g old_Exclude old_Sources next_Exclude next_Sources Q (!next_Exclude)) ∧ (old_Exclude = false → ref19_Change_j1 g old_Exclude old_Sources next_Exclude next_Sources Q false)
set_option maxHeartbeats 40000000 in
set_option maxRecDepth 100000 in
theorem ref19_Change_walk {F : Fz} {fr : List Ow} {h0 : Heap} (g : T_api_Addr) (old_Exclude : Bool) (old_Sources : List T_api_Addr) (next_Exclude : Bool) (next_Sources : List T_api_Addr) (vold_Sources : Value) (vnext_Sources : Value) (hS : St F (fr) h0) (hL_old_Sources : SliceF F h0 17 e_api_Addr vold_Sources old_Sources) (hL_next_Sources : SliceF F h0 17 e_api_Addr vnext_Sources next_Sources) {Q : (List T_api_Record) → Prop} (hM : ref19_Change_W g old_Exclude old_Sources next_Exclude next_Sources Q) :
    HC Tryd.prog 12 #[.agg (e_api_Addr g).toArray, .agg #[.bool old_Exclude, vold_Sources], .agg #[.bool next_Exclude, vnext_Sources]] h0 fun u h' => ∃ (F' : Fz) (r_1 : List T_api_Record) (vr_1 : Value), u = vr_1 ∧ Kp F h0 F' h' ∧ St F' (Ow.own 40 19 e_api_Record vr_1 r_1 :: fr) h' ∧ (SliceF F' h' 17 e_api_Addr vold_Sources old_Sources) ∧ (SliceF F' h' 17 e_api_Addr vnext_Sources next_Sources) ∧ (NfL nf_api_Record F' h' r_1) ∧ Q r_1 := by
  unfold ref19_Change_W at hM
  have hK := Kp.refl F h0
  refine HC.of_HW (n := 115) Tryd.func12 rfl rfl (Nat.le_of_ble_eq_true rfl) ?_
  refine HW.seq ?_
  refine HW.region ?_
  refine HO.eff (want_none) rfl (st_box (c := (e_api_Addr g).toArray) (k' := 17) hS rfl rfl) ?_
  rintro _ h_1 ⟨b_1, rfl, hS, hk⟩
  replace hK := hK.trans hk
  replace hL_old_Sources := hL_old_Sources.kp hk
  replace hL_next_Sources := hL_next_Sources.kp hk
  refine HO.eff (want_none) rfl (st_box (c := #[.bool old_Exclude, vold_Sources]) (k' := 2) hS rfl rfl) ?_
  rintro _ h_2 ⟨b_2, rfl, hS, hk⟩
  replace hK := hK.trans hk
  replace hL_old_Sources := hL_old_Sources.kp hk
  replace hL_next_Sources := hL_next_Sources.kp hk
  refine HO.eff (want_none) rfl (st_box (c := #[.bool next_Exclude, vnext_Sources]) (k' := 2) hS rfl rfl) ?_
  rintro _ h_3 ⟨b_3, rfl, hS, hk⟩
  replace hK := hK.trans hk
  replace hL_old_Sources := hL_old_Sources.kp hk
  replace hL_next_Sources := hL_next_Sources.kp hk
  refine HO.val (v := .slice none 0 0) (want_none) rfl (q_assign rfl) ?_
  refine HO.nil (thenQ_normal (?_))
  refine HW.seq ?_
  refine HW.region ?_
  refine HO.eff (want_none) rfl (st_litEmpty (α := T_api_Record) e_api_Record hS tl_31) ?_
  rintro _ h_4 ⟨b_4, rfl, hS, hk⟩
  replace hK := hK.trans hk
  replace hL_old_Sources := hL_old_Sources.kp hk
  replace hL_next_Sources := hL_next_Sources.kp hk
  have hN_2 : NfL nf_api_Record F h_4 ([] : List T_api_Record) := NfL.nil _ _ _
  refine HO.val (v := .slice (some ⟨b_4, 0, none⟩) 0 0) (want_none) rfl (q_assign rfl) ?_
  refine HO.nil (thenQ_normal (?_))
  refine HW.seq ?_
  refine HW.seq_mid (fun f h => ∃ (F' : Fz) (b_5 : Bool), f 3 = .pointer (some ⟨b_1, 0, none⟩) ∧ f 4 = .pointer (some ⟨b_2, 0, none⟩) ∧ f 5 = .pointer (some ⟨b_3, 0, none⟩) ∧ f 6 = .slice none 0 0 ∧ f 7 = .slice (some ⟨b_4, 0, none⟩) 0 0 ∧ f 21 = .bool b_5 ∧ Kp F h0 F' h ∧ St F' (Ow.box b_1 27 (e_api_Addr g).toArray :: Ow.box b_2 24 #[.bool old_Exclude, vold_Sources] :: Ow.box b_3 24 #[.bool next_Exclude, vnext_Sources] :: Ow.own 40 19 e_api_Record (.slice (some ⟨b_4, 0, none⟩) 0 0) ([] : List T_api_Record) :: fr) h ∧ (SliceF F' h 17 e_api_Addr vold_Sources old_Sources) ∧ (SliceF F' h 17 e_api_Addr vnext_Sources next_Sources) ∧ (NfL nf_api_Record F' h ([] : List T_api_Record)) ∧ ref19_Change_j1 g old_Exclude old_Sources next_Exclude next_Sources Q b_5) ?_ ?_
  · refine HW.region ?_
    refine HO.val (v := .pointer (some ⟨b_2, 0, none⟩)) (want_none) rfl (q_fieldAddr fa_24_0 rfl rfl) ?_
    refine HO.val (v := .bool old_Exclude) (want_none) rfl (q_load to_4 rfl (Blk.cell (hS.box 2 rfl) rfl)) ?_
    refine HO.val (v := .bool old_Exclude) (want_none) rfl (q_move rfl) ?_
    rcases Bool.eq_false_or_eq_true old_Exclude with c_1 | c_1
    · replace hM := hM.1 c_1
      refine HO.val (v := .pointer (some ⟨b_3, 0, none⟩)) (want_by rfl rfl c_1) rfl (q_fieldAddr fa_24_0 rfl rfl) ?_
      refine HO.val (v := .bool next_Exclude) (want_by rfl rfl c_1) rfl (q_load to_4 rfl (Blk.cell (hS.box 1 rfl) rfl)) ?_
      refine HO.val (v := .bool (!next_Exclude)) (want_by rfl rfl c_1) rfl (q_not rfl) ?_
      refine HO.val (v := .bool (!next_Exclude)) (want_none) rfl (q_pickK true rfl c_1 rfl) ?_
      refine HO.nil (thenQ_normal (?_))
      replace hS : St F (Ow.box b_1 27 (e_api_Addr g).toArray :: Ow.box b_2 24 #[.bool old_Exclude, vold_Sources] :: Ow.box b_3 24 #[.bool next_Exclude, vnext_Sources] :: Ow.own 40 19 e_api_Record (.slice (some ⟨b_4, 0, none⟩) 0 0) ([] : List T_api_Record) :: fr) h_4 := hS.perm2 [3, 2, 1, 0] 4 rfl rfl
      exact ⟨F, !next_Exclude, rfl, rfl, rfl, rfl, rfl, rfl, hK, hS, hL_old_Sources, hL_next_Sources, hN_2, hM⟩
    · replace hM := hM.2 c_1
      refine HO.past (past_by rfl rfl c_1) rfl ?_
      refine HO.past (past_by rfl rfl c_1) rfl ?_
      refine HO.past (past_by rfl rfl c_1) rfl ?_
      refine HO.val (v := .bool false) (want_none) rfl (q_pickK false rfl c_1 rfl) ?_
      refine HO.nil (thenQ_normal (?_))
      replace hS : St F (Ow.box b_1 27 (e_api_Addr g).toArray :: Ow.box b_2 24 #[.bool old_Exclude, vold_Sources] :: Ow.box b_3 24 #[.bool next_Exclude, vnext_Sources] :: Ow.own 40 19 e_api_Record (.slice (some ⟨b_4, 0, none⟩) 0 0) ([] : List T_api_Record) :: fr) h_4 := hS.perm2 [3, 2, 1, 0] 4 rfl rfl
      exact ⟨F, false, rfl, rfl, rfl, rfl, rfl, rfl, hK, hS, hL_old_Sources, hL_next_Sources, hN_2, hM⟩
  · rintro f_1 h_5 ⟨F_1, b_5, e3, e4, e5, e6, e7, e21, hK, hS, hL_old_Sources, hL_next_Sources, hN_2, hM⟩
    unfold ref19_Change_j1 at hM
    refine HW.fr [(3, .pointer (some ⟨b_1, 0, none⟩)), (4, .pointer (some ⟨b_2, 0, none⟩)), (5, .pointer (some ⟨b_3, 0, none⟩)), (6, .slice none 0 0), (7, .slice (some ⟨b_4, 0, none⟩) 0 0), (21, .bool b_5)] ⟨e3, e4, e5, e6, e7, e21, trivial⟩ ?_
    refine HW.cond b_5 rfl (fun c_2 => ?_) (fun c_2 => ?_)
    · replace hM := hM.1 c_2
      refine HW.seq ?_
      refine HW.region ?_
      refine HO.val (v := .slice (some ⟨b_4, 0, none⟩) 0 0) (want_none) rfl (q_move rfl) ?_
      refine HO.val (v := .agg (e_api_Addr g).toArray) (want_none) rfl (q_loadAgg (cs := (e_api_Addr g)) ta_27 rfl rfl (Blk.cells (k := 17) (hS.box 0 rfl) rfl)) ?_
      refine HO.val (v := .pointer (some ⟨b_3, 1, none⟩)) (want_none) rfl (q_fieldAddr fa_24_1 rfl rfl) ?_
      refine HO.val (v := vnext_Sources) (want_none) rfl (q_load to_22 rfl (Blk.cell (hS.box 2 rfl) rfl)) ?_
      refine HO.val (v := .agg (c_api_Record (.int .i64 3) g vnext_Sources).toArray) (want_none) rfl (q_build tp_40 (fill_cons (cs' := (c_api_Record (.int .i64 3) (false, (default : Ba 16)) (.slice none 0 0)).toArray) (vc := #[.int .i64 3]) rfl rfl rfl (Nat.le_of_ble_eq_true rfl) rfl (fill_cons (cs' := (c_api_Record (.int .i64 3) g (.slice none 0 0)).toArray) (vc := (e_api_Addr g).toArray) rfl rfl rfl (Nat.le_of_ble_eq_true rfl) rfl (fill_cons (cs' := (c_api_Record (.int .i64 3) g vnext_Sources).toArray) (vc := #[vnext_Sources]) rfl (shp hL_next_Sources.is).cells rfl (Nat.le_of_ble_eq_true rfl) rfl rfl)))) ?_
      replace hM := hM vnext_Sources
      refine HO.eff (want_none) rfl (st_lit (enc := e_api_Record) (cells := #[.int .i64 3, .bool g.1, .int .u8 (b8 g.2 0), .int .u8 (b8 g.2 1), .int .u8 (b8 g.2 2), .int .u8 (b8 g.2 3), .int .u8 (b8 g.2 4), .int .u8 (b8 g.2 5), .int .u8 (b8 g.2 6), .int .u8 (b8 g.2 7), .int .u8 (b8 g.2 8), .int .u8 (b8 g.2 9), .int .u8 (b8 g.2 10), .int .u8 (b8 g.2 11), .int .u8 (b8 g.2 12), .int .u8 (b8 g.2 13), .int .u8 (b8 g.2 14), .int .u8 (b8 g.2 15), vnext_Sources]) #[.int .i64 0, .bool false, .int .u8 0, .int .u8 0, .int .u8 0, .int .u8 0, .int .u8 0, .int .u8 0, .int .u8 0, .int .u8 0, .int .u8 0, .int .u8 0, .int .u8 0, .int .u8 0, .int .u8 0, .int .u8 0, .int .u8 0, .int .u8 0, .slice none 0 0] ([(3, g, (vnext_Sources, next_Sources))] : List T_api_Record) hS tl_31 (by decide) (by decide) (by kernel_rfl) (by kernel_rfl) rfl (by intro x hx; rfl) rfl) ?_
      rintro _ h_6 ⟨b_6, rfl, hS, hk⟩
      replace hK := hK.trans hk
      replace hL_old_Sources := hL_old_Sources.kp hk
      replace hL_next_Sources := hL_next_Sources.kp hk
      replace hN_2 := hN_2.kp hk
      have hN_3 : NfL nf_api_Record F_1 h_6 ([(3, g, (vnext_Sources, next_Sources))] : List T_api_Record) := (NfL.cons (nfm_api_Record (3, g, (vnext_Sources, next_Sources)) hL_next_Sources) (NfL.nil _ _ _))
      obtain ⟨ho_1, hM⟩ := hM
      refine HO.eff (want_none) rfl (st_append te_31 hS (i := 4) rfl (hS.own 0 rfl).slice rfl rfl rfl (fun a_ ha_ => nfo_api_Record (hN_3.is.all a_ ha_)) ho_1 (by omega)) ?_
      rintro v_1 h_7 ⟨hS, hk⟩
      replace hS : St F_1 (Ow.own 40 19 e_api_Record (.slice (some ⟨b_6, 0, none⟩) 1 1) ([(3, g, (vnext_Sources, next_Sources))] : List T_api_Record) :: Ow.box b_1 27 (e_api_Addr g).toArray :: Ow.box b_2 24 #[.bool old_Exclude, vold_Sources] :: Ow.box b_3 24 #[.bool next_Exclude, vnext_Sources] :: Ow.own 40 19 e_api_Record v_1 (([] : List T_api_Record) ++ ([(3, g, (vnext_Sources, next_Sources))] : List T_api_Record)) :: fr) h_7 := hS
      replace hK := hK.trans hk
      replace hL_old_Sources := hL_old_Sources.kp hk
      replace hL_next_Sources := hL_next_Sources.kp hk
      replace hN_2 := hN_2.kp hk
      replace hN_3 := hN_3.kp hk
      have hN_4 : NfL nf_api_Record F_1 h_7 (([] : List T_api_Record) ++ ([(3, g, (vnext_Sources, next_Sources))] : List T_api_Record)) := NfL.app hN_2 hN_3
      refine HO.val (v := v_1) (want_none) rfl (q_assign rfl) ?_
      refine HO.nil (thenQ_normal (?_))
      refine HW.ret (thenQ_ret (?_))
      refine ⟨.inr rfl, v_1, res1 rfl (rt rfl), ?_⟩
      replace hS : St F_1 (Ow.own 40 19 e_api_Record v_1 (([] : List T_api_Record) ++ ([(3, g, (vnext_Sources, next_Sources))] : List T_api_Record)) :: fr) h_7 := hS.perm2 [4] 5 rfl rfl
      exact ⟨F_1, ([] : List T_api_Record) ++ ([(3, g, (vnext_Sources, next_Sources))] : List T_api_Record), v_1, rfl, hK, hS, hL_old_Sources, hL_next_Sources, hN_4, hM⟩
    · replace hM := hM.2 c_2
      refine HW.skip (thenQ_normal (?_))
      refine HW.seq ?_
      refine HW.seq_mid (fun f h => ∃ (F' : Fz) (b_7 : Bool), f 3 = .pointer (some ⟨b_1, 0, none⟩) ∧ f 4 = .pointer (some ⟨b_2, 0, none⟩) ∧ f 5 = .pointer (some ⟨b_3, 0, none⟩) ∧ f 6 = .slice none 0 0 ∧ f 7 = .slice (some ⟨b_4, 0, none⟩) 0 0 ∧ f 35 = .bool b_7 ∧ Kp F h0 F' h ∧ St F' (Ow.box b_1 27 (e_api_Addr g).toArray :: Ow.box b_2 24 #[.bool old_Exclude, vold_Sources] :: Ow.box b_3 24 #[.bool next_Exclude, vnext_Sources] :: Ow.own 40 19 e_api_Record (.slice (some ⟨b_4, 0, none⟩) 0 0) ([] : List T_api_Record) :: fr) h ∧ (SliceF F' h 17 e_api_Addr vold_Sources old_Sources) ∧ (SliceF F' h 17 e_api_Addr vnext_Sources next_Sources) ∧ (NfL nf_api_Record F' h ([] : List T_api_Record)) ∧ ref19_Change_j2 g old_Exclude old_Sources next_Exclude next_Sources Q b_7) ?_ ?_
      · refine HW.region ?_
        refine HO.val (v := .pointer (some ⟨b_3, 0, none⟩)) (want_none) rfl (q_fieldAddr fa_24_0 rfl rfl) ?_
        refine HO.val (v := .bool next_Exclude) (want_none) rfl (q_load to_4 rfl (Blk.cell (hS.box 2 rfl) rfl)) ?_
        refine HO.val (v := .bool next_Exclude) (want_none) rfl (q_move rfl) ?_
        rcases Bool.eq_false_or_eq_true next_Exclude with c_3 | c_3
        · replace hM := hM.1 c_3
          refine HO.val (v := .pointer (some ⟨b_2, 0, none⟩)) (want_by rfl rfl c_3) rfl (q_fieldAddr fa_24_0 rfl rfl) ?_
          refine HO.val (v := .bool old_Exclude) (want_by rfl rfl c_3) rfl (q_load to_4 rfl (Blk.cell (hS.box 1 rfl) rfl)) ?_
          refine HO.val (v := .bool (!old_Exclude)) (want_by rfl rfl c_3) rfl (q_not rfl) ?_
          refine HO.val (v := .bool (!old_Exclude)) (want_none) rfl (q_pickK true rfl c_3 rfl) ?_
          refine HO.nil (thenQ_normal (?_))
          exact ⟨F_1, !old_Exclude, rfl, rfl, rfl, rfl, rfl, rfl, hK, hS, hL_old_Sources, hL_next_Sources, hN_2, hM⟩
        · replace hM := hM.2 c_3
          refine HO.past (past_by rfl rfl c_3) rfl ?_
          refine HO.past (past_by rfl rfl c_3) rfl ?_
          refine HO.past (past_by rfl rfl c_3) rfl ?_
          refine HO.val (v := .bool false) (want_none) rfl (q_pickK false rfl c_3 rfl) ?_
          refine HO.nil (thenQ_normal (?_))
          exact ⟨F_1, false, rfl, rfl, rfl, rfl, rfl, rfl, hK, hS, hL_old_Sources, hL_next_Sources, hN_2, hM⟩
      · rintro f_2 h_8 ⟨F_2, b_7, e3, e4, e5, e6, e7, e35, hK, hS, hL_old_Sources, hL_next_Sources, hN_2, hM⟩
        unfold ref19_Change_j2 at hM
        refine HW.fr [(3, .pointer (some ⟨b_1, 0, none⟩)), (4, .pointer (some ⟨b_2, 0, none⟩)), (5, .pointer (some ⟨b_3, 0, none⟩)), (6, .slice none 0 0), (7, .slice (some ⟨b_4, 0, none⟩) 0 0), (35, .bool b_7)] ⟨e3, e4, e5, e6, e7, e35, trivial⟩ ?_
        refine HW.cond b_7 rfl (fun c_4 => ?_) (fun c_4 => ?_)
        · replace hM := hM.1 c_4
          refine HW.seq ?_
          refine HW.region ?_
          refine HO.val (v := .slice (some ⟨b_4, 0, none⟩) 0 0) (want_none) rfl (q_move rfl) ?_
          refine HO.val (v := .agg (e_api_Addr g).toArray) (want_none) rfl (q_loadAgg (cs := (e_api_Addr g)) ta_27 rfl rfl (Blk.cells (k := 17) (hS.box 0 rfl) rfl)) ?_
          refine HO.val (v := .pointer (some ⟨b_3, 1, none⟩)) (want_none) rfl (q_fieldAddr fa_24_1 rfl rfl) ?_
          refine HO.val (v := vnext_Sources) (want_none) rfl (q_load to_22 rfl (Blk.cell (hS.box 2 rfl) rfl)) ?_
          refine HO.val (v := .agg (c_api_Record (.int .i64 4) g vnext_Sources).toArray) (want_none) rfl (q_build tp_40 (fill_cons (cs' := (c_api_Record (.int .i64 4) (false, (default : Ba 16)) (.slice none 0 0)).toArray) (vc := #[.int .i64 4]) rfl rfl rfl (Nat.le_of_ble_eq_true rfl) rfl (fill_cons (cs' := (c_api_Record (.int .i64 4) g (.slice none 0 0)).toArray) (vc := (e_api_Addr g).toArray) rfl rfl rfl (Nat.le_of_ble_eq_true rfl) rfl (fill_cons (cs' := (c_api_Record (.int .i64 4) g vnext_Sources).toArray) (vc := #[vnext_Sources]) rfl (shp hL_next_Sources.is).cells rfl (Nat.le_of_ble_eq_true rfl) rfl rfl)))) ?_
          replace hM := hM vnext_Sources
          refine HO.eff (want_none) rfl (st_lit (enc := e_api_Record) (cells := #[.int .i64 4, .bool g.1, .int .u8 (b8 g.2 0), .int .u8 (b8 g.2 1), .int .u8 (b8 g.2 2), .int .u8 (b8 g.2 3), .int .u8 (b8 g.2 4), .int .u8 (b8 g.2 5), .int .u8 (b8 g.2 6), .int .u8 (b8 g.2 7), .int .u8 (b8 g.2 8), .int .u8 (b8 g.2 9), .int .u8 (b8 g.2 10), .int .u8 (b8 g.2 11), .int .u8 (b8 g.2 12), .int .u8 (b8 g.2 13), .int .u8 (b8 g.2 14), .int .u8 (b8 g.2 15), vnext_Sources]) #[.int .i64 0, .bool false, .int .u8 0, .int .u8 0, .int .u8 0, .int .u8 0, .int .u8 0, .int .u8 0, .int .u8 0, .int .u8 0, .int .u8 0, .int .u8 0, .int .u8 0, .int .u8 0, .int .u8 0, .int .u8 0, .int .u8 0, .int .u8 0, .slice none 0 0] ([(4, g, (vnext_Sources, next_Sources))] : List T_api_Record) hS tl_31 (by decide) (by decide) (by kernel_rfl) (by kernel_rfl) rfl (by intro x hx; rfl) rfl) ?_
          rintro _ h_9 ⟨b_8, rfl, hS, hk⟩
          replace hK := hK.trans hk
          replace hL_old_Sources := hL_old_Sources.kp hk
          replace hL_next_Sources := hL_next_Sources.kp hk
          replace hN_2 := hN_2.kp hk
          have hN_5 : NfL nf_api_Record F_2 h_9 ([(4, g, (vnext_Sources, next_Sources))] : List T_api_Record) := (NfL.cons (nfm_api_Record (4, g, (vnext_Sources, next_Sources)) hL_next_Sources) (NfL.nil _ _ _))
          obtain ⟨ho_2, hM⟩ := hM
          refine HO.eff (want_none) rfl (st_append te_31 hS (i := 4) rfl (hS.own 0 rfl).slice rfl rfl rfl (fun a_ ha_ => nfo_api_Record (hN_5.is.all a_ ha_)) ho_2 (by omega)) ?_
          rintro v_2 h_10 ⟨hS, hk⟩
          replace hS : St F_2 (Ow.own 40 19 e_api_Record (.slice (some ⟨b_8, 0, none⟩) 1 1) ([(4, g, (vnext_Sources, next_Sources))] : List T_api_Record) :: Ow.box b_1 27 (e_api_Addr g).toArray :: Ow.box b_2 24 #[.bool old_Exclude, vold_Sources] :: Ow.box b_3 24 #[.bool next_Exclude, vnext_Sources] :: Ow.own 40 19 e_api_Record v_2 (([] : List T_api_Record) ++ ([(4, g, (vnext_Sources, next_Sources))] : List T_api_Record)) :: fr) h_10 := hS
          replace hK := hK.trans hk
          replace hL_old_Sources := hL_old_Sources.kp hk
          replace hL_next_Sources := hL_next_Sources.kp hk
          replace hN_2 := hN_2.kp hk
          replace hN_5 := hN_5.kp hk
          have hN_6 : NfL nf_api_Record F_2 h_10 (([] : List T_api_Record) ++ ([(4, g, (vnext_Sources, next_Sources))] : List T_api_Record)) := NfL.app hN_2 hN_5
          refine HO.val (v := v_2) (want_none) rfl (q_assign rfl) ?_
          refine HO.nil (thenQ_normal (?_))
          refine HW.ret (thenQ_ret (?_))
          refine ⟨.inr rfl, v_2, res1 rfl (rt rfl), ?_⟩
          replace hS : St F_2 (Ow.own 40 19 e_api_Record v_2 (([] : List T_api_Record) ++ ([(4, g, (vnext_Sources, next_Sources))] : List T_api_Record)) :: fr) h_10 := hS.perm2 [4] 5 rfl rfl
          exact ⟨F_2, ([] : List T_api_Record) ++ ([(4, g, (vnext_Sources, next_Sources))] : List T_api_Record), v_2, rfl, hK, hS, hL_old_Sources, hL_next_Sources, hN_6, hM⟩
        · replace hM := hM.2 c_4
          refine HW.skip (thenQ_normal (?_))
          refine HW.seq ?_
          refine HW.region ?_
          refine HO.val (v := .pointer (some ⟨b_2, 1, none⟩)) (want_none) rfl (q_fieldAddr fa_24_1 rfl rfl) ?_
          refine HO.val (v := vold_Sources) (want_none) rfl (q_load to_22 rfl (Blk.cell (hS.box 1 rfl) rfl)) ?_
          refine HO.val (v := .pointer (some ⟨b_3, 1, none⟩)) (want_none) rfl (q_fieldAddr fa_24_1 rfl rfl) ?_
          refine HO.val (v := vnext_Sources) (want_none) rfl (q_load to_22 rfl (Blk.cell (hS.box 2 rfl) rfl)) ?_
          refine HO.call (want_none) rfl (ec en_44 rfl rfl) (ref11_Or_walk (fr := (Ow.box b_1 27 (e_api_Addr g).toArray :: Ow.box b_2 24 #[.bool old_Exclude, vold_Sources] :: Ow.box b_3 24 #[.bool next_Exclude, vnext_Sources] :: Ow.own 40 19 e_api_Record (.slice (some ⟨b_4, 0, none⟩) 0 0) ([] : List T_api_Record) :: fr)) old_Sources next_Sources vold_Sources vnext_Sources hS hL_old_Sources hL_next_Sources hM) ?_
          rintro vr_2 h_11 ⟨F_3, r_2, _, rfl, hk, hS, _, _, hL_1, hM⟩
          replace hK := hK.trans hk
          replace hL_old_Sources := hL_old_Sources.kp hk
          replace hL_next_Sources := hL_next_Sources.kp hk
          replace hN_2 := hN_2.kp hk
          refine HO.val (v := vr_2) (want_none) rfl (q_assign rfl) ?_
          refine HO.nil (thenQ_normal (?_))
          refine HW.seq_mid (fun f h => ∃ (F' : Fz) (b_9 : Nat) (b_10 : Nat), f 4 = .pointer (some ⟨b_2, 0, none⟩) ∧ f 5 = .pointer (some ⟨b_3, 0, none⟩) ∧ f 6 = .slice none 0 0 ∧ f 7 = .slice (some ⟨b_4, 0, none⟩) 0 0 ∧ f 8 = vr_2 ∧ f 9 = .pointer (some ⟨b_9, 0, none⟩) ∧ f 10 = .pointer (some ⟨b_10, 0, none⟩) ∧ Kp F h0 F' h ∧ St F' (Ow.box b_2 24 #[.bool old_Exclude, vold_Sources] :: Ow.box b_3 24 #[.bool next_Exclude, vnext_Sources] :: Ow.own 40 19 e_api_Record (.slice (some ⟨b_4, 0, none⟩) 0 0) ([] : List T_api_Record) :: Ow.box b_9 40 (c_api_Record (.int .i64 5) g (.slice none 0 0)).toArray :: Ow.box b_10 40 (c_api_Record (.int .i64 6) g (.slice none 0 0)).toArray :: fr) h ∧ (SliceF F' h 17 e_api_Addr vold_Sources old_Sources) ∧ (SliceF F' h 17 e_api_Addr vnext_Sources next_Sources) ∧ (NfL nf_api_Record F' h ([] : List T_api_Record)) ∧ (SliceF F' h 17 e_api_Addr vr_2 r_2) ∧ ref19_Change_j3 g old_Exclude old_Sources next_Exclude next_Sources Q r_2) ?_ ?_
          · refine HW.regionA 8 mixed (fun h => (Blk h b_1 (.cells (e_api_Addr g).toArray 27 (0, 0)))) [] (by kernel_rfl) ?_
            refine HA.val (k := 0) (v := .agg (e_api_Addr g).toArray) rfl rfl (by kernel_rfl) (by kernel_rfl) (want_none) rfl (fun _ c210 => q_loadAgg (cs := (e_api_Addr g)) ta_27 rfl rfl (Blk.cells (k := 17) c210 rfl)) ?_
            refine HA.val (k := 1) (v := .agg (c_api_Record (.int .i64 5) g (.slice none 0 0)).toArray) rfl rfl (by kernel_rfl) (by kernel_rfl) (want_none) rfl (fun _ c210 => q_build tp_40 (fill_cons (cs' := (c_api_Record (.int .i64 5) (false, (default : Ba 16)) (.slice none 0 0)).toArray) (vc := #[.int .i64 5]) rfl rfl rfl (Nat.le_of_ble_eq_true rfl) rfl (fill_cons (cs' := (c_api_Record (.int .i64 5) g (.slice none 0 0)).toArray) (vc := (e_api_Addr g).toArray) rfl rfl rfl (Nat.le_of_ble_eq_true rfl) rfl rfl))) ?_
            refine HA.val (k := 2) (v := .agg (e_api_Addr g).toArray) rfl rfl (by kernel_rfl) (by kernel_rfl) (want_none) rfl (fun _ c210 => q_loadAgg (cs := (e_api_Addr g)) ta_27 rfl rfl (Blk.cells (k := 17) c210 rfl)) ?_
            refine HA.val (k := 3) (v := .agg (c_api_Record (.int .i64 6) g (.slice none 0 0)).toArray) rfl rfl (by kernel_rfl) (by kernel_rfl) (want_none) rfl (fun _ c210 => q_build tp_40 (fill_cons (cs' := (c_api_Record (.int .i64 6) (false, (default : Ba 16)) (.slice none 0 0)).toArray) (vc := #[.int .i64 6]) rfl rfl rfl (Nat.le_of_ble_eq_true rfl) rfl (fill_cons (cs' := (c_api_Record (.int .i64 6) g (.slice none 0 0)).toArray) (vc := (e_api_Addr g).toArray) rfl rfl rfl (Nat.le_of_ble_eq_true rfl) rfl rfl))) ?_
            refine HA.two (k := 4) (k' := 5) ⟨(hS.box 0 rfl), (Go.Wk.at_nil _ _)⟩ (by kernel_rfl) ?_ ?_
            · refine HS.eff rfl (want_none) rfl (st_alloc (c := (c_api_Record (.int .i64 0) (false, (default : Ba 16)) (.slice none 0 0)).toArray) hS tz_40 rfl) ?_
              rintro _ h_12 ⟨b_11, rfl, hS, hk⟩
              replace hK := hK.trans hk
              replace hL_old_Sources := hL_old_Sources.kp hk
              replace hL_next_Sources := hL_next_Sources.kp hk
              replace hN_2 := hN_2.kp hk
              replace hL_1 := hL_1.kp hk
              refine HA.one (k := 5) ⟨(hS.box 1 rfl), (Go.Wk.at_nil _ _)⟩ (by kernel_rfl) ?_
              refine HS.eff rfl (want_none) rfl (st_alloc (c := (c_api_Record (.int .i64 0) (false, (default : Ba 16)) (.slice none 0 0)).toArray) hS tz_40 rfl) ?_
              rintro _ h_13 ⟨b_12, rfl, hS, hk⟩
              replace hK := hK.trans hk
              replace hL_old_Sources := hL_old_Sources.kp hk
              replace hL_next_Sources := hL_next_Sources.kp hk
              replace hN_2 := hN_2.kp hk
              replace hL_1 := hL_1.kp hk
              refine HA.one (k := 6) ⟨(hS.box 2 rfl), (Go.Wk.at_nil _ _)⟩ (by kernel_rfl) ?_
              refine HS.sto rfl (want_none) rfl (st_storeAgg (c' := (c_api_Record (.int .i64 5) g (.slice none 0 0)).toArray) hS (i := 1) rfl ta_40 rfl rfl rfl (List.forall_mem_cons.2 ⟨rfl, (List.forall_mem_cons.2 ⟨rfl, (List.forall_mem_cons.2 ⟨rfl, (List.forall_mem_cons.2 ⟨rfl, (List.forall_mem_cons.2 ⟨rfl, (List.forall_mem_cons.2 ⟨rfl, (List.forall_mem_cons.2 ⟨rfl, (List.forall_mem_cons.2 ⟨rfl, (List.forall_mem_cons.2 ⟨rfl, (List.forall_mem_cons.2 ⟨rfl, (List.forall_mem_cons.2 ⟨rfl, (List.forall_mem_cons.2 ⟨rfl, (List.forall_mem_cons.2 ⟨rfl, (List.forall_mem_cons.2 ⟨rfl, (List.forall_mem_cons.2 ⟨rfl, (List.forall_mem_cons.2 ⟨rfl, (List.forall_mem_cons.2 ⟨rfl, (List.forall_mem_cons.2 ⟨rfl, (List.forall_mem_cons.2 ⟨rfl, (fun _ h => by cases h)⟩)⟩)⟩)⟩)⟩)⟩)⟩)⟩)⟩)⟩)⟩)⟩)⟩)⟩)⟩)⟩)⟩)⟩)⟩) (Nat.le_of_ble_eq_true rfl) rfl) ?_
              rintro h_14 ⟨hS, hk⟩
              replace hS : St F_3 (Ow.box b_12 40 (c_api_Record (.int .i64 0) (false, (default : Ba 16)) (.slice none 0 0)).toArray :: Ow.box b_11 40 (c_api_Record (.int .i64 5) g (.slice none 0 0)).toArray :: Ow.box b_1 27 (e_api_Addr g).toArray :: Ow.box b_2 24 #[.bool old_Exclude, vold_Sources] :: Ow.box b_3 24 #[.bool next_Exclude, vnext_Sources] :: Ow.own 40 19 e_api_Record (.slice (some ⟨b_4, 0, none⟩) 0 0) ([] : List T_api_Record) :: fr) h_14 := hS
              replace hK := hK.trans hk
              replace hL_old_Sources := hL_old_Sources.kp hk
              replace hL_next_Sources := hL_next_Sources.kp hk
              replace hN_2 := hN_2.kp hk
              replace hL_1 := hL_1.kp hk
              refine HA.one (k := 7) ⟨(hS.box 2 rfl), (Go.Wk.at_nil _ _)⟩ (by kernel_rfl) ?_
              refine HS.sto rfl (want_none) rfl (st_storeAgg (c' := (c_api_Record (.int .i64 6) g (.slice none 0 0)).toArray) hS (i := 0) rfl ta_40 rfl rfl rfl (List.forall_mem_cons.2 ⟨rfl, (List.forall_mem_cons.2 ⟨rfl, (List.forall_mem_cons.2 ⟨rfl, (List.forall_mem_cons.2 ⟨rfl, (List.forall_mem_cons.2 ⟨rfl, (List.forall_mem_cons.2 ⟨rfl, (List.forall_mem_cons.2 ⟨rfl, (List.forall_mem_cons.2 ⟨rfl, (List.forall_mem_cons.2 ⟨rfl, (List.forall_mem_cons.2 ⟨rfl, (List.forall_mem_cons.2 ⟨rfl, (List.forall_mem_cons.2 ⟨rfl, (List.forall_mem_cons.2 ⟨rfl, (List.forall_mem_cons.2 ⟨rfl, (List.forall_mem_cons.2 ⟨rfl, (List.forall_mem_cons.2 ⟨rfl, (List.forall_mem_cons.2 ⟨rfl, (List.forall_mem_cons.2 ⟨rfl, (List.forall_mem_cons.2 ⟨rfl, (fun _ h => by cases h)⟩)⟩)⟩)⟩)⟩)⟩)⟩)⟩)⟩)⟩)⟩)⟩)⟩)⟩)⟩)⟩)⟩)⟩)⟩) (Nat.le_of_ble_eq_true rfl) rfl) ?_
              rintro h_15 ⟨hS, hk⟩
              replace hS : St F_3 (Ow.box b_12 40 (c_api_Record (.int .i64 6) g (.slice none 0 0)).toArray :: Ow.box b_11 40 (c_api_Record (.int .i64 5) g (.slice none 0 0)).toArray :: Ow.box b_1 27 (e_api_Addr g).toArray :: Ow.box b_2 24 #[.bool old_Exclude, vold_Sources] :: Ow.box b_3 24 #[.bool next_Exclude, vnext_Sources] :: Ow.own 40 19 e_api_Record (.slice (some ⟨b_4, 0, none⟩) 0 0) ([] : List T_api_Record) :: fr) h_15 := hS
              replace hK := hK.trans hk
              replace hL_old_Sources := hL_old_Sources.kp hk
              replace hL_next_Sources := hL_next_Sources.kp hk
              replace hN_2 := hN_2.kp hk
              replace hL_1 := hL_1.kp hk
              refine HA.nil ⟨(hS.box 2 rfl), (Go.Wk.at_nil _ _)⟩ (by kernel_rfl) (thenQ_normal (?_))
              replace hS : St F_3 (Ow.box b_2 24 #[.bool old_Exclude, vold_Sources] :: Ow.box b_3 24 #[.bool next_Exclude, vnext_Sources] :: Ow.own 40 19 e_api_Record (.slice (some ⟨b_4, 0, none⟩) 0 0) ([] : List T_api_Record) :: Ow.box b_11 40 (c_api_Record (.int .i64 5) g (.slice none 0 0)).toArray :: Ow.box b_12 40 (c_api_Record (.int .i64 6) g (.slice none 0 0)).toArray :: fr) h_15 := hS.perm2 [3, 4, 5, 1, 0] 6 rfl rfl
              exact ⟨F_3, b_11, b_12, rfl, rfl, rfl, rfl, rfl, rfl, rfl, hK, hS, hL_old_Sources, hL_next_Sources, hN_2, hL_1, hM⟩
            · refine HS.eff rfl (want_none) rfl (st_alloc (c := (c_api_Record (.int .i64 0) (false, (default : Ba 16)) (.slice none 0 0)).toArray) hS tz_40 rfl) ?_
              rintro _ h_12 ⟨b_11, rfl, hS, hk⟩
              replace hK := hK.trans hk
              replace hL_old_Sources := hL_old_Sources.kp hk
              replace hL_next_Sources := hL_next_Sources.kp hk
              replace hN_2 := hN_2.kp hk
              replace hL_1 := hL_1.kp hk
              refine HA.one (k := 4) ⟨(hS.box 1 rfl), (Go.Wk.at_nil _ _)⟩ (by kernel_rfl) ?_
              refine HS.eff rfl (want_none) rfl (st_alloc (c := (c_api_Record (.int .i64 0) (false, (default : Ba 16)) (.slice none 0 0)).toArray) hS tz_40 rfl) ?_
              rintro _ h_13 ⟨b_12, rfl, hS, hk⟩
              replace hK := hK.trans hk
              replace hL_old_Sources := hL_old_Sources.kp hk
              replace hL_next_Sources := hL_next_Sources.kp hk
              replace hN_2 := hN_2.kp hk
              replace hL_1 := hL_1.kp hk
              refine HA.one (k := 6) ⟨(hS.box 2 rfl), (Go.Wk.at_nil _ _)⟩ (by kernel_rfl) ?_
              refine HS.sto rfl (want_none) rfl (st_storeAgg (c' := (c_api_Record (.int .i64 5) g (.slice none 0 0)).toArray) hS (i := 0) rfl ta_40 rfl rfl rfl (List.forall_mem_cons.2 ⟨rfl, (List.forall_mem_cons.2 ⟨rfl, (List.forall_mem_cons.2 ⟨rfl, (List.forall_mem_cons.2 ⟨rfl, (List.forall_mem_cons.2 ⟨rfl, (List.forall_mem_cons.2 ⟨rfl, (List.forall_mem_cons.2 ⟨rfl, (List.forall_mem_cons.2 ⟨rfl, (List.forall_mem_cons.2 ⟨rfl, (List.forall_mem_cons.2 ⟨rfl, (List.forall_mem_cons.2 ⟨rfl, (List.forall_mem_cons.2 ⟨rfl, (List.forall_mem_cons.2 ⟨rfl, (List.forall_mem_cons.2 ⟨rfl, (List.forall_mem_cons.2 ⟨rfl, (List.forall_mem_cons.2 ⟨rfl, (List.forall_mem_cons.2 ⟨rfl, (List.forall_mem_cons.2 ⟨rfl, (List.forall_mem_cons.2 ⟨rfl, (fun _ h => by cases h)⟩)⟩)⟩)⟩)⟩)⟩)⟩)⟩)⟩)⟩)⟩)⟩)⟩)⟩)⟩)⟩)⟩)⟩)⟩) (Nat.le_of_ble_eq_true rfl) rfl) ?_
              rintro h_14 ⟨hS, hk⟩
              replace hS : St F_3 (Ow.box b_12 40 (c_api_Record (.int .i64 5) g (.slice none 0 0)).toArray :: Ow.box b_11 40 (c_api_Record (.int .i64 0) (false, (default : Ba 16)) (.slice none 0 0)).toArray :: Ow.box b_1 27 (e_api_Addr g).toArray :: Ow.box b_2 24 #[.bool old_Exclude, vold_Sources] :: Ow.box b_3 24 #[.bool next_Exclude, vnext_Sources] :: Ow.own 40 19 e_api_Record (.slice (some ⟨b_4, 0, none⟩) 0 0) ([] : List T_api_Record) :: fr) h_14 := hS
              replace hK := hK.trans hk
              replace hL_old_Sources := hL_old_Sources.kp hk
              replace hL_next_Sources := hL_next_Sources.kp hk
              replace hN_2 := hN_2.kp hk
              replace hL_1 := hL_1.kp hk
              refine HA.one (k := 7) ⟨(hS.box 2 rfl), (Go.Wk.at_nil _ _)⟩ (by kernel_rfl) ?_
              refine HS.sto rfl (want_none) rfl (st_storeAgg (c' := (c_api_Record (.int .i64 6) g (.slice none 0 0)).toArray) hS (i := 1) rfl ta_40 rfl rfl rfl (List.forall_mem_cons.2 ⟨rfl, (List.forall_mem_cons.2 ⟨rfl, (List.forall_mem_cons.2 ⟨rfl, (List.forall_mem_cons.2 ⟨rfl, (List.forall_mem_cons.2 ⟨rfl, (List.forall_mem_cons.2 ⟨rfl, (List.forall_mem_cons.2 ⟨rfl, (List.forall_mem_cons.2 ⟨rfl, (List.forall_mem_cons.2 ⟨rfl, (List.forall_mem_cons.2 ⟨rfl, (List.forall_mem_cons.2 ⟨rfl, (List.forall_mem_cons.2 ⟨rfl, (List.forall_mem_cons.2 ⟨rfl, (List.forall_mem_cons.2 ⟨rfl, (List.forall_mem_cons.2 ⟨rfl, (List.forall_mem_cons.2 ⟨rfl, (List.forall_mem_cons.2 ⟨rfl, (List.forall_mem_cons.2 ⟨rfl, (List.forall_mem_cons.2 ⟨rfl, (fun _ h => by cases h)⟩)⟩)⟩)⟩)⟩)⟩)⟩)⟩)⟩)⟩)⟩)⟩)⟩)⟩)⟩)⟩)⟩)⟩)⟩) (Nat.le_of_ble_eq_true rfl) rfl) ?_
              rintro h_15 ⟨hS, hk⟩
              replace hS : St F_3 (Ow.box b_12 40 (c_api_Record (.int .i64 5) g (.slice none 0 0)).toArray :: Ow.box b_11 40 (c_api_Record (.int .i64 6) g (.slice none 0 0)).toArray :: Ow.box b_1 27 (e_api_Addr g).toArray :: Ow.box b_2 24 #[.bool old_Exclude, vold_Sources] :: Ow.box b_3 24 #[.bool next_Exclude, vnext_Sources] :: Ow.own 40 19 e_api_Record (.slice (some ⟨b_4, 0, none⟩) 0 0) ([] : List T_api_Record) :: fr) h_15 := hS
              replace hK := hK.trans hk
              replace hL_old_Sources := hL_old_Sources.kp hk
              replace hL_next_Sources := hL_next_Sources.kp hk
              replace hN_2 := hN_2.kp hk
              replace hL_1 := hL_1.kp hk
              refine HA.nil ⟨(hS.box 2 rfl), (Go.Wk.at_nil _ _)⟩ (by kernel_rfl) (thenQ_normal (?_))
              replace hS : St F_3 (Ow.box b_2 24 #[.bool old_Exclude, vold_Sources] :: Ow.box b_3 24 #[.bool next_Exclude, vnext_Sources] :: Ow.own 40 19 e_api_Record (.slice (some ⟨b_4, 0, none⟩) 0 0) ([] : List T_api_Record) :: Ow.box b_12 40 (c_api_Record (.int .i64 5) g (.slice none 0 0)).toArray :: Ow.box b_11 40 (c_api_Record (.int .i64 6) g (.slice none 0 0)).toArray :: fr) h_15 := hS.perm2 [3, 4, 5, 0, 1] 6 rfl rfl
              exact ⟨F_3, b_12, b_11, rfl, rfl, rfl, rfl, rfl, rfl, rfl, hK, hS, hL_old_Sources, hL_next_Sources, hN_2, hL_1, hM⟩
          · rintro f_3 h_16 ⟨F_4, b_9, b_10, e4, e5, e6, e7, e8, e9, e10, hK, hS, hL_old_Sources, hL_next_Sources, hN_2, hL_1, hM⟩
            unfold ref19_Change_j3 at hM
            refine HW.fr [(4, .pointer (some ⟨b_2, 0, none⟩)), (5, .pointer (some ⟨b_3, 0, none⟩)), (6, .slice none 0 0), (7, .slice (some ⟨b_4, 0, none⟩) 0 0), (8, vr_2), (9, .pointer (some ⟨b_9, 0, none⟩)), (10, .pointer (some ⟨b_10, 0, none⟩))] ⟨e4, e5, e6, e7, e8, e9, e10, trivial⟩ ?_
            refine HW.seq ?_
            refine HW.seq ?_
            refine HW.region ?_
            refine HO.val (v := .int .i64 0) (want_none) rfl (q_assign rfl) ?_
            refine HO.nil (thenQ_normal (?_))
            refine HW.block ?_
            obtain ⟨I_1, m_1, hI_1, hR_1⟩ := hM
            replace hS := hS.nilOwn 27 17 e_api_Addr
            replace hS := hS.nilOwn 27 17 e_api_Addr
            replace hS : St F_4 (Ow.box b_2 24 #[.bool old_Exclude, vold_Sources] :: Ow.box b_3 24 #[.bool next_Exclude, vnext_Sources] :: Ow.own 40 19 e_api_Record (.slice (some ⟨b_4, 0, none⟩) 0 0) ([] : List T_api_Record) :: Ow.box b_9 40 (c_api_Record (.int .i64 5) g (.slice none 0 0)).toArray :: Ow.own 27 17 e_api_Addr (.slice none 0 0) ([] : List T_api_Addr) :: Ow.box b_10 40 (c_api_Record (.int .i64 6) g (.slice none 0 0)).toArray :: Ow.own 27 17 e_api_Addr (.slice none 0 0) ([] : List T_api_Addr) :: fr) h_16 := hS.perm2 [2, 3, 4, 5, 1, 6, 0] 7 rfl rfl
            refine HW.loop (S := List T_api_Addr × List T_api_Addr × Int) (fun s f h => match s with | (a_18_1, b_18_1, i_1) => ∃ (F' : Fz) (va_18_1 : Value) (vb_18_1 : Value), f 4 = .pointer (some ⟨b_2, 0, none⟩) ∧ f 5 = .pointer (some ⟨b_3, 0, none⟩) ∧ f 6 = .slice none 0 0 ∧ f 7 = .slice (some ⟨b_4, 0, none⟩) 0 0 ∧ f 8 = vr_2 ∧ f 9 = .pointer (some ⟨b_9, 0, none⟩) ∧ f 10 = .pointer (some ⟨b_10, 0, none⟩) ∧ f 11 = .int .i64 i_1 ∧ Kp F h0 F' h ∧ St F' (Ow.box b_2 24 #[.bool old_Exclude, vold_Sources] :: Ow.box b_3 24 #[.bool next_Exclude, vnext_Sources] :: Ow.own 40 19 e_api_Record (.slice (some ⟨b_4, 0, none⟩) 0 0) ([] : List T_api_Record) :: Ow.box b_9 40 (c_api_Record (.int .i64 5) g va_18_1).toArray :: Ow.own 27 17 e_api_Addr va_18_1 a_18_1 :: Ow.box b_10 40 (c_api_Record (.int .i64 6) g vb_18_1).toArray :: Ow.own 27 17 e_api_Addr vb_18_1 b_18_1 :: fr) h ∧ (SliceF F' h 17 e_api_Addr vold_Sources old_Sources) ∧ (SliceF F' h 17 e_api_Addr vnext_Sources next_Sources) ∧ (NfL nf_api_Record F' h ([] : List T_api_Record)) ∧ (SliceF F' h 17 e_api_Addr vr_2 r_2) ∧ I_1 (a_18_1, b_18_1, i_1)) m_1 ([], [], 0) ⟨F_4, .slice none 0 0, .slice none 0 0, rfl, rfl, rfl, rfl, rfl, rfl, rfl, rfl, hK, hS, hL_old_Sources, hL_next_Sources, hN_2, hL_1, hI_1⟩ ?_
            rintro ⟨a_18_1, b_18_1, i_1⟩ f_4 h_17 ⟨F_5, va_18_1, vb_18_1, e4, e5, e6, e7, e8, e9, e10, e11, hK, hS, hL_old_Sources, hL_next_Sources, hN_2, hL_1, hI0⟩
            obtain ⟨K_1, hKe_1⟩ : ∃ K : (List T_api_Addr) → (List T_api_Addr) → Int → Prop, K = fun a_18_1' b_18_1' i_1' => I_1 (a_18_1', b_18_1', i_1') ∧ m_1 (a_18_1', b_18_1', i_1') < m_1 (a_18_1, b_18_1, i_1) := ⟨_, rfl⟩
            have hM : ref19_Change_l1 g old_Exclude old_Sources next_Exclude next_Sources Q r_2 K_1 a_18_1 b_18_1 i_1 := by rw [hKe_1]; exact hR_1 (a_18_1, b_18_1, i_1) hI0
            unfold ref19_Change_l1 at hM
            refine HW.fr [(4, .pointer (some ⟨b_2, 0, none⟩)), (5, .pointer (some ⟨b_3, 0, none⟩)), (6, .slice none 0 0), (7, .slice (some ⟨b_4, 0, none⟩) 0 0), (8, vr_2), (9, .pointer (some ⟨b_9, 0, none⟩)), (10, .pointer (some ⟨b_10, 0, none⟩)), (11, .int .i64 i_1)] ⟨e4, e5, e6, e7, e8, e9, e10, e11, trivial⟩ ?_
            refine HW.seq ?_
            refine HW.seq ?_
            refine HW.region ?_
            refine HO.val (v := .int .i64 i_1) (want_none) rfl (q_move rfl) ?_
            refine HO.val (v := vr_2) (want_none) rfl (q_move rfl) ?_
            refine HO.val (v := .int .i64 (r_2.length : Int)) (want_none) rfl (q_len ts_22 (shp hL_1.is) rfl rfl) ?_
            refine HO.val (v := .bool (decide (i_1 < (r_2.length : Int)))) (want_none) rfl (q_lss rfl rfl) ?_
            refine HO.nil (thenQ_normal (?_))
            refine HW.cond (decide (i_1 < (r_2.length : Int))) rfl (fun c_5 => ?_) (fun c_5 => ?_)
            · replace hM := hM.1 (of_decide_eq_true c_5)
              refine HW.skip (thenQ_normal (?_))
              refine HW.seq ?_
              refine HW.block ?_
              refine HW.seq ?_
              refine HW.regionA 14 mixed (fun h => (SliceIs h 17 e_api_Addr vr_2 r_2) ∧ (Blk h b_2 (.cells #[.bool old_Exclude, vold_Sources] 24 (0, 0))) ∧ (Blk h b_3 (.cells #[.bool next_Exclude, vnext_Sources] 24 (0, 0)))) [] (by kernel_rfl) ?_
              refine HA.val (k := 0) (v := .agg #[.bool old_Exclude, vold_Sources]) rfl rfl (by kernel_rfl) (by kernel_rfl) (want_none) rfl (fun _ ⟨hL_1, c369, c370⟩ => q_loadAgg (cs := [.bool old_Exclude, vold_Sources]) ta_24 rfl rfl (Blk.cells (k := 2) c369 rfl)) ?_
              refine HA.val (k := 1) (v := vr_2) rfl rfl (by kernel_rfl) (by kernel_rfl) (want_none) rfl (fun _ ⟨hL_1, c369, c370⟩ => q_move rfl) ?_
              refine HA.val (k := 2) (v := .int .i64 i_1) rfl rfl (by kernel_rfl) (by kernel_rfl) (want_none) rfl (fun _ ⟨hL_1, c369, c370⟩ => q_move rfl) ?_
              obtain ⟨ho_3, hM⟩ := hM
              refine HA.val (k := 3) (v := elemPtr 17 vr_2 (i_1).toNat) rfl rfl (by kernel_rfl) (by kernel_rfl) (want_none) rfl (fun _ ⟨hL_1, c369, c370⟩ => q_idx ts_22 hL_1 rfl rfl ho_3) ?_
              refine HA.val (k := 4) (v := .agg (e_api_Addr (gi r_2 i_1)).toArray) rfl rfl (by kernel_rfl) (by kernel_rfl) (want_none) rfl (fun _ ⟨hL_1, c369, c370⟩ => q_ldElemAgg (cs := (e_api_Addr (gi r_2 i_1))) ta_27 hL_1 rfl ho_3 rfl) ?_
              refine HA.val (k := 6) (v := .agg #[.bool next_Exclude, vnext_Sources]) rfl rfl (by kernel_rfl) (by kernel_rfl) (want_none) rfl (fun _ ⟨hL_1, c369, c370⟩ => q_loadAgg (cs := [.bool next_Exclude, vnext_Sources]) ta_24 rfl rfl (Blk.cells (k := 2) c370 rfl)) ?_
              refine HA.val (k := 7) (v := vr_2) rfl rfl (by kernel_rfl) (by kernel_rfl) (want_none) rfl (fun _ ⟨hL_1, c369, c370⟩ => q_move rfl) ?_
              refine HA.val (k := 8) (v := .int .i64 i_1) rfl rfl (by kernel_rfl) (by kernel_rfl) (want_none) rfl (fun _ ⟨hL_1, c369, c370⟩ => q_move rfl) ?_
              refine HA.val (k := 9) (v := elemPtr 17 vr_2 (i_1).toNat) rfl rfl (by kernel_rfl) (by kernel_rfl) (want_none) rfl (fun _ ⟨hL_1, c369, c370⟩ => q_idx ts_22 hL_1 rfl rfl ho_3) ?_
              refine HA.val (k := 10) (v := .agg (e_api_Addr (gi r_2 i_1)).toArray) rfl rfl (by kernel_rfl) (by kernel_rfl) (want_none) rfl (fun _ ⟨hL_1, c369, c370⟩ => q_ldElemAgg (cs := (e_api_Addr (gi r_2 i_1))) ta_27 hL_1 rfl ho_3 rfl) ?_
              refine HA.one (k := 5) ⟨⟨hL_1.is, (hS.box 0 rfl), (hS.box 1 rfl)⟩, (Go.Wk.at_nil _ _)⟩ (by kernel_rfl) ?_
              refine HS.call rfl (want_none) rfl (ec en_14 rfl rfl) (ref19_Lets_walk (fr := (Ow.box b_2 24 #[.bool old_Exclude, vold_Sources] :: Ow.box b_3 24 #[.bool next_Exclude, vnext_Sources] :: Ow.own 40 19 e_api_Record (.slice (some ⟨b_4, 0, none⟩) 0 0) ([] : List T_api_Record) :: Ow.box b_9 40 (c_api_Record (.int .i64 5) g va_18_1).toArray :: Ow.own 27 17 e_api_Addr va_18_1 a_18_1 :: Ow.box b_10 40 (c_api_Record (.int .i64 6) g vb_18_1).toArray :: Ow.own 27 17 e_api_Addr vb_18_1 b_18_1 :: fr)) old_Exclude old_Sources (gi r_2 i_1) vold_Sources hS hL_old_Sources hM) ?_
              rintro _ h_18 ⟨F_6, r_3, rfl, hk, hS, _, hM⟩
              replace hK := hK.trans hk
              replace hL_old_Sources := hL_old_Sources.kp hk
              replace hL_next_Sources := hL_next_Sources.kp hk
              replace hN_2 := hN_2.kp hk
              replace hL_1 := hL_1.kp hk
              refine HA.one (k := 11) ⟨⟨hL_1.is, (hS.box 0 rfl), (hS.box 1 rfl)⟩, (Go.Wk.at_nil _ _)⟩ (by kernel_rfl) ?_
              refine HS.call rfl (want_none) rfl (ec en_14 rfl rfl) (ref19_Lets_walk (fr := (Ow.box b_2 24 #[.bool old_Exclude, vold_Sources] :: Ow.box b_3 24 #[.bool next_Exclude, vnext_Sources] :: Ow.own 40 19 e_api_Record (.slice (some ⟨b_4, 0, none⟩) 0 0) ([] : List T_api_Record) :: Ow.box b_9 40 (c_api_Record (.int .i64 5) g va_18_1).toArray :: Ow.own 27 17 e_api_Addr va_18_1 a_18_1 :: Ow.box b_10 40 (c_api_Record (.int .i64 6) g vb_18_1).toArray :: Ow.own 27 17 e_api_Addr vb_18_1 b_18_1 :: fr)) next_Exclude next_Sources (gi r_2 i_1) vnext_Sources hS hL_next_Sources hM) ?_
              rintro _ h_19 ⟨F_7, r_4, rfl, hk, hS, _, hM⟩
              replace hK := hK.trans hk
              replace hL_old_Sources := hL_old_Sources.kp hk
              replace hL_next_Sources := hL_next_Sources.kp hk
              replace hN_2 := hN_2.kp hk
              replace hL_1 := hL_1.kp hk
              refine HA.val (k := 12) (v := .bool r_3) rfl rfl (by kernel_rfl) (by kernel_rfl) (want_none) rfl (fun _ ⟨hL_1, c369, c370⟩ => q_assign rfl) ?_
              refine HA.val (k := 13) (v := .bool r_4) rfl rfl (by kernel_rfl) (by kernel_rfl) (want_none) rfl (fun _ ⟨hL_1, c369, c370⟩ => q_assign rfl) ?_
              refine HA.nil ⟨⟨hL_1.is, (hS.box 0 rfl), (hS.box 1 rfl)⟩, (Go.Wk.at_nil _ _)⟩ (by kernel_rfl) (thenQ_normal (?_))
              refine HW.seq_mid (fun f h => ∃ (F' : Fz) (a_18_2 : List T_api_Addr) (va_18_2 : Value), f 4 = .pointer (some ⟨b_2, 0, none⟩) ∧ f 5 = .pointer (some ⟨b_3, 0, none⟩) ∧ f 6 = .slice none 0 0 ∧ f 7 = .slice (some ⟨b_4, 0, none⟩) 0 0 ∧ f 8 = vr_2 ∧ f 9 = .pointer (some ⟨b_9, 0, none⟩) ∧ f 10 = .pointer (some ⟨b_10, 0, none⟩) ∧ f 11 = .int .i64 i_1 ∧ f 12 = .bool r_3 ∧ f 13 = .bool r_4 ∧ Kp F h0 F' h ∧ St F' (Ow.box b_2 24 #[.bool old_Exclude, vold_Sources] :: Ow.box b_3 24 #[.bool next_Exclude, vnext_Sources] :: Ow.own 40 19 e_api_Record (.slice (some ⟨b_4, 0, none⟩) 0 0) ([] : List T_api_Record) :: Ow.box b_9 40 (c_api_Record (.int .i64 5) g va_18_2).toArray :: Ow.own 27 17 e_api_Addr va_18_2 a_18_2 :: Ow.box b_10 40 (c_api_Record (.int .i64 6) g vb_18_1).toArray :: Ow.own 27 17 e_api_Addr vb_18_1 b_18_1 :: fr) h ∧ (SliceF F' h 17 e_api_Addr vold_Sources old_Sources) ∧ (SliceF F' h 17 e_api_Addr vnext_Sources next_Sources) ∧ (NfL nf_api_Record F' h ([] : List T_api_Record)) ∧ (SliceF F' h 17 e_api_Addr vr_2 r_2) ∧ ref19_Change_j4 r_2 b_18_1 i_1 K_1 r_3 r_4 a_18_2) ?_ ?_
              · refine HW.seq_mid (fun f h => ∃ (F' : Fz) (b_13 : Bool), f 4 = .pointer (some ⟨b_2, 0, none⟩) ∧ f 5 = .pointer (some ⟨b_3, 0, none⟩) ∧ f 6 = .slice none 0 0 ∧ f 7 = .slice (some ⟨b_4, 0, none⟩) 0 0 ∧ f 8 = vr_2 ∧ f 9 = .pointer (some ⟨b_9, 0, none⟩) ∧ f 10 = .pointer (some ⟨b_10, 0, none⟩) ∧ f 11 = .int .i64 i_1 ∧ f 12 = .bool r_3 ∧ f 13 = .bool r_4 ∧ f 74 = .bool b_13 ∧ Kp F h0 F' h ∧ St F' (Ow.box b_2 24 #[.bool old_Exclude, vold_Sources] :: Ow.box b_3 24 #[.bool next_Exclude, vnext_Sources] :: Ow.own 40 19 e_api_Record (.slice (some ⟨b_4, 0, none⟩) 0 0) ([] : List T_api_Record) :: Ow.box b_9 40 (c_api_Record (.int .i64 5) g va_18_1).toArray :: Ow.own 27 17 e_api_Addr va_18_1 a_18_1 :: Ow.box b_10 40 (c_api_Record (.int .i64 6) g vb_18_1).toArray :: Ow.own 27 17 e_api_Addr vb_18_1 b_18_1 :: fr) h ∧ (SliceF F' h 17 e_api_Addr vold_Sources old_Sources) ∧ (SliceF F' h 17 e_api_Addr vnext_Sources next_Sources) ∧ (NfL nf_api_Record F' h ([] : List T_api_Record)) ∧ (SliceF F' h 17 e_api_Addr vr_2 r_2) ∧ ref19_Change_j5 r_2 a_18_1 b_18_1 i_1 K_1 r_3 r_4 b_13) ?_ ?_
                · refine HW.region ?_
                  refine HO.val (v := .bool r_4) (want_none) rfl (q_move rfl) ?_
                  refine HO.val (v := .bool r_4) (want_none) rfl (q_move rfl) ?_
                  rcases Bool.eq_false_or_eq_true r_4 with c_6 | c_6
                  · replace hM := hM.1 c_6
                    refine HO.val (v := .bool r_3) (want_by rfl rfl c_6) rfl (q_move rfl) ?_
                    refine HO.val (v := .bool (!r_3)) (want_by rfl rfl c_6) rfl (q_not rfl) ?_
                    refine HO.val (v := .bool (!r_3)) (want_none) rfl (q_pickK true rfl c_6 rfl) ?_
                    refine HO.nil (thenQ_normal (?_))
                    exact ⟨F_7, !r_3, rfl, rfl, rfl, rfl, rfl, rfl, rfl, rfl, rfl, rfl, rfl, hK, hS, hL_old_Sources, hL_next_Sources, hN_2, hL_1, hM⟩
                  · replace hM := hM.2 c_6
                    refine HO.past (past_by rfl rfl c_6) rfl ?_
                    refine HO.past (past_by rfl rfl c_6) rfl ?_
                    refine HO.val (v := .bool false) (want_none) rfl (q_pickK false rfl c_6 rfl) ?_
                    refine HO.nil (thenQ_normal (?_))
                    exact ⟨F_7, false, rfl, rfl, rfl, rfl, rfl, rfl, rfl, rfl, rfl, rfl, rfl, hK, hS, hL_old_Sources, hL_next_Sources, hN_2, hL_1, hM⟩
                · rintro f_5 h_20 ⟨F_8, b_13, e4, e5, e6, e7, e8, e9, e10, e11, e12, e13, e74, hK, hS, hL_old_Sources, hL_next_Sources, hN_2, hL_1, hM⟩
                  unfold ref19_Change_j5 at hM
                  refine HW.fr [(4, .pointer (some ⟨b_2, 0, none⟩)), (5, .pointer (some ⟨b_3, 0, none⟩)), (6, .slice none 0 0), (7, .slice (some ⟨b_4, 0, none⟩) 0 0), (8, vr_2), (9, .pointer (some ⟨b_9, 0, none⟩)), (10, .pointer (some ⟨b_10, 0, none⟩)), (11, .int .i64 i_1), (12, .bool r_3), (13, .bool r_4), (74, .bool b_13)] ⟨e4, e5, e6, e7, e8, e9, e10, e11, e12, e13, e74, trivial⟩ ?_
                  refine HW.cond b_13 rfl (fun c_7 => ?_) (fun c_7 => ?_)
                  · replace hM := hM.1 c_7
                    refine HW.regionA 10 mixed (fun h => (SliceIs h 17 e_api_Addr vr_2 r_2)) [(9, fun h => (Blk h b_9 (.cells (c_api_Record (.int .i64 5) g va_18_1).toArray 40 (0, 0))))] (by kernel_rfl) ?_
                    refine HA.val (k := 0) (v := .pointer (some ⟨b_9, 18, none⟩)) rfl rfl (by kernel_rfl) (by kernel_rfl) (want_none) rfl (fun _ hL_1 => q_fieldAddr fa_40_2 rfl rfl) ?_
                    refine Go.Wk.HA.valN (k := 1) (v := va_18_1) 0 9 (fun h => (Blk h b_9 (.cells (c_api_Record (.int .i64 5) g va_18_1).toArray 40 (0, 0)))) rfl rfl (by kernel_rfl) (by kernel_rfl) (want_none) rfl rfl (by kernel_rfl) (fun _ hL_1 c478 => q_load to_22 rfl (Blk.cell c478 rfl)) ?_
                    refine HA.val (k := 2) (v := vr_2) rfl rfl (by kernel_rfl) (by kernel_rfl) (want_none) rfl (fun _ hL_1 => q_move rfl) ?_
                    refine HA.val (k := 3) (v := .int .i64 i_1) rfl rfl (by kernel_rfl) (by kernel_rfl) (want_none) rfl (fun _ hL_1 => q_move rfl) ?_
                    refine HA.val (k := 4) (v := elemPtr 17 vr_2 (i_1).toNat) rfl rfl (by kernel_rfl) (by kernel_rfl) (want_none) rfl (fun _ hL_1 => q_idx ts_22 hL_1 rfl rfl ho_3) ?_
                    refine HA.val (k := 5) (v := .agg (e_api_Addr (gi r_2 i_1)).toArray) rfl rfl (by kernel_rfl) (by kernel_rfl) (want_none) rfl (fun _ hL_1 => q_ldElemAgg (cs := (e_api_Addr (gi r_2 i_1))) ta_27 hL_1 rfl ho_3 rfl) ?_
                    refine HA.one (k := 6) ⟨hL_1.is, (at_now (hS.box 3 rfl) (Go.Wk.at_nil _ _))⟩ (by kernel_rfl) ?_
                    refine HS.eff rfl (want_none) rfl (st_lit (enc := e_api_Addr) (cells := #[.bool ((gi r_2 i_1).1), .int .u8 (b8 ((gi r_2 i_1).2) 0), .int .u8 (b8 ((gi r_2 i_1).2) 1), .int .u8 (b8 ((gi r_2 i_1).2) 2), .int .u8 (b8 ((gi r_2 i_1).2) 3), .int .u8 (b8 ((gi r_2 i_1).2) 4), .int .u8 (b8 ((gi r_2 i_1).2) 5), .int .u8 (b8 ((gi r_2 i_1).2) 6), .int .u8 (b8 ((gi r_2 i_1).2) 7), .int .u8 (b8 ((gi r_2 i_1).2) 8), .int .u8 (b8 ((gi r_2 i_1).2) 9), .int .u8 (b8 ((gi r_2 i_1).2) 10), .int .u8 (b8 ((gi r_2 i_1).2) 11), .int .u8 (b8 ((gi r_2 i_1).2) 12), .int .u8 (b8 ((gi r_2 i_1).2) 13), .int .u8 (b8 ((gi r_2 i_1).2) 14), .int .u8 (b8 ((gi r_2 i_1).2) 15)]) #[.bool false, .int .u8 0, .int .u8 0, .int .u8 0, .int .u8 0, .int .u8 0, .int .u8 0, .int .u8 0, .int .u8 0, .int .u8 0, .int .u8 0, .int .u8 0, .int .u8 0, .int .u8 0, .int .u8 0, .int .u8 0, .int .u8 0] ([(gi r_2 i_1)] : List T_api_Addr) hS tl_22 (by decide) (by decide) (by kernel_rfl) (by kernel_rfl) rfl (by intro x hx; rfl) rfl) ?_
                    rintro _ h_21 ⟨b_14, rfl, hS, hk⟩
                    replace hK := hK.trans hk
                    replace hL_old_Sources := hL_old_Sources.kp hk
                    replace hL_next_Sources := hL_next_Sources.kp hk
                    replace hN_2 := hN_2.kp hk
                    replace hL_1 := hL_1.kp hk
                    refine HA.one (k := 7) ⟨hL_1.is, (at_now (hS.box 4 rfl) (Go.Wk.at_nil _ _))⟩ (by kernel_rfl) ?_
                    obtain ⟨ho_4, hM⟩ := hM
                    refine HS.eff rfl (want_none) rfl (st_append te_22 hS (i := 5) rfl (hS.own 0 rfl).slice rfl rfl rfl (by intro a _ u hu; simp [e_api_Addr, encI, encN, encB, encT] at hu; rcases hu with rfl | rfl | rfl | rfl | rfl | rfl | rfl | rfl | rfl | rfl | rfl | rfl | rfl | rfl | rfl | rfl | rfl <;> rfl) ho_4 (by omega)) ?_
                    rintro v_3 h_22 ⟨hS, hk⟩
                    replace hS : St F_8 (Ow.own 27 17 e_api_Addr (.slice (some ⟨b_14, 0, none⟩) 1 1) ([(gi r_2 i_1)] : List T_api_Addr) :: Ow.box b_2 24 #[.bool old_Exclude, vold_Sources] :: Ow.box b_3 24 #[.bool next_Exclude, vnext_Sources] :: Ow.own 40 19 e_api_Record (.slice (some ⟨b_4, 0, none⟩) 0 0) ([] : List T_api_Record) :: Ow.box b_9 40 (c_api_Record (.int .i64 5) g va_18_1).toArray :: Ow.own 27 17 e_api_Addr v_3 (a_18_1 ++ ([(gi r_2 i_1)] : List T_api_Addr)) :: Ow.box b_10 40 (c_api_Record (.int .i64 6) g vb_18_1).toArray :: Ow.own 27 17 e_api_Addr vb_18_1 b_18_1 :: fr) h_22 := hS
                    replace hK := hK.trans hk
                    replace hL_old_Sources := hL_old_Sources.kp hk
                    replace hL_next_Sources := hL_next_Sources.kp hk
                    replace hN_2 := hN_2.kp hk
                    replace hL_1 := hL_1.kp hk
                    refine HA.val (k := 8) (v := .pointer (some ⟨b_9, 18, none⟩)) rfl rfl (by kernel_rfl) (by kernel_rfl) (want_none) rfl (fun _ hL_1 => q_fieldAddr fa_40_2 rfl rfl) ?_
                    refine HA.one (k := 9) ⟨hL_1.is, (at_now (hS.box 4 rfl) (Go.Wk.at_nil _ _))⟩ (by kernel_rfl) ?_
                    refine HS.sto rfl (want_none) rfl (st_store (c' := (c_api_Record (.int .i64 5) g v_3).toArray) hS (i := 4) rfl to_22 rfl rfl (shp (hS.own 5 rfl).slice).cells (shp (hS.own 5 rfl).slice).one (Nat.le_of_ble_eq_true rfl) rfl) ?_
                    rintro h_23 ⟨hS, hk⟩
                    replace hS : St F_8 (Ow.own 27 17 e_api_Addr (.slice (some ⟨b_14, 0, none⟩) 1 1) ([(gi r_2 i_1)] : List T_api_Addr) :: Ow.box b_2 24 #[.bool old_Exclude, vold_Sources] :: Ow.box b_3 24 #[.bool next_Exclude, vnext_Sources] :: Ow.own 40 19 e_api_Record (.slice (some ⟨b_4, 0, none⟩) 0 0) ([] : List T_api_Record) :: Ow.box b_9 40 (c_api_Record (.int .i64 5) g v_3).toArray :: Ow.own 27 17 e_api_Addr v_3 (a_18_1 ++ ([(gi r_2 i_1)] : List T_api_Addr)) :: Ow.box b_10 40 (c_api_Record (.int .i64 6) g vb_18_1).toArray :: Ow.own 27 17 e_api_Addr vb_18_1 b_18_1 :: fr) h_23 := hS
                    replace hK := hK.trans hk
                    replace hL_old_Sources := hL_old_Sources.kp hk
                    replace hL_next_Sources := hL_next_Sources.kp hk
                    replace hN_2 := hN_2.kp hk
                    replace hL_1 := hL_1.kp hk
                    refine HA.nil ⟨hL_1.is, (at_done (by kernel_rfl) (Go.Wk.at_nil _ _))⟩ (by kernel_rfl) (thenQ_normal (?_))
                    replace hS : St F_8 (Ow.box b_2 24 #[.bool old_Exclude, vold_Sources] :: Ow.box b_3 24 #[.bool next_Exclude, vnext_Sources] :: Ow.own 40 19 e_api_Record (.slice (some ⟨b_4, 0, none⟩) 0 0) ([] : List T_api_Record) :: Ow.box b_9 40 (c_api_Record (.int .i64 5) g v_3).toArray :: Ow.own 27 17 e_api_Addr v_3 (a_18_1 ++ ([(gi r_2 i_1)] : List T_api_Addr)) :: Ow.box b_10 40 (c_api_Record (.int .i64 6) g vb_18_1).toArray :: Ow.own 27 17 e_api_Addr vb_18_1 b_18_1 :: fr) h_23 := hS.perm2 [1, 2, 3, 4, 5, 6, 7] 8 rfl rfl
                    exact ⟨F_8, a_18_1 ++ ([(gi r_2 i_1)] : List T_api_Addr), v_3, rfl, rfl, rfl, rfl, rfl, rfl, rfl, rfl, rfl, rfl, hK, hS, hL_old_Sources, hL_next_Sources, hN_2, hL_1, hM⟩
                  · replace hM := hM.2 c_7
                    refine HW.skip (thenQ_normal (?_))
                    exact ⟨F_8, a_18_1, va_18_1, rfl, rfl, rfl, rfl, rfl, rfl, rfl, rfl, rfl, rfl, hK, hS, hL_old_Sources, hL_next_Sources, hN_2, hL_1, hM⟩
              · rintro f_6 h_24 ⟨F_9, a_18_2, va_18_2, e4, e5, e6, e7, e8, e9, e10, e11, e12, e13, hK, hS, hL_old_Sources, hL_next_Sources, hN_2, hL_1, hM⟩
                unfold ref19_Change_j4 at hM
                refine HW.fr [(4, .pointer (some ⟨b_2, 0, none⟩)), (5, .pointer (some ⟨b_3, 0, none⟩)), (6, .slice none 0 0), (7, .slice (some ⟨b_4, 0, none⟩) 0 0), (8, vr_2), (9, .pointer (some ⟨b_9, 0, none⟩)), (10, .pointer (some ⟨b_10, 0, none⟩)), (11, .int .i64 i_1), (12, .bool r_3), (13, .bool r_4)] ⟨e4, e5, e6, e7, e8, e9, e10, e11, e12, e13, trivial⟩ ?_
                refine HW.seq_mid (fun f h => ∃ (F' : Fz) (b_15 : Bool), f 4 = .pointer (some ⟨b_2, 0, none⟩) ∧ f 5 = .pointer (some ⟨b_3, 0, none⟩) ∧ f 6 = .slice none 0 0 ∧ f 7 = .slice (some ⟨b_4, 0, none⟩) 0 0 ∧ f 8 = vr_2 ∧ f 9 = .pointer (some ⟨b_9, 0, none⟩) ∧ f 10 = .pointer (some ⟨b_10, 0, none⟩) ∧ f 11 = .int .i64 i_1 ∧ f 88 = .bool b_15 ∧ Kp F h0 F' h ∧ St F' (Ow.box b_2 24 #[.bool old_Exclude, vold_Sources] :: Ow.box b_3 24 #[.bool next_Exclude, vnext_Sources] :: Ow.own 40 19 e_api_Record (.slice (some ⟨b_4, 0, none⟩) 0 0) ([] : List T_api_Record) :: Ow.box b_9 40 (c_api_Record (.int .i64 5) g va_18_2).toArray :: Ow.own 27 17 e_api_Addr va_18_2 a_18_2 :: Ow.box b_10 40 (c_api_Record (.int .i64 6) g vb_18_1).toArray :: Ow.own 27 17 e_api_Addr vb_18_1 b_18_1 :: fr) h ∧ (SliceF F' h 17 e_api_Addr vold_Sources old_Sources) ∧ (SliceF F' h 17 e_api_Addr vnext_Sources next_Sources) ∧ (NfL nf_api_Record F' h ([] : List T_api_Record)) ∧ (SliceF F' h 17 e_api_Addr vr_2 r_2) ∧ ref19_Change_j6 r_2 b_18_1 i_1 K_1 a_18_2 b_15) ?_ ?_
                · refine HW.region ?_
                  refine HO.val (v := .bool r_3) (want_none) rfl (q_move rfl) ?_
                  refine HO.val (v := .bool r_3) (want_none) rfl (q_move rfl) ?_
                  rcases Bool.eq_false_or_eq_true r_3 with c_8 | c_8
                  · replace hM := hM.1 c_8
                    refine HO.val (v := .bool r_4) (want_by rfl rfl c_8) rfl (q_move rfl) ?_
                    refine HO.val (v := .bool (!r_4)) (want_by rfl rfl c_8) rfl (q_not rfl) ?_
                    refine HO.val (v := .bool (!r_4)) (want_none) rfl (q_pickK true rfl c_8 rfl) ?_
                    refine HO.nil (thenQ_normal (?_))
                    exact ⟨F_9, !r_4, rfl, rfl, rfl, rfl, rfl, rfl, rfl, rfl, rfl, hK, hS, hL_old_Sources, hL_next_Sources, hN_2, hL_1, hM⟩
                  · replace hM := hM.2 c_8
                    refine HO.past (past_by rfl rfl c_8) rfl ?_
                    refine HO.past (past_by rfl rfl c_8) rfl ?_
                    refine HO.val (v := .bool false) (want_none) rfl (q_pickK false rfl c_8 rfl) ?_
                    refine HO.nil (thenQ_normal (?_))
                    exact ⟨F_9, false, rfl, rfl, rfl, rfl, rfl, rfl, rfl, rfl, rfl, hK, hS, hL_old_Sources, hL_next_Sources, hN_2, hL_1, hM⟩
                · rintro f_7 h_25 ⟨F_10, b_15, e4, e5, e6, e7, e8, e9, e10, e11, e88, hK, hS, hL_old_Sources, hL_next_Sources, hN_2, hL_1, hM⟩
                  unfold ref19_Change_j6 at hM
                  refine HW.fr [(4, .pointer (some ⟨b_2, 0, none⟩)), (5, .pointer (some ⟨b_3, 0, none⟩)), (6, .slice none 0 0), (7, .slice (some ⟨b_4, 0, none⟩) 0 0), (8, vr_2), (9, .pointer (some ⟨b_9, 0, none⟩)), (10, .pointer (some ⟨b_10, 0, none⟩)), (11, .int .i64 i_1), (88, .bool b_15)] ⟨e4, e5, e6, e7, e8, e9, e10, e11, e88, trivial⟩ ?_
                  refine HW.cond b_15 rfl (fun c_9 => ?_) (fun c_9 => ?_)
                  · replace hM := hM.1 c_9
                    refine HW.regionA 10 mixed (fun h => (SliceIs h 17 e_api_Addr vr_2 r_2)) [(9, fun h => (Blk h b_10 (.cells (c_api_Record (.int .i64 6) g vb_18_1).toArray 40 (0, 0))))] (by kernel_rfl) ?_
                    refine HA.val (k := 0) (v := .pointer (some ⟨b_10, 18, none⟩)) rfl rfl (by kernel_rfl) (by kernel_rfl) (want_none) rfl (fun _ hL_1 => q_fieldAddr fa_40_2 rfl rfl) ?_
                    refine Go.Wk.HA.valN (k := 1) (v := vb_18_1) 0 9 (fun h => (Blk h b_10 (.cells (c_api_Record (.int .i64 6) g vb_18_1).toArray 40 (0, 0)))) rfl rfl (by kernel_rfl) (by kernel_rfl) (want_none) rfl rfl (by kernel_rfl) (fun _ hL_1 c480 => q_load to_22 rfl (Blk.cell c480 rfl)) ?_
                    refine HA.val (k := 2) (v := vr_2) rfl rfl (by kernel_rfl) (by kernel_rfl) (want_none) rfl (fun _ hL_1 => q_move rfl) ?_
                    refine HA.val (k := 3) (v := .int .i64 i_1) rfl rfl (by kernel_rfl) (by kernel_rfl) (want_none) rfl (fun _ hL_1 => q_move rfl) ?_
                    refine HA.val (k := 4) (v := elemPtr 17 vr_2 (i_1).toNat) rfl rfl (by kernel_rfl) (by kernel_rfl) (want_none) rfl (fun _ hL_1 => q_idx ts_22 hL_1 rfl rfl ho_3) ?_
                    refine HA.val (k := 5) (v := .agg (e_api_Addr (gi r_2 i_1)).toArray) rfl rfl (by kernel_rfl) (by kernel_rfl) (want_none) rfl (fun _ hL_1 => q_ldElemAgg (cs := (e_api_Addr (gi r_2 i_1))) ta_27 hL_1 rfl ho_3 rfl) ?_
                    refine HA.one (k := 6) ⟨hL_1.is, (at_now (hS.box 5 rfl) (Go.Wk.at_nil _ _))⟩ (by kernel_rfl) ?_
                    refine HS.eff rfl (want_none) rfl (st_lit (enc := e_api_Addr) (cells := #[.bool ((gi r_2 i_1).1), .int .u8 (b8 ((gi r_2 i_1).2) 0), .int .u8 (b8 ((gi r_2 i_1).2) 1), .int .u8 (b8 ((gi r_2 i_1).2) 2), .int .u8 (b8 ((gi r_2 i_1).2) 3), .int .u8 (b8 ((gi r_2 i_1).2) 4), .int .u8 (b8 ((gi r_2 i_1).2) 5), .int .u8 (b8 ((gi r_2 i_1).2) 6), .int .u8 (b8 ((gi r_2 i_1).2) 7), .int .u8 (b8 ((gi r_2 i_1).2) 8), .int .u8 (b8 ((gi r_2 i_1).2) 9), .int .u8 (b8 ((gi r_2 i_1).2) 10), .int .u8 (b8 ((gi r_2 i_1).2) 11), .int .u8 (b8 ((gi r_2 i_1).2) 12), .int .u8 (b8 ((gi r_2 i_1).2) 13), .int .u8 (b8 ((gi r_2 i_1).2) 14), .int .u8 (b8 ((gi r_2 i_1).2) 15)]) #[.bool false, .int .u8 0, .int .u8 0, .int .u8 0, .int .u8 0, .int .u8 0, .int .u8 0, .int .u8 0, .int .u8 0, .int .u8 0, .int .u8 0, .int .u8 0, .int .u8 0, .int .u8 0, .int .u8 0, .int .u8 0, .int .u8 0] ([(gi r_2 i_1)] : List T_api_Addr) hS tl_22 (by decide) (by decide) (by kernel_rfl) (by kernel_rfl) rfl (by intro x hx; rfl) rfl) ?_
                    rintro _ h_26 ⟨b_16, rfl, hS, hk⟩
                    replace hK := hK.trans hk
                    replace hL_old_Sources := hL_old_Sources.kp hk
                    replace hL_next_Sources := hL_next_Sources.kp hk
                    replace hN_2 := hN_2.kp hk
                    replace hL_1 := hL_1.kp hk
                    refine HA.one (k := 7) ⟨hL_1.is, (at_now (hS.box 6 rfl) (Go.Wk.at_nil _ _))⟩ (by kernel_rfl) ?_
                    obtain ⟨ho_5, hM⟩ := hM
                    refine HS.eff rfl (want_none) rfl (st_append te_22 hS (i := 7) rfl (hS.own 0 rfl).slice rfl rfl rfl (by intro a _ u hu; simp [e_api_Addr, encI, encN, encB, encT] at hu; rcases hu with rfl | rfl | rfl | rfl | rfl | rfl | rfl | rfl | rfl | rfl | rfl | rfl | rfl | rfl | rfl | rfl | rfl <;> rfl) ho_5 (by omega)) ?_
                    rintro v_4 h_27 ⟨hS, hk⟩
                    replace hS : St F_10 (Ow.own 27 17 e_api_Addr (.slice (some ⟨b_16, 0, none⟩) 1 1) ([(gi r_2 i_1)] : List T_api_Addr) :: Ow.box b_2 24 #[.bool old_Exclude, vold_Sources] :: Ow.box b_3 24 #[.bool next_Exclude, vnext_Sources] :: Ow.own 40 19 e_api_Record (.slice (some ⟨b_4, 0, none⟩) 0 0) ([] : List T_api_Record) :: Ow.box b_9 40 (c_api_Record (.int .i64 5) g va_18_2).toArray :: Ow.own 27 17 e_api_Addr va_18_2 a_18_2 :: Ow.box b_10 40 (c_api_Record (.int .i64 6) g vb_18_1).toArray :: Ow.own 27 17 e_api_Addr v_4 (b_18_1 ++ ([(gi r_2 i_1)] : List T_api_Addr)) :: fr) h_27 := hS
                    replace hK := hK.trans hk
                    replace hL_old_Sources := hL_old_Sources.kp hk
                    replace hL_next_Sources := hL_next_Sources.kp hk
                    replace hN_2 := hN_2.kp hk
                    replace hL_1 := hL_1.kp hk
                    refine HA.val (k := 8) (v := .pointer (some ⟨b_10, 18, none⟩)) rfl rfl (by kernel_rfl) (by kernel_rfl) (want_none) rfl (fun _ hL_1 => q_fieldAddr fa_40_2 rfl rfl) ?_
                    refine HA.one (k := 9) ⟨hL_1.is, (at_now (hS.box 6 rfl) (Go.Wk.at_nil _ _))⟩ (by kernel_rfl) ?_
                    refine HS.sto rfl (want_none) rfl (st_store (c' := (c_api_Record (.int .i64 6) g v_4).toArray) hS (i := 6) rfl to_22 rfl rfl (shp (hS.own 7 rfl).slice).cells (shp (hS.own 7 rfl).slice).one (Nat.le_of_ble_eq_true rfl) rfl) ?_
                    rintro h_28 ⟨hS, hk⟩
                    replace hS : St F_10 (Ow.own 27 17 e_api_Addr (.slice (some ⟨b_16, 0, none⟩) 1 1) ([(gi r_2 i_1)] : List T_api_Addr) :: Ow.box b_2 24 #[.bool old_Exclude, vold_Sources] :: Ow.box b_3 24 #[.bool next_Exclude, vnext_Sources] :: Ow.own 40 19 e_api_Record (.slice (some ⟨b_4, 0, none⟩) 0 0) ([] : List T_api_Record) :: Ow.box b_9 40 (c_api_Record (.int .i64 5) g va_18_2).toArray :: Ow.own 27 17 e_api_Addr va_18_2 a_18_2 :: Ow.box b_10 40 (c_api_Record (.int .i64 6) g v_4).toArray :: Ow.own 27 17 e_api_Addr v_4 (b_18_1 ++ ([(gi r_2 i_1)] : List T_api_Addr)) :: fr) h_28 := hS
                    replace hK := hK.trans hk
                    replace hL_old_Sources := hL_old_Sources.kp hk
                    replace hL_next_Sources := hL_next_Sources.kp hk
                    replace hN_2 := hN_2.kp hk
                    replace hL_1 := hL_1.kp hk
                    refine HA.nil ⟨hL_1.is, (at_done (by kernel_rfl) (Go.Wk.at_nil _ _))⟩ (by kernel_rfl) (blockQ_normal (thenQ_normal (?_)))
                    refine HW.region ?_
                    refine HO.val (v := .int .i64 i_1) (want_none) rfl (q_move rfl) ?_
                    obtain ⟨ho_6, hM⟩ := hM
                    refine HO.val (v := .int .i64 (i_1 + 1)) (want_none) rfl (q_addN _ rfl rfl rfl ho_6.1 ho_6.2) ?_
                    refine HO.val (v := .int .i64 (i_1 + 1)) (want_none) rfl (q_assign rfl) ?_
                    refine HO.nil (thenQ_normal (?_))
                    replace hS : St F_10 (Ow.box b_2 24 #[.bool old_Exclude, vold_Sources] :: Ow.box b_3 24 #[.bool next_Exclude, vnext_Sources] :: Ow.own 40 19 e_api_Record (.slice (some ⟨b_4, 0, none⟩) 0 0) ([] : List T_api_Record) :: Ow.box b_9 40 (c_api_Record (.int .i64 5) g va_18_2).toArray :: Ow.own 27 17 e_api_Addr va_18_2 a_18_2 :: Ow.box b_10 40 (c_api_Record (.int .i64 6) g v_4).toArray :: Ow.own 27 17 e_api_Addr v_4 (b_18_1 ++ ([(gi r_2 i_1)] : List T_api_Addr)) :: fr) h_28 := hS.perm2 [1, 2, 3, 4, 5, 6, 7] 8 rfl rfl
                    rw [hKe_1] at hM
                    exact ⟨(a_18_2, b_18_1 ++ ([(gi r_2 i_1)] : List T_api_Addr), i_1 + 1), ⟨F_10, va_18_2, v_4, rfl, rfl, rfl, rfl, rfl, rfl, rfl, rfl, hK, hS, hL_old_Sources, hL_next_Sources, hN_2, hL_1, hM.1⟩, hM.2⟩
                  · replace hM := hM.2 c_9
                    refine HW.skip (blockQ_normal (thenQ_normal (?_)))
                    refine HW.region ?_
                    refine HO.val (v := .int .i64 i_1) (want_none) rfl (q_move rfl) ?_
                    obtain ⟨ho_7, hM⟩ := hM
                    refine HO.val (v := .int .i64 (i_1 + 1)) (want_none) rfl (q_addN _ rfl rfl rfl ho_7.1 ho_7.2) ?_
                    refine HO.val (v := .int .i64 (i_1 + 1)) (want_none) rfl (q_assign rfl) ?_
                    refine HO.nil (thenQ_normal (?_))
                    rw [hKe_1] at hM
                    exact ⟨(a_18_2, b_18_1, i_1 + 1), ⟨F_10, va_18_2, vb_18_1, rfl, rfl, rfl, rfl, rfl, rfl, rfl, rfl, hK, hS, hL_old_Sources, hL_next_Sources, hN_2, hL_1, hM.1⟩, hM.2⟩
            · replace hM := hM.2 (of_decide_eq_false c_5)
              refine HW.exit (thenQ_exit (thenQ_exit (blockQ_exit (thenQ_normal (?_)))))
              refine HW.seq_mid (fun f h => ∃ (F' : Fz) (out_1 : List T_api_Record) (vout_1 : Value), f 6 = .slice none 0 0 ∧ f 7 = vout_1 ∧ f 10 = .pointer (some ⟨b_10, 0, none⟩) ∧ Kp F h0 F' h ∧ St F' (Ow.own 40 19 e_api_Record vout_1 out_1 :: Ow.box b_10 40 (c_api_Record (.int .i64 6) g vb_18_1).toArray :: Ow.own 27 17 e_api_Addr vb_18_1 b_18_1 :: fr) h ∧ (SliceF F' h 17 e_api_Addr vold_Sources old_Sources) ∧ (SliceF F' h 17 e_api_Addr vnext_Sources next_Sources) ∧ (NfL nf_api_Record F' h ([] : List T_api_Record)) ∧ (SliceF F' h 17 e_api_Addr vr_2 r_2) ∧ (NfL nf_api_Record F' h out_1) ∧ ref19_Change_j7 g Q b_18_1 out_1) ?_ ?_
              · refine HW.seq ?_
                refine HW.region ?_
                refine HO.val (v := .pointer (some ⟨b_9, 18, none⟩)) (want_none) rfl (q_fieldAddr fa_40_2 rfl rfl) ?_
                refine HO.val (v := va_18_1) (want_none) rfl (q_load to_22 rfl (Blk.cell (hS.box 3 rfl) rfl)) ?_
                refine HO.val (v := .int .i64 (a_18_1.length : Int)) (want_none) rfl (q_len ts_22 (shp (hS.own 4 rfl).slice) rfl rfl) ?_
                refine HO.val (v := .bool (decide (0 < (a_18_1.length : Int)))) (want_none) rfl (q_gtr rfl rfl) ?_
                refine HO.nil (thenQ_normal (?_))
                refine HW.cond (decide (0 < (a_18_1.length : Int))) rfl (fun c_10 => ?_) (fun c_10 => ?_)
                · replace hM := hM.1 (of_decide_eq_true c_10)
                  refine HW.region ?_
                  refine HO.val (v := .slice (some ⟨b_4, 0, none⟩) 0 0) (want_none) rfl (q_move rfl) ?_
                  refine HO.val (v := .agg (c_api_Record (.int .i64 5) g va_18_1).toArray) (want_none) rfl (q_loadAgg (cs := (c_api_Record (.int .i64 5) g va_18_1)) ta_40 rfl rfl (Blk.cells (k := 19) (hS.box 3 rfl) rfl)) ?_
                  replace hS : St F_5 (Ow.own 27 17 e_api_Addr va_18_1 a_18_1 :: Ow.box b_2 24 #[.bool old_Exclude, vold_Sources] :: Ow.box b_3 24 #[.bool next_Exclude, vnext_Sources] :: Ow.own 40 19 e_api_Record (.slice (some ⟨b_4, 0, none⟩) 0 0) ([] : List T_api_Record) :: Ow.box b_9 40 (c_api_Record (.int .i64 5) g va_18_1).toArray :: Ow.box b_10 40 (c_api_Record (.int .i64 6) g vb_18_1).toArray :: Ow.own 27 17 e_api_Addr vb_18_1 b_18_1 :: fr) h_17 := hS.perm2 [4, 0, 1, 2, 3, 5, 6] 7 rfl rfl
                  obtain ⟨F_11, hS, hk, hL_2⟩ := hS.freezeOwn
                  replace hK := hK.trans hk
                  replace hL_old_Sources := hL_old_Sources.kp hk
                  replace hL_next_Sources := hL_next_Sources.kp hk
                  replace hN_2 := hN_2.kp hk
                  replace hL_1 := hL_1.kp hk
                  replace hM := hM va_18_1
                  refine HO.eff (want_none) rfl (st_lit (enc := e_api_Record) (cells := #[.int .i64 5, .bool g.1, .int .u8 (b8 g.2 0), .int .u8 (b8 g.2 1), .int .u8 (b8 g.2 2), .int .u8 (b8 g.2 3), .int .u8 (b8 g.2 4), .int .u8 (b8 g.2 5), .int .u8 (b8 g.2 6), .int .u8 (b8 g.2 7), .int .u8 (b8 g.2 8), .int .u8 (b8 g.2 9), .int .u8 (b8 g.2 10), .int .u8 (b8 g.2 11), .int .u8 (b8 g.2 12), .int .u8 (b8 g.2 13), .int .u8 (b8 g.2 14), .int .u8 (b8 g.2 15), va_18_1]) #[.int .i64 0, .bool false, .int .u8 0, .int .u8 0, .int .u8 0, .int .u8 0, .int .u8 0, .int .u8 0, .int .u8 0, .int .u8 0, .int .u8 0, .int .u8 0, .int .u8 0, .int .u8 0, .int .u8 0, .int .u8 0, .int .u8 0, .int .u8 0, .slice none 0 0] ([(5, g, (va_18_1, a_18_1))] : List T_api_Record) hS tl_31 (by decide) (by decide) (by kernel_rfl) (by kernel_rfl) rfl (by intro x hx; rfl) rfl) ?_
                  rintro _ h_29 ⟨b_17, rfl, hS, hk⟩
                  replace hK := hK.trans hk
                  replace hL_old_Sources := hL_old_Sources.kp hk
                  replace hL_next_Sources := hL_next_Sources.kp hk
                  replace hN_2 := hN_2.kp hk
                  replace hL_1 := hL_1.kp hk
                  replace hL_2 := hL_2.kp hk
                  have hN_8 : NfL nf_api_Record F_11 h_29 ([(5, g, (va_18_1, a_18_1))] : List T_api_Record) := (NfL.cons (nfm_api_Record (5, g, (va_18_1, a_18_1)) hL_2) (NfL.nil _ _ _))
                  obtain ⟨ho_8, hM⟩ := hM
                  refine HO.eff (want_none) rfl (st_append te_31 hS (i := 3) rfl (hS.own 0 rfl).slice rfl rfl rfl (fun a_ ha_ => nfo_api_Record (hN_8.is.all a_ ha_)) ho_8 (by omega)) ?_
                  rintro v_5 h_30 ⟨hS, hk⟩
                  replace hS : St F_11 (Ow.own 40 19 e_api_Record (.slice (some ⟨b_17, 0, none⟩) 1 1) ([(5, g, (va_18_1, a_18_1))] : List T_api_Record) :: Ow.box b_2 24 #[.bool old_Exclude, vold_Sources] :: Ow.box b_3 24 #[.bool next_Exclude, vnext_Sources] :: Ow.own 40 19 e_api_Record v_5 (([] : List T_api_Record) ++ ([(5, g, (va_18_1, a_18_1))] : List T_api_Record)) :: Ow.box b_9 40 (c_api_Record (.int .i64 5) g va_18_1).toArray :: Ow.box b_10 40 (c_api_Record (.int .i64 6) g vb_18_1).toArray :: Ow.own 27 17 e_api_Addr vb_18_1 b_18_1 :: fr) h_30 := hS
                  replace hK := hK.trans hk
                  replace hL_old_Sources := hL_old_Sources.kp hk
                  replace hL_next_Sources := hL_next_Sources.kp hk
                  replace hN_2 := hN_2.kp hk
                  replace hL_1 := hL_1.kp hk
                  replace hL_2 := hL_2.kp hk
                  replace hN_8 := hN_8.kp hk
                  have hN_9 : NfL nf_api_Record F_11 h_30 (([] : List T_api_Record) ++ ([(5, g, (va_18_1, a_18_1))] : List T_api_Record)) := NfL.app hN_2 hN_8
                  refine HO.val (v := v_5) (want_none) rfl (q_assign rfl) ?_
                  refine HO.nil (thenQ_normal (?_))
                  replace hS : St F_11 (Ow.own 40 19 e_api_Record v_5 (([] : List T_api_Record) ++ ([(5, g, (va_18_1, a_18_1))] : List T_api_Record)) :: Ow.box b_10 40 (c_api_Record (.int .i64 6) g vb_18_1).toArray :: Ow.own 27 17 e_api_Addr vb_18_1 b_18_1 :: fr) h_30 := hS.perm2 [3, 5, 6] 7 rfl rfl
                  exact ⟨F_11, ([] : List T_api_Record) ++ ([(5, g, (va_18_1, a_18_1))] : List T_api_Record), v_5, rfl, rfl, rfl, hK, hS, hL_old_Sources, hL_next_Sources, hN_2, hL_1, hN_9, hM⟩
                · replace hM := hM.2 (of_decide_eq_false c_10)
                  refine HW.skip (thenQ_normal (?_))
                  replace hS : St F_5 (Ow.own 40 19 e_api_Record (.slice (some ⟨b_4, 0, none⟩) 0 0) ([] : List T_api_Record) :: Ow.box b_10 40 (c_api_Record (.int .i64 6) g vb_18_1).toArray :: Ow.own 27 17 e_api_Addr vb_18_1 b_18_1 :: fr) h_17 := hS.perm2 [2, 5, 6] 7 rfl rfl
                  exact ⟨F_5, [], .slice (some ⟨b_4, 0, none⟩) 0 0, rfl, rfl, rfl, hK, hS, hL_old_Sources, hL_next_Sources, hN_2, hL_1, hN_2, hM⟩
              · rintro f_8 h_31 ⟨F_12, out_1, vout_1, e6, e7, e10, hK, hS, hL_old_Sources, hL_next_Sources, hN_2, hL_1, hN_7, hM⟩
                unfold ref19_Change_j7 at hM
                refine HW.fr [(6, .slice none 0 0), (7, vout_1), (10, .pointer (some ⟨b_10, 0, none⟩))] ⟨e6, e7, e10, trivial⟩ ?_
                refine HW.seq ?_
                refine HW.seq ?_
                refine HW.region ?_
                refine HO.val (v := .pointer (some ⟨b_10, 18, none⟩)) (want_none) rfl (q_fieldAddr fa_40_2 rfl rfl) ?_
                refine HO.val (v := vb_18_1) (want_none) rfl (q_load to_22 rfl (Blk.cell (hS.box 1 rfl) rfl)) ?_
                refine HO.val (v := .int .i64 (b_18_1.length : Int)) (want_none) rfl (q_len ts_22 (shp (hS.own 2 rfl).slice) rfl rfl) ?_
                refine HO.val (v := .bool (decide (0 < (b_18_1.length : Int)))) (want_none) rfl (q_gtr rfl rfl) ?_
                refine HO.nil (thenQ_normal (?_))
                refine HW.cond (decide (0 < (b_18_1.length : Int))) rfl (fun c_11 => ?_) (fun c_11 => ?_)
                · replace hM := hM.1 (of_decide_eq_true c_11)
                  refine HW.region ?_
                  refine HO.val (v := vout_1) (want_none) rfl (q_move rfl) ?_
                  refine HO.val (v := .agg (c_api_Record (.int .i64 6) g vb_18_1).toArray) (want_none) rfl (q_loadAgg (cs := (c_api_Record (.int .i64 6) g vb_18_1)) ta_40 rfl rfl (Blk.cells (k := 19) (hS.box 1 rfl) rfl)) ?_
                  replace hS : St F_12 (Ow.own 27 17 e_api_Addr vb_18_1 b_18_1 :: Ow.own 40 19 e_api_Record vout_1 out_1 :: Ow.box b_10 40 (c_api_Record (.int .i64 6) g vb_18_1).toArray :: fr) h_31 := hS.perm2 [2, 0, 1] 3 rfl rfl
                  obtain ⟨F_13, hS, hk, hL_3⟩ := hS.freezeOwn
                  replace hK := hK.trans hk
                  replace hL_old_Sources := hL_old_Sources.kp hk
                  replace hL_next_Sources := hL_next_Sources.kp hk
                  replace hN_2 := hN_2.kp hk
                  replace hL_1 := hL_1.kp hk
                  replace hN_7 := hN_7.kp hk
                  replace hM := hM vb_18_1
                  refine HO.eff (want_none) rfl (st_lit (enc := e_api_Record) (cells := #[.int .i64 6, .bool g.1, .int .u8 (b8 g.2 0), .int .u8 (b8 g.2 1), .int .u8 (b8 g.2 2), .int .u8 (b8 g.2 3), .int .u8 (b8 g.2 4), .int .u8 (b8 g.2 5), .int .u8 (b8 g.2 6), .int .u8 (b8 g.2 7), .int .u8 (b8 g.2 8), .int .u8 (b8 g.2 9), .int .u8 (b8 g.2 10), .int .u8 (b8 g.2 11), .int .u8 (b8 g.2 12), .int .u8 (b8 g.2 13), .int .u8 (b8 g.2 14), .int .u8 (b8 g.2 15), vb_18_1]) #[.int .i64 0, .bool false, .int .u8 0, .int .u8 0, .int .u8 0, .int .u8 0, .int .u8 0, .int .u8 0, .int .u8 0, .int .u8 0, .int .u8 0, .int .u8 0, .int .u8 0, .int .u8 0, .int .u8 0, .int .u8 0, .int .u8 0, .int .u8 0, .slice none 0 0] ([(6, g, (vb_18_1, b_18_1))] : List T_api_Record) hS tl_31 (by decide) (by decide) (by kernel_rfl) (by kernel_rfl) rfl (by intro x hx; rfl) rfl) ?_
                  rintro _ h_32 ⟨b_18, rfl, hS, hk⟩
                  replace hK := hK.trans hk
                  replace hL_old_Sources := hL_old_Sources.kp hk
                  replace hL_next_Sources := hL_next_Sources.kp hk
                  replace hN_2 := hN_2.kp hk
                  replace hL_1 := hL_1.kp hk
                  replace hN_7 := hN_7.kp hk
                  replace hL_3 := hL_3.kp hk
                  have hN_10 : NfL nf_api_Record F_13 h_32 ([(6, g, (vb_18_1, b_18_1))] : List T_api_Record) := (NfL.cons (nfm_api_Record (6, g, (vb_18_1, b_18_1)) hL_3) (NfL.nil _ _ _))
                  obtain ⟨ho_9, hM⟩ := hM
                  refine HO.eff (want_none) rfl (st_append te_31 hS (i := 1) rfl (hS.own 0 rfl).slice rfl rfl rfl (fun a_ ha_ => nfo_api_Record (hN_10.is.all a_ ha_)) ho_9 (by omega)) ?_
                  rintro v_6 h_33 ⟨hS, hk⟩
                  replace hS : St F_13 (Ow.own 40 19 e_api_Record (.slice (some ⟨b_18, 0, none⟩) 1 1) ([(6, g, (vb_18_1, b_18_1))] : List T_api_Record) :: Ow.own 40 19 e_api_Record v_6 (out_1 ++ ([(6, g, (vb_18_1, b_18_1))] : List T_api_Record)) :: Ow.box b_10 40 (c_api_Record (.int .i64 6) g vb_18_1).toArray :: fr) h_33 := hS
                  replace hK := hK.trans hk
                  replace hL_old_Sources := hL_old_Sources.kp hk
                  replace hL_next_Sources := hL_next_Sources.kp hk
                  replace hN_2 := hN_2.kp hk
                  replace hL_1 := hL_1.kp hk
                  replace hN_7 := hN_7.kp hk
                  replace hL_3 := hL_3.kp hk
                  replace hN_10 := hN_10.kp hk
                  have hN_11 : NfL nf_api_Record F_13 h_33 (out_1 ++ ([(6, g, (vb_18_1, b_18_1))] : List T_api_Record)) := NfL.app hN_7 hN_10
                  refine HO.val (v := v_6) (want_none) rfl (q_assign rfl) ?_
                  refine HO.nil (thenQ_normal (?_))
                  refine HW.seq ?_
                  refine HW.region ?_
                  refine HO.val (v := v_6) (want_none) rfl (q_move rfl) ?_
                  refine HO.val (v := v_6) (want_none) rfl (q_assign rfl) ?_
                  refine HO.nil (thenQ_normal (?_))
                  refine HW.ret (?_)
                  refine ⟨.inr rfl, v_6, res1 rfl (rt rfl), ?_⟩
                  replace hS : St F_13 (Ow.own 40 19 e_api_Record v_6 (out_1 ++ ([(6, g, (vb_18_1, b_18_1))] : List T_api_Record)) :: fr) h_33 := hS.perm2 [1] 3 rfl rfl
                  exact ⟨F_13, out_1 ++ ([(6, g, (vb_18_1, b_18_1))] : List T_api_Record), v_6, rfl, hK, hS, hL_old_Sources, hL_next_Sources, hN_11, hM⟩
                · replace hM := hM.2 (of_decide_eq_false c_11)
                  refine HW.skip (thenQ_normal (?_))
                  refine HW.seq ?_
                  refine HW.region ?_
                  refine HO.val (v := vout_1) (want_none) rfl (q_move rfl) ?_
                  refine HO.val (v := vout_1) (want_none) rfl (q_assign rfl) ?_
                  refine HO.nil (thenQ_normal (?_))
                  refine HW.ret (?_)
                  refine ⟨.inr rfl, vout_1, res1 rfl (rt rfl), ?_⟩
                  replace hS : St F_12 (Ow.own 40 19 e_api_Record vout_1 out_1 :: fr) h_31 := hS.perm2 [0] 3 rfl rfl
                  exact ⟨F_12, out_1, vout_1, rfl, hK, hS, hL_old_Sources, hL_next_Sources, hN_7, hM⟩
end Go.Wk
