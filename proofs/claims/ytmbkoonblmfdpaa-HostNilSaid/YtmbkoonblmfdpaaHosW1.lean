/- Walks of Host and Proxy. -/
import Derived.Test.YtmbkoonblmfdpaaTxt
import Derived.Test.YtmbkoonblmfdpaaNest
import Derived.Test.YtmbkoonblmfdpaaTight
import Derived.Test.YtmbkoonblmfdpaaKy
import Derived.Test.YtmbkoonblmfdpaaNm
import Derived.Test.YtmbkoonblmfdpaaLayH
import Derived.Test.YtmbkoonblmfdpaaProg
set_option linter.unusedSimpArgs false
set_option linter.unusedVariables false
set_option linter.unusedSectionVars false
set_option maxHeartbeats 40000000
set_option maxRecDepth 100000
namespace Go.Wk
open Go.HL
open Go.Proofs hiding encI
variable [DM]
abbrev T_api_Addr := Bool × Ba 16
abbrev T_api_Filter := Bool × (Value × List T_api_Addr)
abbrev T_api_Record := Int × T_api_Addr × (Value × List T_api_Addr)
abbrev T_api_Talk := Bool × Int × Int × Int × T_api_Addr × Bool × Int × Int × (Value × List T_api_Addr) × (Value × List T_api_Record)
abbrev T_api_Tune := Int × Int × Int × Int × Int
def e_api_Addr (x : T_api_Addr) : List Value := [.bool x.1, .int .u8 (b8 x.2 0), .int .u8 (b8 x.2 1), .int .u8 (b8 x.2 2), .int .u8 (b8 x.2 3), .int .u8 (b8 x.2 4), .int .u8 (b8 x.2 5), .int .u8 (b8 x.2 6), .int .u8 (b8 x.2 7), .int .u8 (b8 x.2 8), .int .u8 (b8 x.2 9), .int .u8 (b8 x.2 10), .int .u8 (b8 x.2 11), .int .u8 (b8 x.2 12), .int .u8 (b8 x.2 13), .int .u8 (b8 x.2 14), .int .u8 (b8 x.2 15)]
def nf_api_Filter : Nf T_api_Filter := ((Nf.sl 17 e_api_Addr).on fun x : T_api_Filter => x.2)
def z_api_Filter : T_api_Filter := (false, (.slice none 0 0, []))
def e_api_Record (x : T_api_Record) : List Value := [.int .i64 x.1, .bool x.2.1.1, .int .u8 (b8 x.2.1.2 0), .int .u8 (b8 x.2.1.2 1), .int .u8 (b8 x.2.1.2 2), .int .u8 (b8 x.2.1.2 3), .int .u8 (b8 x.2.1.2 4), .int .u8 (b8 x.2.1.2 5), .int .u8 (b8 x.2.1.2 6), .int .u8 (b8 x.2.1.2 7), .int .u8 (b8 x.2.1.2 8), .int .u8 (b8 x.2.1.2 9), .int .u8 (b8 x.2.1.2 10), .int .u8 (b8 x.2.1.2 11), .int .u8 (b8 x.2.1.2 12), .int .u8 (b8 x.2.1.2 13), .int .u8 (b8 x.2.1.2 14), .int .u8 (b8 x.2.1.2 15), x.2.2.1]
def nf_api_Record : Nf T_api_Record := ((Nf.sl 17 e_api_Addr).on fun x : T_api_Record => x.2.2)
def c_api_Record (a0 : Value) (a1 : T_api_Addr) (a2 : Value) : List Value := [a0, .bool a1.1, .int .u8 (b8 a1.2 0), .int .u8 (b8 a1.2 1), .int .u8 (b8 a1.2 2), .int .u8 (b8 a1.2 3), .int .u8 (b8 a1.2 4), .int .u8 (b8 a1.2 5), .int .u8 (b8 a1.2 6), .int .u8 (b8 a1.2 7), .int .u8 (b8 a1.2 8), .int .u8 (b8 a1.2 9), .int .u8 (b8 a1.2 10), .int .u8 (b8 a1.2 11), .int .u8 (b8 a1.2 12), .int .u8 (b8 a1.2 13), .int .u8 (b8 a1.2 14), .int .u8 (b8 a1.2 15), a2]
def c_api_Talk (a0 : Value) (a1 : Value) (a2 : Value) (a3 : Value) (a4 : T_api_Addr) (a5 : Value) (a6 : Value) (a7 : Value) (a8 : Value) (a9 : Value) : List Value := [a0, a1, a2, a3, .bool a4.1, .int .u8 (b8 a4.2 0), .int .u8 (b8 a4.2 1), .int .u8 (b8 a4.2 2), .int .u8 (b8 a4.2 3), .int .u8 (b8 a4.2 4), .int .u8 (b8 a4.2 5), .int .u8 (b8 a4.2 6), .int .u8 (b8 a4.2 7), .int .u8 (b8 a4.2 8), .int .u8 (b8 a4.2 9), .int .u8 (b8 a4.2 10), .int .u8 (b8 a4.2 11), .int .u8 (b8 a4.2 12), .int .u8 (b8 a4.2 13), .int .u8 (b8 a4.2 14), .int .u8 (b8 a4.2 15), a5, a6, a7, a8, a9]
def e_api_Talk (x : T_api_Talk) : List Value := [.bool x.1, .int .i64 x.2.1, .int .i64 x.2.2.1, .int .i64 x.2.2.2.1, .bool x.2.2.2.2.1.1, .int .u8 (b8 x.2.2.2.2.1.2 0), .int .u8 (b8 x.2.2.2.2.1.2 1), .int .u8 (b8 x.2.2.2.2.1.2 2), .int .u8 (b8 x.2.2.2.2.1.2 3), .int .u8 (b8 x.2.2.2.2.1.2 4), .int .u8 (b8 x.2.2.2.2.1.2 5), .int .u8 (b8 x.2.2.2.2.1.2 6), .int .u8 (b8 x.2.2.2.2.1.2 7), .int .u8 (b8 x.2.2.2.2.1.2 8), .int .u8 (b8 x.2.2.2.2.1.2 9), .int .u8 (b8 x.2.2.2.2.1.2 10), .int .u8 (b8 x.2.2.2.2.1.2 11), .int .u8 (b8 x.2.2.2.2.1.2 12), .int .u8 (b8 x.2.2.2.2.1.2 13), .int .u8 (b8 x.2.2.2.2.1.2 14), .int .u8 (b8 x.2.2.2.2.1.2 15), .bool x.2.2.2.2.2.1, .int .i64 x.2.2.2.2.2.2.1, .int .i64 x.2.2.2.2.2.2.2.1, x.2.2.2.2.2.2.2.2.1.1, x.2.2.2.2.2.2.2.2.2.1]
def nf_api_Talk : Nf T_api_Talk := (((Nf.sl 17 e_api_Addr).on fun x : T_api_Talk => x.2.2.2.2.2.2.2.2.1).and (((Nf.sl 19 e_api_Record).on fun x : T_api_Talk => x.2.2.2.2.2.2.2.2.2).and ((Nf.all nf_api_Record).on fun x : T_api_Talk => x.2.2.2.2.2.2.2.2.2.2)))
def hz_api_Talk (x : T_api_Talk) : T_api_Talk := (x.1, x.2.1, x.2.2.1, x.2.2.2.1, x.2.2.2.2.1, x.2.2.2.2.2.1, x.2.2.2.2.2.2.1, x.2.2.2.2.2.2.2.1, x.2.2.2.2.2.2.2.2.1, (.slice none 0 0, []))
def e_api_Tune (x : T_api_Tune) : List Value := [.int .i64 x.1, .int .i64 x.2.1, .int .i64 x.2.2.1, .int .i64 x.2.2.2.1, .int .i64 x.2.2.2.2]
theorem one_e_api_Addr (x : T_api_Addr) : ∀ v ∈ e_api_Addr x, v.oneCell' = true := by intro v hv; simp [e_api_Addr] at hv; rcases hv with rfl | rfl | rfl | rfl | rfl | rfl | rfl | rfl | rfl | rfl | rfl | rfl | rfl | rfl | rfl | rfl | rfl <;> rfl
theorem nfm_api_Filter {F : Fz} {h : Heap} (x : T_api_Filter) (s0 : SliceF F h 17 e_api_Addr x.2.1 x.2.2) : (nf_api_Filter).p F h x := s0
theorem nff_api_Filter_1 {F : Fz} {h : Heap} {x : T_api_Filter} (s : (nf_api_Filter).p F h x) : SliceF F h 17 e_api_Addr x.2.1 x.2.2 := s
theorem tp_52 : TPlaces Try.prog 52 #[(0, 1), (1, 1), (2, 1), (3, 1), (4, 1)] #[.bool false, .int .i64 0, .map none, .int .i64 0, .int .i64 0] := tplaces Try.runUnderlying52 Try.zeroValue52 rfl (fun w => by kernel_rfl)
theorem tz_30 : TZero Try.prog 30 (.agg #[.bool false, .int .u8 0, .int .u8 0, .int .u8 0, .int .u8 0, .int .u8 0, .int .u8 0, .int .u8 0, .int .u8 0, .int .u8 0, .int .u8 0, .int .u8 0, .int .u8 0, .int .u8 0, .int .u8 0, .int .u8 0, .int .u8 0]) := Try.zeroValue30
theorem tz_28 : TZero Try.prog 28 (.agg #[.int .u8 0, .int .u8 0, .int .u8 0, .int .u8 0, .int .u8 0, .int .u8 0, .int .u8 0, .int .u8 0, .int .u8 0, .int .u8 0, .int .u8 0, .int .u8 0, .int .u8 0, .int .u8 0, .int .u8 0, .int .u8 0]) := Try.zeroValue28
theorem to_5 : TOne Try.prog 5 := ⟨Try.isAgg5, Try.sizeOf5⟩
theorem tr_28 : TArr Try.prog 28 16 5 := ⟨Try.underlying28, to_5, Try.underlying5, ⟨Try.t5, by kernel_rfl⟩, by kernel_rfl⟩
theorem tb_28 : TBuildA Try.prog 28 #[.int .u8 0, .int .u8 0, .int .u8 0, .int .u8 0, .int .u8 0, .int .u8 0, .int .u8 0, .int .u8 0, .int .u8 0, .int .u8 0, .int .u8 0, .int .u8 0, .int .u8 0, .int .u8 0, .int .u8 0, .int .u8 0] := tbuildA tr_28 tz_28 rfl
theorem tp_30 : TPlaces Try.prog 30 #[(0, 1), (1, 16)] #[.bool false, .int .u8 0, .int .u8 0, .int .u8 0, .int .u8 0, .int .u8 0, .int .u8 0, .int .u8 0, .int .u8 0, .int .u8 0, .int .u8 0, .int .u8 0, .int .u8 0, .int .u8 0, .int .u8 0, .int .u8 0, .int .u8 0] := tplaces Try.runUnderlying30 Try.zeroValue30 rfl (fun w => by kernel_rfl)
theorem ta_30 : TAgg Try.prog 30 17 := ⟨Try.isAgg30, Try.sizeOf30⟩
theorem fa_52_1 : FieldAt Try.prog 52 1 1 := fun a w => by kernel_rfl
theorem to_3 : TOne Try.prog 3 := ⟨Try.isAgg3, Try.sizeOf3⟩
theorem fa_30_0 : FieldAt Try.prog 30 0 0 := fun a w => by kernel_rfl
theorem to_4 : TOne Try.prog 4 := ⟨Try.isAgg4, Try.sizeOf4⟩
theorem fa_30_1 : FieldAt Try.prog 30 1 1 := fun a w => by kernel_rfl
theorem en_35 (args : Array Value) (w : World) : (callFunc 35 args).run Try.prog w = .ok (.enter 35 args) w := by kernel_rfl
theorem teq_28 (d : Nat) (a b : Ba 16) (w : World) : (Op.equalIn (d + 2) 28 (.agg (arrCells a).toArray) (.agg (arrCells b).toArray)).run Try.prog w = .ok (decide (a = b)) w := teqArr tr_28 d a b w
theorem teq_30 (d : Nat) (a b : T_api_Addr) (w : World) : (Op.equalIn (d + 3) 30 (.agg (e_api_Addr a).toArray) (.agg (e_api_Addr b).toArray)).run Try.prog w = .ok (decide (a = b)) w := by
  refine (eqs w (d + 2) 30 _ _ Try.underlying30 (by kernel_rfl) (eqf_cons w (a := .bool a.1) (b := .bool b.1) (by decide) (by kernel_rfl) (by kernel_rfl) (run_equalIn_bool' w _ _ _ _ Try.underlying4) (eqf_cons w (a := .agg (arrCells a.2).toArray) (b := .agg (arrCells b.2).toArray) (by decide) (by kernel_rfl) (by kernel_rfl) (teq_28 (d + 0) _ _ w) (eqf_nil w)))).trans ?_
  congr 1; rw [Bool.eq_iff_iff]; simp [Prod.ext_iff]
theorem mixed : Try.prog.follows .mixedOrders = true := by kernel_rfl
theorem en_36 (args : Array Value) (w : World) : (callFunc 36 args).run Try.prog w = .ok (.enter 36 args) w := by kernel_rfl
theorem en_72 (args : Array Value) (w : World) : (callFunc 72 args).run Try.prog w = .ok (.enter 72 args) w := by kernel_rfl
theorem ts_94 : TSlice Try.prog 94 5 1 := ⟨Try.underlying94, Try.sizeOf5⟩
theorem en_62 (args : Array Value) (w : World) : (callFunc 62 args).run Try.prog w = .ok (.enter 62 args) w := by kernel_rfl
theorem tz_5 : TZero Try.prog 5 (.int .u8 0) := Try.zeroValue5
theorem tl_94 : TLit Try.prog 94 5 1 #[.int .u8 0] := tlit ts_94 tz_5 rfl
theorem en_52 (args : Array Value) (w : World) : (callFunc 52 args).run Try.prog w = .ok (.enter 52 args) w := by kernel_rfl
theorem en_37 (args : Array Value) (w : World) : (callFunc 37 args).run Try.prog w = .ok (.enter 37 args) w := by kernel_rfl
theorem to_22 : TOne Try.prog 22 := ⟨Try.isAgg22, Try.sizeOf22⟩
theorem fa_52_0 : FieldAt Try.prog 52 0 0 := fun a w => by kernel_rfl
theorem ts_32 : TSlice Try.prog 32 30 17 := ⟨Try.underlying32, Try.sizeOf30⟩
theorem en_53 (args : Array Value) (w : World) : (callFunc 53 args).run Try.prog w = .ok (.enter 53 args) w := by kernel_rfl
theorem en_39 (args : Array Value) (w : World) : (callFunc 39 args).run Try.prog w = .ok (.enter 39 args) w := by kernel_rfl
theorem en_38 (args : Array Value) (w : World) : (callFunc 38 args).run Try.prog w = .ok (.enter 38 args) w := by kernel_rfl
theorem en_55 (args : Array Value) (w : World) : (callFunc 55 args).run Try.prog w = .ok (.enter 55 args) w := by kernel_rfl
theorem en_54 (args : Array Value) (w : World) : (callFunc 54 args).run Try.prog w = .ok (.enter 54 args) w := by kernel_rfl
theorem en_17 (args : Array Value) (w : World) : (callFunc 17 args).run Try.prog w = .ok (.enter 17 args) w := by kernel_rfl
theorem en_40 (args : Array Value) (w : World) : (callFunc 40 args).run Try.prog w = .ok (.enter 40 args) w := by kernel_rfl
theorem fa_34_0 : FieldAt Try.prog 34 0 0 := fun a w => by kernel_rfl
theorem fa_34_1 : FieldAt Try.prog 34 1 1 := fun a w => by kernel_rfl
theorem to_32 : TOne Try.prog 32 := ⟨Try.isAgg32, Try.sizeOf32⟩
theorem ta_34 : TAgg Try.prog 34 2 := ⟨Try.isAgg34, Try.sizeOf34⟩
theorem en_41 (args : Array Value) (w : World) : (callFunc 41 args).run Try.prog w = .ok (.enter 41 args) w := by kernel_rfl
theorem tl_32 : TLit Try.prog 32 30 17 #[.bool false, .int .u8 0, .int .u8 0, .int .u8 0, .int .u8 0, .int .u8 0, .int .u8 0, .int .u8 0, .int .u8 0, .int .u8 0, .int .u8 0, .int .u8 0, .int .u8 0, .int .u8 0, .int .u8 0, .int .u8 0, .int .u8 0] := tlit ts_32 tz_30 rfl
theorem te_32 : TElem Try.prog 32 30 17 17 := ⟨Try.underlying32, ⟨Try.t30, .agg #[.bool false, .int .u8 0, .int .u8 0, .int .u8 0, .int .u8 0, .int .u8 0, .int .u8 0, .int .u8 0, .int .u8 0, .int .u8 0, .int .u8 0, .int .u8 0, .int .u8 0, .int .u8 0, .int .u8 0, .int .u8 0, .int .u8 0], by kernel_rfl, by kernel_rfl, by kernel_rfl, by kernel_rfl, by kernel_rfl⟩, by decide⟩
theorem tz_34 : TZero Try.prog 34 (.agg #[.bool false, .slice none 0 0]) := Try.zeroValue34
theorem en_42 (args : Array Value) (w : World) : (callFunc 42 args).run Try.prog w = .ok (.enter 42 args) w := by kernel_rfl
theorem tp_34 : TPlaces Try.prog 34 #[(0, 1), (1, 1)] #[.bool false, .slice none 0 0] := tplaces Try.runUnderlying34 Try.zeroValue34 rfl (fun w => by kernel_rfl)
theorem en_48 (args : Array Value) (w : World) : (callFunc 48 args).run Try.prog w = .ok (.enter 48 args) w := by kernel_rfl
theorem fa_52_3 : FieldAt Try.prog 52 3 3 := fun a w => by kernel_rfl
theorem fa_52_4 : FieldAt Try.prog 52 4 4 := fun a w => by kernel_rfl
theorem en_47 (args : Array Value) (w : World) : (callFunc 47 args).run Try.prog w = .ok (.enter 47 args) w := by kernel_rfl
theorem tz_32 : TZero Try.prog 32 (.slice none 0 0) := Try.zeroValue32
theorem en_84 (args : Array Value) (w : World) : (callFunc 84 args).run Try.prog w = .ok (.enter 84 args) w := by kernel_rfl
theorem en_71 (args : Array Value) (w : World) : (callFunc 71 args).run Try.prog w = .ok (.enter 71 args) w := by kernel_rfl
theorem en_64 (args : Array Value) (w : World) : (callFunc 64 args).run Try.prog w = .ok (.enter 64 args) w := by kernel_rfl
theorem tp_60 : TPlaces Try.prog 60 #[(0, 1), (1, 17), (18, 1)] #[.int .i64 0, .bool false, .int .u8 0, .int .u8 0, .int .u8 0, .int .u8 0, .int .u8 0, .int .u8 0, .int .u8 0, .int .u8 0, .int .u8 0, .int .u8 0, .int .u8 0, .int .u8 0, .int .u8 0, .int .u8 0, .int .u8 0, .int .u8 0, .slice none 0 0] := tplaces Try.runUnderlying60 Try.zeroValue60 rfl (fun w => by kernel_rfl)
theorem nfm_api_Record {F : Fz} {h : Heap} (x : T_api_Record) (s0 : SliceF F h 17 e_api_Addr x.2.2.1 x.2.2.2) : (nf_api_Record).p F h x := s0
theorem nff_api_Record_18 {F : Fz} {h : Heap} {x : T_api_Record} (s : (nf_api_Record).p F h x) : SliceF F h 17 e_api_Addr x.2.2.1 x.2.2.2 := s
theorem nfi_api_Record_18 {h : Heap} {x : T_api_Record} (s : (nf_api_Record).q h x) : SliceIs h 17 e_api_Addr x.2.2.1 x.2.2.2 := s
theorem nfo_api_Record {h : Heap} {x : T_api_Record} (s : (nf_api_Record).q h x) : ∀ u ∈ e_api_Record x, u.oneCell' = true := by
  intro u hu; simp [e_api_Record] at hu; rcases hu with rfl | rfl | rfl | rfl | rfl | rfl | rfl | rfl | rfl | rfl | rfl | rfl | rfl | rfl | rfl | rfl | rfl | rfl | rfl
  · rfl
  · rfl
  · rfl
  · rfl
  · rfl
  · rfl
  · rfl
  · rfl
  · rfl
  · rfl
  · rfl
  · rfl
  · rfl
  · rfl
  · rfl
  · rfl
  · rfl
  · rfl
  · exact (shp (nfi_api_Record_18 s)).one
theorem tz_60 : TZero Try.prog 60 (.agg #[.int .i64 0, .bool false, .int .u8 0, .int .u8 0, .int .u8 0, .int .u8 0, .int .u8 0, .int .u8 0, .int .u8 0, .int .u8 0, .int .u8 0, .int .u8 0, .int .u8 0, .int .u8 0, .int .u8 0, .int .u8 0, .int .u8 0, .int .u8 0, .slice none 0 0]) := Try.zeroValue60
theorem ts_37 : TSlice Try.prog 37 60 19 := ⟨Try.underlying37, Try.sizeOf60⟩
theorem tl_37 : TLit Try.prog 37 60 19 #[.int .i64 0, .bool false, .int .u8 0, .int .u8 0, .int .u8 0, .int .u8 0, .int .u8 0, .int .u8 0, .int .u8 0, .int .u8 0, .int .u8 0, .int .u8 0, .int .u8 0, .int .u8 0, .int .u8 0, .int .u8 0, .int .u8 0, .int .u8 0, .slice none 0 0] := tlit ts_37 tz_60 rfl
theorem en_56 (args : Array Value) (w : World) : (callFunc 56 args).run Try.prog w = .ok (.enter 56 args) w := by kernel_rfl
theorem te_37 : TElem Try.prog 37 60 19 56 := ⟨Try.underlying37, ⟨Try.t60, .agg #[.int .i64 0, .bool false, .int .u8 0, .int .u8 0, .int .u8 0, .int .u8 0, .int .u8 0, .int .u8 0, .int .u8 0, .int .u8 0, .int .u8 0, .int .u8 0, .int .u8 0, .int .u8 0, .int .u8 0, .int .u8 0, .int .u8 0, .int .u8 0, .slice none 0 0], by kernel_rfl, by kernel_rfl, by kernel_rfl, by kernel_rfl, by kernel_rfl⟩, by decide⟩
theorem fa_60_2 : FieldAt Try.prog 60 2 18 := fun a w => by kernel_rfl
theorem nfm_api_Talk {F : Fz} {h : Heap} (x : T_api_Talk) (s0 : SliceF F h 17 e_api_Addr x.2.2.2.2.2.2.2.2.1.1 x.2.2.2.2.2.2.2.2.1.2) (s1 : SliceF F h 19 e_api_Record x.2.2.2.2.2.2.2.2.2.1 x.2.2.2.2.2.2.2.2.2.2) (s2 : NfL nf_api_Record F h x.2.2.2.2.2.2.2.2.2.2) : (nf_api_Talk).p F h x := ⟨s0, s1, s2⟩
theorem nff_api_Talk_24 {F : Fz} {h : Heap} {x : T_api_Talk} (s : (nf_api_Talk).p F h x) : SliceF F h 17 e_api_Addr x.2.2.2.2.2.2.2.2.1.1 x.2.2.2.2.2.2.2.2.1.2 := (show _ ∧ _ from s).1
theorem nfi_api_Talk_24 {h : Heap} {x : T_api_Talk} (s : (nf_api_Talk).q h x) : SliceIs h 17 e_api_Addr x.2.2.2.2.2.2.2.2.1.1 x.2.2.2.2.2.2.2.2.1.2 := (show _ ∧ _ from s).1
theorem nfi_api_Talk_25 {h : Heap} {x : T_api_Talk} (s : (nf_api_Talk).q h x) : SliceIs h 19 e_api_Record x.2.2.2.2.2.2.2.2.2.1 x.2.2.2.2.2.2.2.2.2.2 := (show _ ∧ _ from s).2.1
theorem nfo_api_Talk {h : Heap} {x : T_api_Talk} (s : (nf_api_Talk).q h x) : ∀ u ∈ e_api_Talk x, u.oneCell' = true := by
  intro u hu; simp [e_api_Talk] at hu; rcases hu with rfl | rfl | rfl | rfl | rfl | rfl | rfl | rfl | rfl | rfl | rfl | rfl | rfl | rfl | rfl | rfl | rfl | rfl | rfl | rfl | rfl | rfl | rfl | rfl | rfl | rfl
  · rfl
  · rfl
  · rfl
  · rfl
  · rfl
  · rfl
  · rfl
  · rfl
  · rfl
  · rfl
  · rfl
  · rfl
  · rfl
  · rfl
  · rfl
  · rfl
  · rfl
  · rfl
  · rfl
  · rfl
  · rfl
  · rfl
  · rfl
  · rfl
  · exact (shp (nfi_api_Talk_24 s)).one
  · exact (shp (nfi_api_Talk_25 s)).one
theorem ta_60 : TAgg Try.prog 60 19 := ⟨Try.isAgg60, Try.sizeOf60⟩
theorem en_51 (args : Array Value) (w : World) : (callFunc 51 args).run Try.prog w = .ok (.enter 51 args) w := by kernel_rfl
theorem ts_24 : TSlice Try.prog 24 39 26 := ⟨Try.underlying24, Try.sizeOf39⟩
theorem fa_39_9 : FieldAt Try.prog 39 9 25 := fun a w => by kernel_rfl
theorem to_37 : TOne Try.prog 37 := ⟨Try.isAgg37, Try.sizeOf37⟩
theorem en_29 (args : Array Value) (w : World) : (callFunc 29 args).run Try.prog w = .ok (.enter 29 args) w := by kernel_rfl
theorem tp_39 : TPlaces Try.prog 39 #[(0, 1), (1, 1), (2, 1), (3, 1), (4, 17), (21, 1), (22, 1), (23, 1), (24, 1), (25, 1)] #[.bool false, .int .i64 0, .int .i64 0, .int .i64 0, .bool false, .int .u8 0, .int .u8 0, .int .u8 0, .int .u8 0, .int .u8 0, .int .u8 0, .int .u8 0, .int .u8 0, .int .u8 0, .int .u8 0, .int .u8 0, .int .u8 0, .int .u8 0, .int .u8 0, .int .u8 0, .int .u8 0, .bool false, .int .i64 0, .int .i64 0, .slice none 0 0, .slice none 0 0] := tplaces Try.runUnderlying39 Try.zeroValue39 rfl (fun w => by kernel_rfl)
theorem tz_39 : TZero Try.prog 39 (.agg #[.bool false, .int .i64 0, .int .i64 0, .int .i64 0, .bool false, .int .u8 0, .int .u8 0, .int .u8 0, .int .u8 0, .int .u8 0, .int .u8 0, .int .u8 0, .int .u8 0, .int .u8 0, .int .u8 0, .int .u8 0, .int .u8 0, .int .u8 0, .int .u8 0, .int .u8 0, .int .u8 0, .bool false, .int .i64 0, .int .i64 0, .slice none 0 0, .slice none 0 0]) := Try.zeroValue39
theorem tl_24 : TLit Try.prog 24 39 26 #[.bool false, .int .i64 0, .int .i64 0, .int .i64 0, .bool false, .int .u8 0, .int .u8 0, .int .u8 0, .int .u8 0, .int .u8 0, .int .u8 0, .int .u8 0, .int .u8 0, .int .u8 0, .int .u8 0, .int .u8 0, .int .u8 0, .int .u8 0, .int .u8 0, .int .u8 0, .int .u8 0, .bool false, .int .i64 0, .int .i64 0, .slice none 0 0, .slice none 0 0] := tlit ts_24 tz_39 rfl
theorem te_24 : TElem Try.prog 24 39 26 120 := ⟨Try.underlying24, ⟨Try.t39, .agg #[.bool false, .int .i64 0, .int .i64 0, .int .i64 0, .bool false, .int .u8 0, .int .u8 0, .int .u8 0, .int .u8 0, .int .u8 0, .int .u8 0, .int .u8 0, .int .u8 0, .int .u8 0, .int .u8 0, .int .u8 0, .int .u8 0, .int .u8 0, .int .u8 0, .int .u8 0, .int .u8 0, .bool false, .int .i64 0, .int .i64 0, .slice none 0 0, .slice none 0 0], by kernel_rfl, by kernel_rfl, by kernel_rfl, by kernel_rfl, by kernel_rfl⟩, by decide⟩
theorem en_28 (args : Array Value) (w : World) : (callFunc 28 args).run Try.prog w = .ok (.enter 28 args) w := by kernel_rfl
theorem ta_39 : TAgg Try.prog 39 26 := ⟨Try.isAgg39, Try.sizeOf39⟩
theorem fa_39_1 : FieldAt Try.prog 39 1 1 := fun a w => by kernel_rfl
theorem en_43 (args : Array Value) (w : World) : (callFunc 43 args).run Try.prog w = .ok (.enter 43 args) w := by kernel_rfl
theorem en_32 (args : Array Value) (w : World) : (callFunc 32 args).run Try.prog w = .ok (.enter 32 args) w := by kernel_rfl
theorem en_22 (args : Array Value) (w : World) : (callFunc 22 args).run Try.prog w = .ok (.enter 22 args) w := by kernel_rfl
theorem en_30 (args : Array Value) (w : World) : (callFunc 30 args).run Try.prog w = .ok (.enter 30 args) w := by kernel_rfl
theorem en_16 (args : Array Value) (w : World) : (callFunc 16 args).run Try.prog w = .ok (.enter 16 args) w := by kernel_rfl
theorem en_18 (args : Array Value) (w : World) : (callFunc 18 args).run Try.prog w = .ok (.enter 18 args) w := by kernel_rfl
theorem en_19 (args : Array Value) (w : World) : (callFunc 19 args).run Try.prog w = .ok (.enter 19 args) w := by kernel_rfl
theorem en_20 (args : Array Value) (w : World) : (callFunc 20 args).run Try.prog w = .ok (.enter 20 args) w := by kernel_rfl
theorem en_21 (args : Array Value) (w : World) : (callFunc 21 args).run Try.prog w = .ok (.enter 21 args) w := by kernel_rfl
theorem fa_52_2 : FieldAt Try.prog 52 2 2 := fun a w => by kernel_rfl
theorem to_50 : TOne Try.prog 50 := ⟨Try.isAgg50, Try.sizeOf50⟩
theorem tmk_50 : TMapK Try.prog 50 30 34 (.agg #[.bool false, .slice none 0 0]) := ⟨Try.underlying50, tz_34⟩
theorem ka_30 : KeyAt Try.prog 30 (fun x : T_api_Addr => .agg (e_api_Addr x).toArray) := keyAt_struct Try.underlying30 (fun a => ⟨_, rfl⟩) (fun a b w => teq_30 9997 a b w) (fun e a w => by kernel_rfl) (fun a => sameBits_agg 9999 [.bool a.1, .int .u8 (b8 a.2 0), .int .u8 (b8 a.2 1), .int .u8 (b8 a.2 2), .int .u8 (b8 a.2 3), .int .u8 (b8 a.2 4), .int .u8 (b8 a.2 5), .int .u8 (b8 a.2 6), .int .u8 (b8 a.2 7), .int .u8 (b8 a.2 8), .int .u8 (b8 a.2 9), .int .u8 (b8 a.2 10), .int .u8 (b8 a.2 11), .int .u8 (b8 a.2 12), .int .u8 (b8 a.2 13), .int .u8 (b8 a.2 14), .int .u8 (b8 a.2 15)] (by intro c hc; simp at hc; rcases hc with rfl | rfl | rfl | rfl | rfl | rfl | rfl | rfl | rfl | rfl | rfl | rfl | rfl | rfl | rfl | rfl | rfl <;> first | exact sameBits_int _ _ _ | exact sameBits_bool _ _ | exact sameBits_str _ _))
theorem en_23 (args : Array Value) (w : World) : (callFunc 23 args).run Try.prog w = .ok (.enter 23 args) w := by kernel_rfl
theorem en_24 (args : Array Value) (w : World) : (callFunc 24 args).run Try.prog w = .ok (.enter 24 args) w := by kernel_rfl
theorem tz_42 : TZero Try.prog 42 (.agg #[.int .i64 0, .int .i64 0, .int .i64 0, .int .i64 0, .int .i64 0]) := Try.zeroValue42
theorem tp_42 : TPlaces Try.prog 42 #[(0, 1), (1, 1), (2, 1), (3, 1), (4, 1)] #[.int .i64 0, .int .i64 0, .int .i64 0, .int .i64 0, .int .i64 0] := tplaces Try.runUnderlying42 Try.zeroValue42 rfl (fun w => by kernel_rfl)
theorem ta_42 : TAgg Try.prog 42 5 := ⟨Try.isAgg42, Try.sizeOf42⟩
theorem one_e_api_Tune (x : T_api_Tune) : ∀ v ∈ e_api_Tune x, v.oneCell' = true := by intro v hv; simp [e_api_Tune] at hv; rcases hv with rfl | rfl | rfl | rfl | rfl <;> rfl
theorem fa_42_0 : FieldAt Try.prog 42 0 0 := fun a w => by kernel_rfl
theorem fa_42_1 : FieldAt Try.prog 42 1 1 := fun a w => by kernel_rfl
theorem fa_42_2 : FieldAt Try.prog 42 2 2 := fun a w => by kernel_rfl
theorem en_44 (args : Array Value) (w : World) : (callFunc 44 args).run Try.prog w = .ok (.enter 44 args) w := by kernel_rfl
theorem en_59 (args : Array Value) (w : World) : (callFunc 59 args).run Try.prog w = .ok (.enter 59 args) w := by kernel_rfl
theorem apk_65_59 {F : Fz} {os : List Ow} {h : Heap} {b r : Nat} {ν : Type} {en : ν → Value} {m : List (T_api_Addr × ν)} (hS : St F os h) (hB : Blk h b (.cells #[.map (some r)] 50 (0, 0))) (hM : MapIs h r (fun x => .agg (e_api_Addr x).toArray) en m) (hN : m.length * 17 ≤ 140737488355328) :
    HC Try.prog 65 #[.slice none 0 0, .func (.func 59) #[] #[.pointer (some ⟨b, 0, none⟩)]] h fun u h' => ∃ xs : List T_api_Addr, xs.Perm (m.map Prod.fst) ∧ St F (Ow.own 30 17 e_api_Addr u xs :: os) h' ∧ Kp F h F h' :=
  appendK_hc (enc := e_api_Addr) Try.func65 rfl rfl rfl Try.func59 rfl rfl rfl en_59 te_32 Try.underlying50 ta_30 to_32 to_50 tz_30 rfl tl_32 (by decide) (fun _ => rfl) (by intro a u hu; simp [e_api_Addr, encI, encN, encB, encT] at hu; rcases hu with rfl | rfl | rfl | rfl | rfl | rfl | rfl | rfl | rfl | rfl | rfl | rfl | rfl | rfl | rfl | rfl | rfl <;> rfl) hS hB hM hN (by omega)
theorem en_65 (args : Array Value) (w : World) : (callFunc 65 args).run Try.prog w = .ok (.enter 65 args) w := by kernel_rfl
theorem en_57 (args : Array Value) (w : World) : (callFunc 57 args).run Try.prog w = .ok (.enter 57 args) w := by kernel_rfl
theorem en_58 (args : Array Value) (w : World) : (callFunc 58 args).run Try.prog w = .ok (.enter 58 args) w := by kernel_rfl
theorem en_46 (args : Array Value) (w : World) : (callFunc 46 args).run Try.prog w = .ok (.enter 46 args) w := by kernel_rfl
theorem en_45 (args : Array Value) (w : World) : (callFunc 45 args).run Try.prog w = .ok (.enter 45 args) w := by kernel_rfl
theorem ta_28 : TAgg Try.prog 28 16 := ⟨Try.isAgg28, Try.sizeOf28⟩
theorem fa_60_0 : FieldAt Try.prog 60 0 0 := fun a w => by kernel_rfl
theorem en_69 (args : Array Value) (w : World) : (callFunc 69 args).run Try.prog w = .ok (.enter 69 args) w := by kernel_rfl
theorem en_68 (args : Array Value) (w : World) : (callFunc 68 args).run Try.prog w = .ok (.enter 68 args) w := by kernel_rfl
theorem en_70 (args : Array Value) (w : World) : (callFunc 70 args).run Try.prog w = .ok (.enter 70 args) w := by kernel_rfl
theorem en_60 (args : Array Value) (w : World) : (callFunc 60 args).run Try.prog w = .ok (.enter 60 args) w := by kernel_rfl
theorem en_61 (args : Array Value) (w : World) : (callFunc 61 args).run Try.prog w = .ok (.enter 61 args) w := by kernel_rfl
theorem fa_39_4 : FieldAt Try.prog 39 4 4 := fun a w => by kernel_rfl
theorem en_27 (args : Array Value) (w : World) : (callFunc 27 args).run Try.prog w = .ok (.enter 27 args) w := by kernel_rfl
theorem fa_39_8 : FieldAt Try.prog 39 8 24 := fun a w => by kernel_rfl
theorem en_49 (args : Array Value) (w : World) : (callFunc 49 args).run Try.prog w = .ok (.enter 49 args) w := by kernel_rfl
theorem en_50 (args : Array Value) (w : World) : (callFunc 50 args).run Try.prog w = .ok (.enter 50 args) w := by kernel_rfl
theorem fa_39_2 : FieldAt Try.prog 39 2 2 := fun a w => by kernel_rfl
theorem fa_39_0 : FieldAt Try.prog 39 0 0 := fun a w => by kernel_rfl
theorem en_25 (args : Array Value) (w : World) : (callFunc 25 args).run Try.prog w = .ok (.enter 25 args) w := by kernel_rfl
theorem en_26 (args : Array Value) (w : World) : (callFunc 26 args).run Try.prog w = .ok (.enter 26 args) w := by kernel_rfl
theorem en_31 (args : Array Value) (w : World) : (callFunc 31 args).run Try.prog w = .ok (.enter 31 args) w := by kernel_rfl
theorem en_5 (args : Array Value) (w : World) : (callFunc 5 args).run Try.prog w = .ok (.enter 5 args) w := by kernel_rfl
theorem en_7 (args : Array Value) (w : World) : (callFunc 7 args).run Try.prog w = .ok (.enter 7 args) w := by kernel_rfl
theorem en_6 (args : Array Value) (w : World) : (callFunc 6 args).run Try.prog w = .ok (.enter 6 args) w := by kernel_rfl
theorem en_10 (args : Array Value) (w : World) : (callFunc 10 args).run Try.prog w = .ok (.enter 10 args) w := by kernel_rfl
theorem en_9 (args : Array Value) (w : World) : (callFunc 9 args).run Try.prog w = .ok (.enter 9 args) w := by kernel_rfl
theorem en_8 (args : Array Value) (w : World) : (callFunc 8 args).run Try.prog w = .ok (.enter 8 args) w := by kernel_rfl
theorem fa_60_1 : FieldAt Try.prog 60 1 1 := fun a w => by kernel_rfl
theorem en_33 (args : Array Value) (w : World) : (callFunc 33 args).run Try.prog w = .ok (.enter 33 args) w := by kernel_rfl
theorem en_34 (args : Array Value) (w : World) : (callFunc 34 args).run Try.prog w = .ok (.enter 34 args) w := by kernel_rfl
theorem en_11 (args : Array Value) (w : World) : (callFunc 11 args).run Try.prog w = .ok (.enter 11 args) w := by kernel_rfl
theorem en_13 (args : Array Value) (w : World) : (callFunc 13 args).run Try.prog w = .ok (.enter 13 args) w := by kernel_rfl
theorem en_12 (args : Array Value) (w : World) : (callFunc 12 args).run Try.prog w = .ok (.enter 12 args) w := by kernel_rfl
theorem en_14 (args : Array Value) (w : World) : (callFunc 14 args).run Try.prog w = .ok (.enter 14 args) w := by kernel_rfl
theorem en_15 (args : Array Value) (w : World) : (callFunc 15 args).run Try.prog w = .ok (.enter 15 args) w := by kernel_rfl
def host_New_W (v6 : Bool) (Q : Prop) : Prop :=
 Q
theorem host_New_walk {F : Fz} {fr : List Ow} {h0 : Heap} (v6 : Bool) (hS : St F (fr) h0)  {Q : Prop} (hM : host_New_W v6 Q) :
  HC Try.prog 5 #[.bool v6] h0 fun u h' => ∃ (F' : Fz) (b_1 : Nat) (r_1 : Nat), u = .pointer (some ⟨b_1, 0, none⟩) ∧ Kp F h0 F' h' ∧ St F' (Ow.box b_1 52 #[.bool v6, .int .i64 0, .map (some r_1), .int .i64 0, .int .i64 0] :: Ow.map r_1 (fun (x : T_api_Addr) => .agg (e_api_Addr x).toArray) (fun (x : T_api_Filter) => .agg #[.bool x.1, x.2.1]) ([] : List (T_api_Addr × T_api_Filter)) :: fr) h' ∧ (NfL nf_api_Filter F' h' (([] : List (T_api_Addr × T_api_Filter)).map (·.2))) ∧ Q := by
 unfold host_New_W at hM
 have hK := Kp.refl F h0
 refine HC.of_HW (n := 7) Try.func5 rfl rfl (Nat.le_of_ble_eq_true rfl) ?_
 refine HW.seq ?_
 refine HW.region ?_
 refine oA (.pointer none) rfl rfl ?_
 refine HO.nil (thenQ_normal (?_))
 refine HW.seq ?_
 refine HW.region ?_
 refine oM (.bool v6) rfl rfl ?_
 refine HO.eff (want_none) rfl (st_makeMap (κ := T_api_Addr) (ν := T_api_Filter) (fun (x : T_api_Addr) => .agg (e_api_Addr x).toArray) (fun (x : T_api_Filter) => .agg #[.bool x.1, x.2.1]) hS) ?_
 rintro _ h_1 ⟨r_2, rfl, hS, hk⟩
 replace hK := hK.trans hk
 have hN_2 : NfL nf_api_Filter F h_1 (([] : List (T_api_Addr × T_api_Filter)).map (·.2)) := NfL.nil _ _ _
 refine oV (.agg #[.bool v6, .int .i64 0, .map (some r_2), .int .i64 0, .int .i64 0]) (q_build tp_52 rfl) rfl ?_
 refine HO.eff (want_none) rfl (st_box (c := #[.bool v6, .int .i64 0, .map (some r_2), .int .i64 0, .int .i64 0]) (k' := 5) hS rfl rfl) ?_
 rintro _ h_2 ⟨b_2, rfl, hS, hk⟩
 replace hK := hK.trans hk
 replace hN_2 := hN_2.kp hk
 refine oA (.pointer (some ⟨b_2, 0, none⟩)) rfl rfl ?_
 refine HO.nil (thenQ_normal (?_))
 refine HW.ret (?_)
 refine ⟨.inr rfl, .pointer (some ⟨b_2, 0, none⟩), res1 rfl (rt rfl), ?_⟩
 exact ⟨F, b_2, r_2, rfl, hK, hS, hN_2, hM⟩
def law20_four_W (first : Int) (last : Int) (Q : T_api_Addr → Prop) : Prop :=
 ((0 : Int) ≤ last ∧ last < 256) ∧ (((0 : Int) ≤ first ∧ first < 256) ∧ (Q (false, mkB 16 [first, 1, 1, last, 0, 0, 0, 0, 0, 0, 0, 0, 0, 0, 0, 0])))
theorem law20_four_walk {F : Fz} {fr : List Ow} {h0 : Heap} (first : Int) (last : Int) (hS : St F (fr) h0)  {Q : T_api_Addr → Prop} (hM : law20_four_W first last Q) :
  HC Try.prog 7 #[.int .u8 first, .int .u8 last] h0 fun u h' => ∃ (F' : Fz) (r_1 : T_api_Addr), u = .agg (e_api_Addr r_1).toArray ∧ Kp F h0 F' h' ∧ St F' (fr) h' ∧ Q r_1 := by
 unfold law20_four_W at hM
 have hK := Kp.refl F h0
 refine HC.of_HW (n := 9) Try.func7 rfl rfl (Nat.le_of_ble_eq_true rfl) ?_
 refine HW.seq ?_
 refine HW.region ?_
 refine HO.eff (want_none) rfl (st_alloc (c := (e_api_Addr (false, (default : Ba 16))).toArray) hS tz_30 rfl) ?_
 rintro _ h_1 ⟨b_1, rfl, hS, hk⟩
 replace hK := hK.trans hk
 refine HO.nil (thenQ_normal (?_))
 refine HW.seq ?_
 refine HW.region ?_
 refine oM (.int .u8 first) rfl rfl ?_
 refine oM (.int .u8 last) rfl rfl ?_
 obtain ⟨ho_1, hM⟩ := hM
 obtain ⟨ho_2, hM⟩ := hM
 refine oV (.agg (arrCells (mkB 16 [first, 1, 1, last, 0, 0, 0, 0, 0, 0, 0, 0, 0, 0, 0, 0])).toArray) ((q_buildA (cells := #[.int .u8 first, .int .u8 1, .int .u8 1, .int .u8 last, .int .u8 0, .int .u8 0, .int .u8 0, .int .u8 0, .int .u8 0, .int .u8 0, .int .u8 0, .int .u8 0, .int .u8 0, .int .u8 0, .int .u8 0, .int .u8 0]) tb_28 rfl).of_eq (mkB_agg (n := 16) (l := [first, 1, 1, last, 0, 0, 0, 0, 0, 0, 0, 0, 0, 0, 0, 0]) rfl ⟨ho_2, ⟨⟨by decide, by decide⟩, ⟨⟨by decide, by decide⟩, ⟨ho_1, ⟨⟨by decide, by decide⟩, ⟨⟨by decide, by decide⟩, ⟨⟨by decide, by decide⟩, ⟨⟨by decide, by decide⟩, ⟨⟨by decide, by decide⟩, ⟨⟨by decide, by decide⟩, ⟨⟨by decide, by decide⟩, ⟨⟨by decide, by decide⟩, ⟨⟨by decide, by decide⟩, ⟨⟨by decide, by decide⟩, ⟨⟨by decide, by decide⟩, ⟨⟨by decide, by decide⟩, trivial⟩⟩⟩⟩⟩⟩⟩⟩⟩⟩⟩⟩⟩⟩⟩⟩)) rfl ?_
 refine oV (.agg (e_api_Addr (false, mkB 16 [first, 1, 1, last, 0, 0, 0, 0, 0, 0, 0, 0, 0, 0, 0, 0])).toArray) (q_build tp_30 (fill_cons (cs' := (e_api_Addr (false, mkB 16 [first, 1, 1, last, 0, 0, 0, 0, 0, 0, 0, 0, 0, 0, 0, 0])).toArray) (vc := (arrCells (mkB 16 [first, 1, 1, last, 0, 0, 0, 0, 0, 0, 0, 0, 0, 0, 0, 0])).toArray) rfl rfl rfl (Nat.le_of_ble_eq_true rfl) rfl rfl)) rfl ?_
 refine HO.sto (want_none) rfl (st_storeAgg (c' := (e_api_Addr (false, mkB 16 [first, 1, 1, last, 0, 0, 0, 0, 0, 0, 0, 0, 0, 0, 0, 0])).toArray) hS (i := 0) rfl ta_30 rfl rfl rfl (one_e_api_Addr _) (Nat.le_of_ble_eq_true rfl) rfl) ?_
 rintro h_2 ⟨hS, hk⟩
 replace hK := hK.trans hk
 refine HO.nil (thenQ_normal (?_))
 refine HW.ret (?_)
 refine ⟨.inr rfl, .agg (e_api_Addr (false, mkB 16 [first, 1, 1, last, 0, 0, 0, 0, 0, 0, 0, 0, 0, 0, 0, 0])).toArray, res1 rfl (rca (cs := (e_api_Addr (false, mkB 16 [first, 1, 1, last, 0, 0, 0, 0, 0, 0, 0, 0, 0, 0, 0, 0]))) ta_30 rfl rfl (Blk.cells (k := 17) (hS.box 0 rfl) rfl)), ?_⟩
 replace hS : St F (fr) h_2 := hS.perm2 [] 1 rfl rfl
 exact ⟨F, (false, mkB 16 [first, 1, 1, last, 0, 0, 0, 0, 0, 0, 0, 0, 0, 0, 0, 0]), rfl, hK, hS, hM⟩
def host_Host_settle_W (h_v6 : Bool) (h_now : Int) (h_want : List (T_api_Addr × T_api_Filter)) (h_one : Int) (h_two : Int) (now : Int) (Q : Int → Bool → Int → (List (T_api_Addr × T_api_Filter)) → Int → Int → Prop) : Prop :=
 Q (max h_now (min now 1000000000000)) h_v6 (max h_now (min now 1000000000000)) h_want h_one h_two
theorem host_Host_settle_walk {F : Fz} {fr : List Ow} {h0 : Heap} (h_v6 : Bool) (h_now : Int) (h_want : List (T_api_Addr × T_api_Filter)) (h_one : Int) (h_two : Int) (now : Int) (bh : Nat) (rh_want : Nat) (hS : St F (Ow.box bh 52 #[.bool h_v6, .int .i64 h_now, .map (some rh_want), .int .i64 h_one, .int .i64 h_two] :: Ow.map rh_want (fun (x : T_api_Addr) => .agg (e_api_Addr x).toArray) (fun (x : T_api_Filter) => .agg #[.bool x.1, x.2.1]) h_want :: fr) h0) (hN_h_want : NfL nf_api_Filter F h0 (h_want.map (·.2))) {Q : Int → Bool → Int → (List (T_api_Addr × T_api_Filter)) → Int → Int → Prop} (hM : host_Host_settle_W h_v6 h_now h_want h_one h_two now Q) :
  HC Try.prog 16 #[.pointer (some ⟨bh, 0, none⟩), .int .i64 now] h0 fun u h' => ∃ (F' : Fz) (r_1 : Int) (a0_v6_1 : Bool) (a0_now_1 : Int) (a0m_1 : List (T_api_Addr × T_api_Filter)) (a0_one_1 : Int) (a0_two_1 : Int), u = .int .i64 r_1 ∧ Kp F h0 F' h' ∧ St F' (Ow.box bh 52 #[.bool a0_v6_1, .int .i64 a0_now_1, .map (some rh_want), .int .i64 a0_one_1, .int .i64 a0_two_1] :: Ow.map rh_want (fun (x : T_api_Addr) => .agg (e_api_Addr x).toArray) (fun (x : T_api_Filter) => .agg #[.bool x.1, x.2.1]) a0m_1 :: fr) h' ∧ (NfL nf_api_Filter F' h' (h_want.map (·.2))) ∧ (NfL nf_api_Filter F' h' (a0m_1.map (·.2))) ∧ Q r_1 a0_v6_1 a0_now_1 a0m_1 a0_one_1 a0_two_1 := by
 unfold host_Host_settle_W at hM
 have hK := Kp.refl F h0
 refine HC.of_HW (n := 19) Try.func16 rfl rfl (Nat.le_of_ble_eq_true rfl) ?_
 refine HW.seq ?_
 refine HW.region ?_
 refine oA (.int .i64 0) rfl rfl ?_
 refine HO.nil (thenQ_normal (?_))
 refine HW.seq ?_
 refine HW.region ?_
 refine oM (.pointer (some ⟨bh, 0, none⟩)) rfl rfl ?_
 refine oM (.pointer (some ⟨bh, 0, none⟩)) rfl rfl ?_
 refine oV (.pointer (some ⟨bh, 0, none⟩)) (q_nilCheck rfl) rfl ?_
 refine oV (.pointer (some ⟨bh, 1, none⟩)) (q_fieldAddr fa_52_1 rfl rfl) rfl ?_
 refine oV (.int .i64 h_now) (q_load to_3 rfl (Blk.cell (hS.box 0 rfl) rfl)) rfl ?_
 refine oM (.int .i64 now) rfl rfl ?_
 refine oV (.int .i64 (min now 1000000000000)) (q_min rfl rfl) rfl ?_
 refine oV (.int .i64 (max h_now (min now 1000000000000))) (q_max rfl rfl) rfl ?_
 refine oV (.pointer (some ⟨bh, 0, none⟩)) (q_nilCheck rfl) rfl ?_
 refine oV (.pointer (some ⟨bh, 1, none⟩)) (q_fieldAddr fa_52_1 rfl rfl) rfl ?_
 refine HO.sto (want_none) rfl (st_store (c' := #[.bool h_v6, .int .i64 (max h_now (min now 1000000000000)), .map (some rh_want), .int .i64 h_one, .int .i64 h_two]) hS (i := 0) rfl to_3 rfl rfl rfl rfl (Nat.le_of_ble_eq_true rfl) rfl) ?_
 rintro h_1 ⟨hS, hk⟩
 replace hK := hK.trans hk
 replace hN_h_want := hN_h_want.kp hk
 refine HO.nil (thenQ_normal (?_))
 refine HW.seq ?_
 refine HW.region ?_
 refine oM (.pointer (some ⟨bh, 0, none⟩)) rfl rfl ?_
 refine oV (.pointer (some ⟨bh, 0, none⟩)) (q_nilCheck rfl) rfl ?_
 refine oV (.pointer (some ⟨bh, 1, none⟩)) (q_fieldAddr fa_52_1 rfl rfl) rfl ?_
 refine oV (.int .i64 (max h_now (min now 1000000000000))) (q_load to_3 rfl (Blk.cell (hS.box 0 rfl) rfl)) rfl ?_
 refine oA (.int .i64 (max h_now (min now 1000000000000))) rfl rfl ?_
 refine HO.nil (thenQ_normal (?_))
 refine HW.ret (?_)
 refine ⟨.inr rfl, .int .i64 (max h_now (min now 1000000000000)), res1 rfl (rt rfl), ?_⟩
 exact ⟨F, max h_now (min now 1000000000000), h_v6, max h_now (min now 1000000000000), h_want, h_one, h_two, rfl, hK, hS, hN_h_want, hN_h_want, hM⟩
def addr_Ip4_W (a : Int) (b : Int) (c : Int) (d : Int) (Q : T_api_Addr → Prop) : Prop :=
 ((0 : Int) ≤ d ∧ d < 256) ∧ (((0 : Int) ≤ c ∧ c < 256) ∧ (((0 : Int) ≤ b ∧ b < 256) ∧ (((0 : Int) ≤ a ∧ a < 256) ∧ (Q (false, mkB 16 [a, b, c, d, 0, 0, 0, 0, 0, 0, 0, 0, 0, 0, 0, 0])))))
theorem addr_Ip4_walk {F : Fz} {fr : List Ow} {h0 : Heap} (a : Int) (b : Int) (c : Int) (d : Int) (hS : St F (fr) h0)  {Q : T_api_Addr → Prop} (hM : addr_Ip4_W a b c d Q) :
  HC Try.prog 35 #[.int .u8 a, .int .u8 b, .int .u8 c, .int .u8 d] h0 fun u h' => ∃ (F' : Fz) (r_1 : T_api_Addr), u = .agg (e_api_Addr r_1).toArray ∧ Kp F h0 F' h' ∧ St F' (fr) h' ∧ Q r_1 := by
 unfold addr_Ip4_W at hM
 have hK := Kp.refl F h0
 refine HC.of_HW (n := 15) Try.func35 rfl rfl (Nat.le_of_ble_eq_true rfl) ?_
 refine HW.seq ?_
 refine HW.region ?_
 refine HO.eff (want_none) rfl (st_alloc (c := (e_api_Addr (false, (default : Ba 16))).toArray) hS tz_30 rfl) ?_
 rintro _ h_1 ⟨b_1, rfl, hS, hk⟩
 replace hK := hK.trans hk
 refine HO.nil (thenQ_normal (?_))
 refine HW.seq ?_
 refine HW.region ?_
 refine oM (.int .u8 a) rfl rfl ?_
 refine oM (.int .u8 b) rfl rfl ?_
 refine oM (.int .u8 c) rfl rfl ?_
 refine oM (.int .u8 d) rfl rfl ?_
 obtain ⟨ho_1, hM⟩ := hM
 obtain ⟨ho_2, hM⟩ := hM
 obtain ⟨ho_3, hM⟩ := hM
 obtain ⟨ho_4, hM⟩ := hM
 refine oV (.agg (arrCells (mkB 16 [a, b, c, d, 0, 0, 0, 0, 0, 0, 0, 0, 0, 0, 0, 0])).toArray) ((q_buildA (cells := #[.int .u8 a, .int .u8 b, .int .u8 c, .int .u8 d, .int .u8 0, .int .u8 0, .int .u8 0, .int .u8 0, .int .u8 0, .int .u8 0, .int .u8 0, .int .u8 0, .int .u8 0, .int .u8 0, .int .u8 0, .int .u8 0]) tb_28 rfl).of_eq (mkB_agg (n := 16) (l := [a, b, c, d, 0, 0, 0, 0, 0, 0, 0, 0, 0, 0, 0, 0]) rfl ⟨ho_4, ⟨ho_3, ⟨ho_2, ⟨ho_1, ⟨⟨by decide, by decide⟩, ⟨⟨by decide, by decide⟩, ⟨⟨by decide, by decide⟩, ⟨⟨by decide, by decide⟩, ⟨⟨by decide, by decide⟩, ⟨⟨by decide, by decide⟩, ⟨⟨by decide, by decide⟩, ⟨⟨by decide, by decide⟩, ⟨⟨by decide, by decide⟩, ⟨⟨by decide, by decide⟩, ⟨⟨by decide, by decide⟩, ⟨⟨by decide, by decide⟩, trivial⟩⟩⟩⟩⟩⟩⟩⟩⟩⟩⟩⟩⟩⟩⟩⟩)) rfl ?_
 refine oV (.agg (e_api_Addr (false, mkB 16 [a, b, c, d, 0, 0, 0, 0, 0, 0, 0, 0, 0, 0, 0, 0])).toArray) (q_build tp_30 (fill_cons (cs' := (e_api_Addr (false, mkB 16 [a, b, c, d, 0, 0, 0, 0, 0, 0, 0, 0, 0, 0, 0, 0])).toArray) (vc := (arrCells (mkB 16 [a, b, c, d, 0, 0, 0, 0, 0, 0, 0, 0, 0, 0, 0, 0])).toArray) rfl rfl rfl (Nat.le_of_ble_eq_true rfl) rfl rfl)) rfl ?_
 refine HO.sto (want_none) rfl (st_storeAgg (c' := (e_api_Addr (false, mkB 16 [a, b, c, d, 0, 0, 0, 0, 0, 0, 0, 0, 0, 0, 0, 0])).toArray) hS (i := 0) rfl ta_30 rfl rfl rfl (one_e_api_Addr _) (Nat.le_of_ble_eq_true rfl) rfl) ?_
 rintro h_2 ⟨hS, hk⟩
 replace hK := hK.trans hk
 refine HO.nil (thenQ_normal (?_))
 refine HW.ret (?_)
 refine ⟨.inr rfl, .agg (e_api_Addr (false, mkB 16 [a, b, c, d, 0, 0, 0, 0, 0, 0, 0, 0, 0, 0, 0, 0])).toArray, res1 rfl (rca (cs := (e_api_Addr (false, mkB 16 [a, b, c, d, 0, 0, 0, 0, 0, 0, 0, 0, 0, 0, 0, 0]))) ta_30 rfl rfl (Blk.cells (k := 17) (hS.box 0 rfl) rfl)), ?_⟩
 replace hS : St F (fr) h_2 := hS.perm2 [] 1 rfl rfl
 exact ⟨F, (false, mkB 16 [a, b, c, d, 0, 0, 0, 0, 0, 0, 0, 0, 0, 0, 0, 0]), rfl, hK, hS, hM⟩
def addr_Good_W (a : T_api_Addr) (Q : Bool → Prop) : Prop :=
 (a.1 = true → Q true) ∧ (a.1 = false → addr_Ip4_W (b8 a.2 0) (b8 a.2 1) (b8 a.2 2) (b8 a.2 3) (fun r_2 => Q (decide ((a : T_api_Addr) = r_2))))
theorem addr_Good_walk {F : Fz} {fr : List Ow} {h0 : Heap} (a : T_api_Addr) (hS : St F (fr) h0)  {Q : Bool → Prop} (hM : addr_Good_W a Q) :
  HC Try.prog 17 #[.agg (e_api_Addr a).toArray] h0 fun u h' => ∃ (F' : Fz) (r_1 : Bool), u = .bool r_1 ∧ Kp F h0 F' h' ∧ St F' (fr) h' ∧ Q r_1 := by
 unfold addr_Good_W at hM
 have hK := Kp.refl F h0
 refine HC.of_HW (n := 22) Try.func17 rfl rfl (Nat.le_of_ble_eq_true rfl) ?_
 refine HW.seq ?_
 refine HW.region ?_
 refine HO.eff (want_none) rfl (st_box (c := (e_api_Addr a).toArray) (k' := 17) hS rfl rfl) ?_
 rintro _ h_1 ⟨b_1, rfl, hS, hk⟩
 replace hK := hK.trans hk
 refine oA (.bool false) rfl rfl ?_
 refine HO.nil (thenQ_normal (?_))
 refine HW.seq ?_
 refine HW.regionA 20 mixed (fun h => (Blk h b_1 (.cells (e_api_Addr a).toArray 30 (0, 0)))) [] (by kernel_rfl) ?_
 refine HA.val (k := 0) (v := .pointer (some ⟨b_1, 0, none⟩)) rfl rfl (by kernel_rfl) (by kernel_rfl) (want_none) rfl (fun _ c201 => q_fieldAddr fa_30_0 rfl rfl) ?_
 refine HA.val (k := 1) (v := .bool a.1) rfl rfl (by kernel_rfl) (by kernel_rfl) (want_none) rfl (fun _ c201 => q_load to_4 rfl (Blk.cell c201 rfl)) ?_
 refine HA.val (k := 2) (v := .bool a.1) rfl rfl (by kernel_rfl) (by kernel_rfl) (want_none) rfl (fun _ c201 => q_move rfl) ?_
 rcases Bool.eq_false_or_eq_true a.1 with c_1 | c_1
 ·
  replace hM := hM.1 c_1
  refine HA.past (k := 3) rfl rfl (by kernel_rfl) (by kernel_rfl) (past_by rfl rfl c_1) rfl ?_
  refine HA.past (k := 4) rfl rfl (by kernel_rfl) (by kernel_rfl) (past_by rfl rfl c_1) rfl ?_
  refine HA.past (k := 5) rfl rfl (by kernel_rfl) (by kernel_rfl) (past_by rfl rfl c_1) rfl ?_
  refine HA.past (k := 6) rfl rfl (by kernel_rfl) (by kernel_rfl) (past_by rfl rfl c_1) rfl ?_
  refine HA.past (k := 7) rfl rfl (by kernel_rfl) (by kernel_rfl) (past_by rfl rfl c_1) rfl ?_
  refine HA.past (k := 8) rfl rfl (by kernel_rfl) (by kernel_rfl) (past_by rfl rfl c_1) rfl ?_
  refine HA.past (k := 9) rfl rfl (by kernel_rfl) (by kernel_rfl) (past_by rfl rfl c_1) rfl ?_
  refine HA.past (k := 10) rfl rfl (by kernel_rfl) (by kernel_rfl) (past_by rfl rfl c_1) rfl ?_
  refine HA.past (k := 11) rfl rfl (by kernel_rfl) (by kernel_rfl) (past_by rfl rfl c_1) rfl ?_
  refine HA.past (k := 12) rfl rfl (by kernel_rfl) (by kernel_rfl) (past_by rfl rfl c_1) rfl ?_
  refine HA.past (k := 13) rfl rfl (by kernel_rfl) (by kernel_rfl) (past_by rfl rfl c_1) rfl ?_
  refine HA.past (k := 14) rfl rfl (by kernel_rfl) (by kernel_rfl) (past_by rfl rfl c_1) rfl ?_
  refine HA.past (k := 15) rfl rfl (by kernel_rfl) (by kernel_rfl) (past_by rfl rfl c_1) rfl ?_
  refine HA.one (k := 16) ⟨(hS.box 0 rfl), (Go.Wk.at_nil _ _)⟩ (by kernel_rfl) ?_
  refine HS.past rfl (past_by rfl rfl c_1) rfl ?_
  refine HA.past (k := 17) rfl rfl (by kernel_rfl) (by kernel_rfl) (past_by rfl rfl c_1) rfl ?_
  refine HA.val (k := 18) (v := .bool true) rfl rfl (by kernel_rfl) (by kernel_rfl) (want_none) rfl (fun _ c201 => q_pickK true rfl c_1 rfl) ?_
  refine HA.val (k := 19) (v := .bool true) rfl rfl (by kernel_rfl) (by kernel_rfl) (want_none) rfl (fun _ c201 => q_assign rfl) ?_
  refine HA.nil ⟨(hS.box 0 rfl), (Go.Wk.at_nil _ _)⟩ (by kernel_rfl) (thenQ_normal (?_))
  refine HW.ret (?_)
  refine ⟨.inr rfl, .bool true, res1 rfl (rt rfl), ?_⟩
  replace hS : St F (fr) h_1 := hS.perm2 [] 1 rfl rfl
  exact ⟨F, true, rfl, hK, hS, hM⟩
 ·
  replace hM := hM.2 c_1
  refine HA.val (k := 3) (v := .agg (e_api_Addr a).toArray) rfl rfl (by kernel_rfl) (by kernel_rfl) (want_by rfl rfl c_1) rfl (fun _ c201 => q_loadAgg (cs := (e_api_Addr a)) ta_30 rfl rfl (Blk.cells (k := 17) c201 rfl)) ?_
  refine HA.val (k := 4) (v := .pointer (some ⟨b_1, 1, none⟩)) rfl rfl (by kernel_rfl) (by kernel_rfl) (want_by rfl rfl c_1) rfl (fun _ c201 => q_fieldAddr fa_30_1 rfl rfl) ?_
  refine HA.val (k := 5) (v := .pointer (some ⟨b_1, 1, none⟩)) rfl rfl (by kernel_rfl) (by kernel_rfl) (want_by rfl rfl c_1) rfl (fun _ c201 => q_idxA (o := 1) (t := 0) tr_28 rfl rfl ⟨by decide, by decide⟩) ?_
  refine HA.val (k := 6) (v := .int .u8 (b8 a.2 0)) rfl rfl (by kernel_rfl) (by kernel_rfl) (want_by rfl rfl c_1) rfl (fun _ c201 => q_load to_5 rfl (Blk.cell c201 rfl)) ?_
  refine HA.val (k := 7) (v := .pointer (some ⟨b_1, 1, none⟩)) rfl rfl (by kernel_rfl) (by kernel_rfl) (want_by rfl rfl c_1) rfl (fun _ c201 => q_fieldAddr fa_30_1 rfl rfl) ?_
  refine HA.val (k := 8) (v := .pointer (some ⟨b_1, 2, none⟩)) rfl rfl (by kernel_rfl) (by kernel_rfl) (want_by rfl rfl c_1) rfl (fun _ c201 => q_idxA (o := 1) (t := 1) tr_28 rfl rfl ⟨by decide, by decide⟩) ?_
  refine HA.val (k := 9) (v := .int .u8 (b8 a.2 1)) rfl rfl (by kernel_rfl) (by kernel_rfl) (want_by rfl rfl c_1) rfl (fun _ c201 => q_load to_5 rfl (Blk.cell c201 rfl)) ?_
  refine HA.val (k := 10) (v := .pointer (some ⟨b_1, 1, none⟩)) rfl rfl (by kernel_rfl) (by kernel_rfl) (want_by rfl rfl c_1) rfl (fun _ c201 => q_fieldAddr fa_30_1 rfl rfl) ?_
  refine HA.val (k := 11) (v := .pointer (some ⟨b_1, 3, none⟩)) rfl rfl (by kernel_rfl) (by kernel_rfl) (want_by rfl rfl c_1) rfl (fun _ c201 => q_idxA (o := 1) (t := 2) tr_28 rfl rfl ⟨by decide, by decide⟩) ?_
  refine HA.val (k := 12) (v := .int .u8 (b8 a.2 2)) rfl rfl (by kernel_rfl) (by kernel_rfl) (want_by rfl rfl c_1) rfl (fun _ c201 => q_load to_5 rfl (Blk.cell c201 rfl)) ?_
  refine HA.val (k := 13) (v := .pointer (some ⟨b_1, 1, none⟩)) rfl rfl (by kernel_rfl) (by kernel_rfl) (want_by rfl rfl c_1) rfl (fun _ c201 => q_fieldAddr fa_30_1 rfl rfl) ?_
  refine HA.val (k := 14) (v := .pointer (some ⟨b_1, 4, none⟩)) rfl rfl (by kernel_rfl) (by kernel_rfl) (want_by rfl rfl c_1) rfl (fun _ c201 => q_idxA (o := 1) (t := 3) tr_28 rfl rfl ⟨by decide, by decide⟩) ?_
  refine HA.val (k := 15) (v := .int .u8 (b8 a.2 3)) rfl rfl (by kernel_rfl) (by kernel_rfl) (want_by rfl rfl c_1) rfl (fun _ c201 => q_load to_5 rfl (Blk.cell c201 rfl)) ?_
  refine HA.one (k := 16) ⟨(hS.box 0 rfl), (Go.Wk.at_nil _ _)⟩ (by kernel_rfl) ?_
  refine HS.call rfl (want_by rfl rfl c_1) rfl (ec en_35 rfl rfl) (addr_Ip4_walk (fr := (Ow.box b_1 30 (e_api_Addr a).toArray :: fr)) (b8 a.2 0) (b8 a.2 1) (b8 a.2 2) (b8 a.2 3) hS hM) ?_
  rintro _ h_2 ⟨F_1, r_2, rfl, hk, hS, hM⟩
  replace hK := hK.trans hk
  refine HA.val (k := 17) (v := .bool (decide ((a : T_api_Addr) = r_2))) rfl rfl (by kernel_rfl) (by kernel_rfl) (want_by rfl rfl c_1) rfl (fun _ c201 => q_eqlAgg (a := a) (b := r_2) (fun a b w => teq_30 9997 a b w) (by kernel_rfl) rfl rfl rfl rfl) ?_
  refine HA.val (k := 18) (v := .bool (decide ((a : T_api_Addr) = r_2))) rfl rfl (by kernel_rfl) (by kernel_rfl) (want_none) rfl (fun _ c201 => q_pickK false rfl c_1 rfl) ?_
  refine HA.val (k := 19) (v := .bool (decide ((a : T_api_Addr) = r_2))) rfl rfl (by kernel_rfl) (by kernel_rfl) (want_none) rfl (fun _ c201 => q_assign rfl) ?_
  refine HA.nil ⟨(hS.box 0 rfl), (Go.Wk.at_nil _ _)⟩ (by kernel_rfl) (thenQ_normal (?_))
  refine HW.ret (?_)
  refine ⟨.inr rfl, .bool (decide ((a : T_api_Addr) = r_2)), res1 rfl (rt rfl), ?_⟩
  replace hS : St F_1 (fr) h_2 := hS.perm2 [] 1 rfl rfl
  exact ⟨F_1, decide ((a : T_api_Addr) = r_2), rfl, hK, hS, hM⟩
def addr_group_W (a : T_api_Addr) (Q : Bool → Prop) : Prop :=
 (a.1 = true → Q (decide ((b8 a.2 0) = 255))) ∧ (a.1 = false → Q (decide (((b8 a.2 0).fdiv (2 ^ (min (4 : Int).toNat IntKind.u8.bits))) = 14)))
theorem addr_group_walk {F : Fz} {fr : List Ow} {h0 : Heap} (a : T_api_Addr) (hS : St F (fr) h0)  {Q : Bool → Prop} (hM : addr_group_W a Q) :
  HC Try.prog 36 #[.agg (e_api_Addr a).toArray] h0 fun u h' => ∃ (F' : Fz) (r_1 : Bool), u = .bool r_1 ∧ Kp F h0 F' h' ∧ St F' (fr) h' ∧ Q r_1 := by
 unfold addr_group_W at hM
 have hK := Kp.refl F h0
 refine HC.of_HW (n := 14) Try.func36 rfl rfl (Nat.le_of_ble_eq_true rfl) ?_
 refine HW.seq ?_
 refine HW.region ?_
 refine HO.eff (want_none) rfl (st_box (c := (e_api_Addr a).toArray) (k' := 17) hS rfl rfl) ?_
 rintro _ h_1 ⟨b_1, rfl, hS, hk⟩
 replace hK := hK.trans hk
 refine oA (.bool false) rfl rfl ?_
 refine HO.nil (thenQ_normal (?_))
 refine HW.seq ?_
 refine HW.seq ?_
 refine HW.region ?_
 refine oV (.pointer (some ⟨b_1, 0, none⟩)) (q_fieldAddr fa_30_0 rfl rfl) rfl ?_
 refine oV (.bool a.1) (q_load to_4 rfl (Blk.cell (hS.box 0 rfl) rfl)) rfl ?_
 refine HO.nil (thenQ_normal (?_))
 refine HW.cond a.1 rfl (fun c_1 => ?_) (fun c_1 => ?_)
 ·
  replace hM := hM.1 c_1
  refine HW.seq ?_
  refine HW.region ?_
  refine oV (.pointer (some ⟨b_1, 1, none⟩)) (q_fieldAddr fa_30_1 rfl rfl) rfl ?_
  refine oV (.pointer (some ⟨b_1, 1, none⟩)) (q_idxA (o := 1) (t := 0) tr_28 rfl rfl ⟨by decide, by decide⟩) rfl ?_
  refine oV (.int .u8 (b8 a.2 0)) (q_load to_5 rfl (Blk.cell (hS.box 0 rfl) rfl)) rfl ?_
  refine oV (.bool (decide ((b8 a.2 0) = 255))) (q_eql rfl rfl) rfl ?_
  refine oA (.bool (decide ((b8 a.2 0) = 255))) rfl rfl ?_
  refine HO.nil (thenQ_normal (?_))
  refine HW.ret (thenQ_ret (?_))
  refine ⟨.inr rfl, .bool (decide ((b8 a.2 0) = 255)), res1 rfl (rt rfl), ?_⟩
  replace hS : St F (fr) h_1 := hS.perm2 [] 1 rfl rfl
  exact ⟨F, decide ((b8 a.2 0) = 255), rfl, hK, hS, hM⟩
 ·
  replace hM := hM.2 c_1
  refine HW.skip (thenQ_normal (?_))
  refine HW.seq ?_
  refine HW.region ?_
  refine oV (.pointer (some ⟨b_1, 1, none⟩)) (q_fieldAddr fa_30_1 rfl rfl) rfl ?_
  refine oV (.pointer (some ⟨b_1, 1, none⟩)) (q_idxA (o := 1) (t := 0) tr_28 rfl rfl ⟨by decide, by decide⟩) rfl ?_
  refine oV (.int .u8 (b8 a.2 0)) (q_load to_5 rfl (Blk.cell (hS.box 0 rfl) rfl)) rfl ?_
  refine oV (.int .u8 ((b8 a.2 0).fdiv (2 ^ (min (4 : Int).toNat IntKind.u8.bits)))) (q_shr rfl rfl (by decide) rfl) rfl ?_
  refine oV (.bool (decide (((b8 a.2 0).fdiv (2 ^ (min (4 : Int).toNat IntKind.u8.bits))) = 14))) (q_eql rfl rfl) rfl ?_
  refine oA (.bool (decide (((b8 a.2 0).fdiv (2 ^ (min (4 : Int).toNat IntKind.u8.bits))) = 14))) rfl rfl ?_
  refine HO.nil (thenQ_normal (?_))
  refine HW.ret (?_)
  refine ⟨.inr rfl, .bool (decide (((b8 a.2 0).fdiv (2 ^ (min (4 : Int).toNat IntKind.u8.bits))) = 14)), res1 rfl (rt rfl), ?_⟩
  replace hS : St F (fr) h_1 := hS.perm2 [] 1 rfl rfl
  exact ⟨F, decide (((b8 a.2 0).fdiv (2 ^ (min (4 : Int).toNat IntKind.u8.bits))) = 14), rfl, hK, hS, hM⟩
def addr_Group_W (a : T_api_Addr) (Q : Bool → Prop) : Prop :=
 addr_group_W a (fun r_2 => Q r_2)
theorem addr_Group_walk {F : Fz} {fr : List Ow} {h0 : Heap} (a : T_api_Addr) (hS : St F (fr) h0)  {Q : Bool → Prop} (hM : addr_Group_W a Q) :
  HC Try.prog 18 #[.agg (e_api_Addr a).toArray] h0 fun u h' => ∃ (F' : Fz) (r_1 : Bool), u = .bool r_1 ∧ Kp F h0 F' h' ∧ St F' (fr) h' ∧ Q r_1 := by
 unfold addr_Group_W at hM
 have hK := Kp.refl F h0
 refine HC.of_HW (n := 5) Try.func18 rfl rfl (Nat.le_of_ble_eq_true rfl) ?_
 refine HW.seq ?_
 refine HW.region ?_
 refine HO.eff (want_none) rfl (st_box (c := (e_api_Addr a).toArray) (k' := 17) hS rfl rfl) ?_
 rintro _ h_1 ⟨b_1, rfl, hS, hk⟩
 replace hK := hK.trans hk
 refine oA (.bool false) rfl rfl ?_
 refine HO.nil (thenQ_normal (?_))
 refine HW.seq ?_
 refine HW.region ?_
 refine oV (.agg (e_api_Addr a).toArray) (q_loadAgg (cs := (e_api_Addr a)) ta_30 rfl rfl (Blk.cells (k := 17) (hS.box 0 rfl) rfl)) rfl ?_
 refine HO.call (want_none) rfl (ec en_36 rfl rfl) (addr_group_walk (fr := (Ow.box b_1 30 (e_api_Addr a).toArray :: fr)) a hS hM) ?_
 rintro _ h_2 ⟨F_1, r_2, rfl, hk, hS, hM⟩
 replace hK := hK.trans hk
 refine oA (.bool r_2) rfl rfl ?_
 refine HO.nil (thenQ_normal (?_))
 refine HW.ret (?_)
 refine ⟨.inr rfl, .bool r_2, res1 rfl (rt rfl), ?_⟩
 replace hS : St F_1 (fr) h_2 := hS.perm2 [] 1 rfl rfl
 exact ⟨F_1, r_2, rfl, hK, hS, hM⟩
def internal_stringslite_HasPrefix_W (s1 : Str) (prefix1 : Str) (Q : Bool → Prop) : Prop :=
 ((prefix1.length : Int) ≤ (s1.length : Int) → ((0 : Int) ≤ (prefix1.length : Int) ∧ (prefix1.length : Int) ≤ (s1.length : Int)) ∧ (Q (decide ((cut s1 0 (prefix1.length : Int) : Str) = prefix1)))) ∧ (¬ ((prefix1.length : Int) ≤ (s1.length : Int)) → Q false)
theorem internal_stringslite_HasPrefix_walk {F : Fz} {fr : List Ow} {h0 : Heap} (s1 : Str) (prefix1 : Str) (hS : St F (fr) h0)  {Q : Bool → Prop} (hM : internal_stringslite_HasPrefix_W s1 prefix1 Q) :
  HC Try.prog 72 #[.string (bs s1), .string (bs prefix1)] h0 fun u h' => ∃ (F' : Fz) (r_1 : Bool), u = .bool r_1 ∧ Kp F h0 F' h' ∧ St F' (fr) h' ∧ Q r_1 := by
 unfold internal_stringslite_HasPrefix_W at hM
 have hK := Kp.refl F h0
 refine HC.of_HW (n := 18) Try.func72 rfl rfl (Nat.le_of_ble_eq_true rfl) ?_
 refine HW.seq ?_
 refine HW.region ?_
 refine oA (.bool false) rfl rfl ?_
 refine HO.nil (thenQ_normal (?_))
 refine HW.seq ?_
 refine HW.region ?_
 refine oM (.string (bs s1)) rfl rfl ?_
 refine oV (.int .i64 (s1.length : Int)) (q_lenT Try.underlying9 rfl rfl) rfl ?_
 refine oM (.string (bs prefix1)) rfl rfl ?_
 refine oV (.int .i64 (prefix1.length : Int)) (q_lenT Try.underlying9 rfl rfl) rfl ?_
 refine oV (.bool (decide ((prefix1.length : Int) ≤ (s1.length : Int)))) (q_geq rfl rfl) rfl ?_
 refine oM (.bool (decide ((prefix1.length : Int) ≤ (s1.length : Int)))) rfl rfl ?_
 rcases Bool.eq_false_or_eq_true (decide ((prefix1.length : Int) ≤ (s1.length : Int))) with c_1 | c_1
 ·
  replace hM := hM.1 (of_decide_eq_true c_1)
  refine HO.val (v := .string (bs s1)) (want_by rfl rfl c_1) rfl (q_move rfl) ?_
  refine HO.val (v := .string (bs prefix1)) (want_by rfl rfl c_1) rfl (q_move rfl) ?_
  refine HO.val (v := .int .i64 (prefix1.length : Int)) (want_by rfl rfl c_1) rfl (q_lenT Try.underlying9 rfl rfl) ?_
  obtain ⟨ho_1, hM⟩ := hM
  refine HO.val (v := .string (bs (cut s1 0 (prefix1.length : Int)))) (want_by rfl rfl c_1) rfl (q_strH Try.underlying9 rfl rfl ho_1) ?_
  refine HO.val (v := .string (bs prefix1)) (want_by rfl rfl c_1) rfl (q_move rfl) ?_
  refine HO.val (v := .bool (decide ((cut s1 0 (prefix1.length : Int) : Str) = prefix1))) (want_by rfl rfl c_1) rfl (q_eqlT rfl rfl) ?_
  refine oV (.bool (decide ((cut s1 0 (prefix1.length : Int) : Str) = prefix1))) (q_pickK true rfl c_1 rfl) rfl ?_
  refine oA (.bool (decide ((cut s1 0 (prefix1.length : Int) : Str) = prefix1))) rfl rfl ?_
  refine HO.nil (thenQ_normal (?_))
  refine HW.ret (?_)
  refine ⟨.inr rfl, .bool (decide ((cut s1 0 (prefix1.length : Int) : Str) = prefix1)), res1 rfl (rt rfl), ?_⟩
  exact ⟨F, decide ((cut s1 0 (prefix1.length : Int) : Str) = prefix1), rfl, hK, hS, hM⟩
 ·
  replace hM := hM.2 (of_decide_eq_false c_1)
  refine HO.past (past_by rfl rfl c_1) rfl ?_
  refine HO.past (past_by rfl rfl c_1) rfl ?_
  refine HO.past (past_by rfl rfl c_1) rfl ?_
  refine HO.past (past_by rfl rfl c_1) rfl ?_
  refine HO.past (past_by rfl rfl c_1) rfl ?_
  refine HO.past (past_by rfl rfl c_1) rfl ?_
  refine oV (.bool false) (q_pickK false rfl c_1 rfl) rfl ?_
  refine oA (.bool false) rfl rfl ?_
  refine HO.nil (thenQ_normal (?_))
  refine HW.ret (?_)
  refine ⟨.inr rfl, .bool false, res1 rfl (rt rfl), ?_⟩
  exact ⟨F, false, rfl, hK, hS, hM⟩
def strings_HasPrefix_W (s1 : Str) (prefix1 : Str) (Q : Bool → Prop) : Prop :=
 internal_stringslite_HasPrefix_W s1 prefix1 (fun r_2 => Q r_2)
theorem strings_HasPrefix_walk {F : Fz} {fr : List Ow} {h0 : Heap} (s1 : Str) (prefix1 : Str) (hS : St F (fr) h0)  {Q : Bool → Prop} (hM : strings_HasPrefix_W s1 prefix1 Q) :
  HC Try.prog 62 #[.string (bs s1), .string (bs prefix1)] h0 fun u h' => ∃ (F' : Fz) (r_1 : Bool), u = .bool r_1 ∧ Kp F h0 F' h' ∧ St F' (fr) h' ∧ Q r_1 := by
 unfold strings_HasPrefix_W at hM
 have hK := Kp.refl F h0
 refine HC.of_HW (n := 8) Try.func62 rfl rfl (Nat.le_of_ble_eq_true rfl) ?_
 refine HW.seq ?_
 refine HW.region ?_
 refine oA (.bool false) rfl rfl ?_
 refine HO.nil (thenQ_normal (?_))
 refine HW.seq ?_
 refine HW.region ?_
 refine oM (.string (bs s1)) rfl rfl ?_
 refine oM (.string (bs prefix1)) rfl rfl ?_
 refine HO.call (want_none) rfl (ec en_72 rfl rfl) (internal_stringslite_HasPrefix_walk (fr := (fr)) s1 prefix1 hS hM) ?_
 rintro _ h_1 ⟨F_1, r_2, rfl, hk, hS, hM⟩
 replace hK := hK.trans hk
 refine oA (.bool r_2) rfl rfl ?_
 refine HO.nil (thenQ_normal (?_))
 refine HW.ret (?_)
 refine ⟨.inr rfl, .bool r_2, res1 rfl (rt rfl), ?_⟩
 exact ⟨F_1, r_2, rfl, hK, hS, hM⟩
def addr_begins_W (a : T_api_Addr) (b : List UInt8) (Q : Bool → Prop) : Prop :=
 strings_HasPrefix_W (cut a.2.1 0 16) b (fun r_2 => Q r_2)
theorem addr_begins_walk {F : Fz} {fr : List Ow} {h0 : Heap} (a : T_api_Addr) (b : List UInt8) (vb : Value) (hS : St F (fr) h0) (hL_b : SliceF F h0 1 enc8 vb b) {Q : Bool → Prop} (hM : addr_begins_W a b Q) :
  HC Try.prog 52 #[.agg (e_api_Addr a).toArray, vb] h0 fun u h' => ∃ (F' : Fz) (r_1 : Bool), u = .bool r_1 ∧ Kp F h0 F' h' ∧ St F' (fr) h' ∧ (SliceF F' h' 1 enc8 vb b) ∧ Q r_1 := by
 unfold addr_begins_W at hM
 have hK := Kp.refl F h0
 refine HC.of_HW (n := 11) Try.func52 rfl rfl (Nat.le_of_ble_eq_true rfl) ?_
 refine HW.seq ?_
 refine HW.region ?_
 refine HO.eff (want_none) rfl (st_box (c := (e_api_Addr a).toArray) (k' := 17) hS rfl rfl) ?_
 rintro _ h_1 ⟨b_1, rfl, hS, hk⟩
 replace hK := hK.trans hk
 replace hL_b := hL_b.kp hk
 refine oA (.bool false) rfl rfl ?_
 refine HO.nil (thenQ_normal (?_))
 refine HW.seq ?_
 refine HW.regionA 7 mixed (fun h => (SliceIs h 1 enc8 vb b) ∧ (Blk h b_1 (.cells (e_api_Addr a).toArray 30 (0, 0)))) [] (by kernel_rfl) ?_
 refine HA.val (k := 0) (v := .pointer (some ⟨b_1, 1, none⟩)) rfl rfl (by kernel_rfl) (by kernel_rfl) (want_none) rfl (fun _ ⟨hL_b, c201⟩ => q_fieldAddr fa_30_1 rfl rfl) ?_
 refine HA.val (k := 1) (v := arrV b_1 1 16 0 16) rfl rfl (by kernel_rfl) (by kernel_rfl) (want_none) rfl (fun _ ⟨hL_b, c201⟩ => q_sliceA (o := 1) (lo := 0) (hi := 16) (kl := .i64) (kh := .i64) tr_28 rfl (.inl ⟨rfl, rfl⟩) (.inl ⟨rfl, rfl⟩) ⟨by decide, by decide, by decide⟩) ?_
 refine HA.val (k := 2) (v := .string (bs (cut a.2.1 0 16))) rfl rfl (by kernel_rfl) (by kernel_rfl) (want_none) rfl (fun _ ⟨hL_b, c201⟩ => q_bytesStr ts_94 Try.underlying5 Try.underlying9 (arrSl (o := 1) (n := 16) (X := a.2) (lo := 0) (hi := 16) c201 rfl ⟨by decide, by decide, by decide⟩ (by decide)) rfl) ?_
 refine HA.val (k := 3) (v := vb) rfl rfl (by kernel_rfl) (by kernel_rfl) (want_none) rfl (fun _ ⟨hL_b, c201⟩ => q_move rfl) ?_
 refine HA.val (k := 4) (v := .string (bs b)) rfl rfl (by kernel_rfl) (by kernel_rfl) (want_none) rfl (fun _ ⟨hL_b, c201⟩ => q_bytesStr ts_94 Try.underlying5 Try.underlying9 hL_b rfl) ?_
 refine HA.one (k := 5) ⟨⟨hL_b.is, (hS.box 0 rfl)⟩, (Go.Wk.at_nil _ _)⟩ (by kernel_rfl) ?_
 refine HS.call rfl (want_none) rfl (ec en_62 rfl rfl) (strings_HasPrefix_walk (fr := (Ow.box b_1 30 (e_api_Addr a).toArray :: fr)) (cut a.2.1 0 16) b hS hM) ?_
 rintro _ h_2 ⟨F_1, r_2, rfl, hk, hS, hM⟩
 replace hK := hK.trans hk
 replace hL_b := hL_b.kp hk
 refine HA.val (k := 6) (v := .bool r_2) rfl rfl (by kernel_rfl) (by kernel_rfl) (want_none) rfl (fun _ ⟨hL_b, c201⟩ => q_assign rfl) ?_
 refine HA.nil ⟨⟨hL_b.is, (hS.box 0 rfl)⟩, (Go.Wk.at_nil _ _)⟩ (by kernel_rfl) (thenQ_normal (?_))
 refine HW.ret (?_)
 refine ⟨.inr rfl, .bool r_2, res1 rfl (rt rfl), ?_⟩
 replace hS : St F_1 (fr) h_2 := hS.perm2 [] 1 rfl rfl
 exact ⟨F_1, r_2, rfl, hK, hS, hL_b, hM⟩
def addr_scope_W (a : T_api_Addr) (Q : Int → Prop) : Prop :=
 addr_group_W a (fun r_2 => ((!r_2) = true → Q 0) ∧ ((!r_2) = false → (a.1 = true → (I64 (bits .and .u8 (b8 a.2 1) 15)) ∧ (Q (bits .and .u8 (b8 a.2 1) 15))) ∧ (a.1 = false → addr_begins_W a ([(224 : UInt8), (0 : UInt8), (0 : UInt8)] : List UInt8) (fun r_3 => (r_3 = true → Q 2) ∧ (r_3 = false → addr_begins_W a ([(239 : UInt8), (255 : UInt8)] : List UInt8) (fun r_4 => (r_4 = true → Q 3) ∧ (r_4 = false → ((b8 a.2 0) = 239 → (((b8 a.2 1).fdiv (2 ^ (min (2 : Int).toNat IntKind.u8.bits))) = 48 → Q 8) ∧ (¬ (((b8 a.2 1).fdiv (2 ^ (min (2 : Int).toNat IntKind.u8.bits))) = 48) → Q 14)) ∧ (¬ ((b8 a.2 0) = 239) → Q 14))))))))
theorem addr_scope_walk {F : Fz} {fr : List Ow} {h0 : Heap} (a : T_api_Addr) (hS : St F (fr) h0)  {Q : Int → Prop} (hM : addr_scope_W a Q) :
  HC Try.prog 37 #[.agg (e_api_Addr a).toArray] h0 fun u h' => ∃ (F' : Fz) (r_1 : Int), u = .int .i64 r_1 ∧ Kp F h0 F' h' ∧ St F' (fr) h' ∧ Q r_1 := by
 unfold addr_scope_W at hM
 have hK := Kp.refl F h0
 refine HC.of_HW (n := 35) Try.func37 rfl rfl (Nat.le_of_ble_eq_true rfl) ?_
 refine HW.seq ?_
 refine HW.region ?_
 refine HO.eff (want_none) rfl (st_box (c := (e_api_Addr a).toArray) (k' := 17) hS rfl rfl) ?_
 rintro _ h_1 ⟨b_1, rfl, hS, hk⟩
 replace hK := hK.trans hk
 refine oA (.int .i64 0) rfl rfl ?_
 refine HO.nil (thenQ_normal (?_))
 refine HW.seq ?_
 refine HW.block ?_
 refine HW.seq ?_
 refine HW.region ?_
 refine oV (.agg (e_api_Addr a).toArray) (q_loadAgg (cs := (e_api_Addr a)) ta_30 rfl rfl (Blk.cells (k := 17) (hS.box 0 rfl) rfl)) rfl ?_
 refine HO.call (want_none) rfl (ec en_36 rfl rfl) (addr_group_walk (fr := (Ow.box b_1 30 (e_api_Addr a).toArray :: fr)) a hS hM) ?_
 rintro _ h_2 ⟨F_1, r_2, rfl, hk, hS, hM⟩
 replace hK := hK.trans hk
 refine oV (.bool (!r_2)) (q_not rfl) rfl ?_
 refine oA (.bool (!r_2)) rfl rfl ?_
 refine HO.nil (thenQ_normal (?_))
 refine HW.cond (!r_2) rfl (fun c_1 => ?_) (fun c_1 => ?_)
 ·
  replace hM := hM.1 c_1
  refine HW.seq ?_
  refine HW.region ?_
  refine oA (.int .i64 0) rfl rfl ?_
  refine HO.nil (thenQ_normal (?_))
  refine HW.ret (blockQ_ret (thenQ_ret (?_)))
  refine ⟨.inr rfl, .int .i64 0, res1 rfl (rt rfl), ?_⟩
  replace hS : St F_1 (fr) h_2 := hS.perm2 [] 1 rfl rfl
  exact ⟨F_1, 0, rfl, hK, hS, hM⟩
 ·
  replace hM := hM.2 c_1
  refine HW.seq ?_
  refine HW.region ?_
  refine oV (.pointer (some ⟨b_1, 0, none⟩)) (q_fieldAddr fa_30_0 rfl rfl) rfl ?_
  refine oV (.bool a.1) (q_load to_4 rfl (Blk.cell (hS.box 0 rfl) rfl)) rfl ?_
  refine oA (.bool a.1) rfl rfl ?_
  refine HO.nil (thenQ_normal (?_))
  refine HW.cond a.1 rfl (fun c_2 => ?_) (fun c_2 => ?_)
  ·
   replace hM := hM.1 c_2
   refine HW.seq ?_
   refine HW.region ?_
   refine oV (.pointer (some ⟨b_1, 1, none⟩)) (q_fieldAddr fa_30_1 rfl rfl) rfl ?_
   refine oV (.pointer (some ⟨b_1, 2, none⟩)) (q_idxA (o := 1) (t := 1) tr_28 rfl rfl ⟨by decide, by decide⟩) rfl ?_
   refine oV (.int .u8 (b8 a.2 1)) (q_load to_5 rfl (Blk.cell (hS.box 0 rfl) rfl)) rfl ?_
   refine oV (.int .u8 (bits .and .u8 (b8 a.2 1) 15)) (q_bits (by simp) rfl rfl) rfl ?_
   obtain ⟨ho_1, hM⟩ := hM
   refine oV (.int .i64 (bits .and .u8 (b8 a.2 1) 15)) (q_convInt Try.underlying5 Try.underlying3 rfl (wrap_i64 ho_1.1 ho_1.2)) rfl ?_
   refine oA (.int .i64 (bits .and .u8 (b8 a.2 1) 15)) rfl rfl ?_
   refine HO.nil (thenQ_normal (?_))
   refine HW.ret (blockQ_ret (thenQ_ret (?_)))
   refine ⟨.inr rfl, .int .i64 (bits .and .u8 (b8 a.2 1) 15), res1 rfl (rt rfl), ?_⟩
   replace hS : St F_1 (fr) h_2 := hS.perm2 [] 1 rfl rfl
   exact ⟨F_1, bits .and .u8 (b8 a.2 1) 15, rfl, hK, hS, hM⟩
  ·
   replace hM := hM.2 c_2
   refine HW.seq ?_
   refine HW.region ?_
   refine oV (.agg (e_api_Addr a).toArray) (q_loadAgg (cs := (e_api_Addr a)) ta_30 rfl rfl (Blk.cells (k := 17) (hS.box 0 rfl) rfl)) rfl ?_
   refine HO.eff (want_none) rfl (st_lit (enc := enc8) (cells := #[.int .u8 224, .int .u8 0, .int .u8 0]) #[.int .u8 0, .int .u8 0, .int .u8 0] ([(224 : UInt8), (0 : UInt8), (0 : UInt8)] : List UInt8) hS tl_94 (by decide) (by decide) (by kernel_rfl) (by kernel_rfl) rfl (by intro x hx; rfl) rfl) ?_
   rintro _ h_3 ⟨b_2, rfl, hS, hk⟩
   replace hK := hK.trans hk
   replace hS : St F_1 (Ow.own 5 1 enc8 (.slice (some ⟨b_2, 0, none⟩) 3 3) ([(224 : UInt8), (0 : UInt8), (0 : UInt8)] : List UInt8) :: Ow.box b_1 30 (e_api_Addr a).toArray :: fr) h_3 := hS
   have hZ_1 := hS
   have hkz_1 := (hS.freeze).2
   replace hS := hS.freeze.1
   have hL_1 : SliceF (fun bz_ => F_1 bz_ ∨ (Ow.own 5 1 enc8 (.slice (some ⟨b_2, 0, none⟩) 3 3) ([(224 : UInt8), (0 : UInt8), (0 : UInt8)] : List UInt8)).foot bz_) h_3 1 enc8 (.slice (some ⟨b_2, 0, none⟩) 3 3) ([(224 : UInt8), (0 : UInt8), (0 : UInt8)] : List UInt8) := ⟨(hZ_1.own 0 rfl).slice, fun _ b hb => .inr hb⟩
   refine HO.call (want_none) rfl (ec en_52 rfl rfl) (addr_begins_walk (fr := (Ow.box b_1 30 (e_api_Addr a).toArray :: fr)) a ([(224 : UInt8), (0 : UInt8), (0 : UInt8)] : List UInt8) (.slice (some ⟨b_2, 0, none⟩) 3 3) hS hL_1 hM) ?_
   rintro _ h_4 ⟨F_2, r_3, rfl, hk, hS, _, hM⟩
   obtain ⟨hS, hk⟩ := hZ_1.back hk hS
   generalize (fun bz_ => F_2 bz_ ∧ ¬ (Ow.own 5 1 enc8 (.slice (some ⟨b_2, 0, none⟩) 3 3) ([(224 : UInt8), (0 : UInt8), (0 : UInt8)] : List UInt8)).foot bz_) = F_3 at hS hk
   replace hK := hK.trans hk
   refine oA (.bool r_3) rfl rfl ?_
   refine HO.nil (thenQ_normal (?_))
   refine HW.cond r_3 rfl (fun c_3 => ?_) (fun c_3 => ?_)
   ·
    replace hM := hM.1 c_3
    refine HW.seq ?_
    refine HW.region ?_
    refine oA (.int .i64 2) rfl rfl ?_
    refine HO.nil (thenQ_normal (?_))
    refine HW.ret (blockQ_ret (thenQ_ret (?_)))
    refine ⟨.inr rfl, .int .i64 2, res1 rfl (rt rfl), ?_⟩
    replace hS : St F_3 (fr) h_4 := hS.perm2 [] 2 rfl rfl
    exact ⟨F_3, 2, rfl, hK, hS, hM⟩
   ·
    replace hM := hM.2 c_3
    refine HW.seq ?_
    refine HW.region ?_
    refine oV (.agg (e_api_Addr a).toArray) (q_loadAgg (cs := (e_api_Addr a)) ta_30 rfl rfl (Blk.cells (k := 17) (hS.box 1 rfl) rfl)) rfl ?_
    refine HO.eff (want_none) rfl (st_lit (enc := enc8) (cells := #[.int .u8 239, .int .u8 255]) #[.int .u8 0, .int .u8 0] ([(239 : UInt8), (255 : UInt8)] : List UInt8) hS tl_94 (by decide) (by decide) (by kernel_rfl) (by kernel_rfl) rfl (by intro x hx; rfl) rfl) ?_
    rintro _ h_5 ⟨b_3, rfl, hS, hk⟩
    replace hK := hK.trans hk
    replace hS : St F_3 (Ow.own 5 1 enc8 (.slice (some ⟨b_3, 0, none⟩) 2 2) ([(239 : UInt8), (255 : UInt8)] : List UInt8) :: Ow.own 5 1 enc8 (.slice (some ⟨b_2, 0, none⟩) 3 3) ([(224 : UInt8), (0 : UInt8), (0 : UInt8)] : List UInt8) :: Ow.box b_1 30 (e_api_Addr a).toArray :: fr) h_5 := hS
    have hZ_2 := hS
    have hkz_2 := (hS.freeze).2
    replace hS := hS.freeze.1
    have hL_2 : SliceF (fun bz_ => F_3 bz_ ∨ (Ow.own 5 1 enc8 (.slice (some ⟨b_3, 0, none⟩) 2 2) ([(239 : UInt8), (255 : UInt8)] : List UInt8)).foot bz_) h_5 1 enc8 (.slice (some ⟨b_3, 0, none⟩) 2 2) ([(239 : UInt8), (255 : UInt8)] : List UInt8) := ⟨(hZ_2.own 0 rfl).slice, fun _ b hb => .inr hb⟩
    refine HO.call (want_none) rfl (ec en_52 rfl rfl) (addr_begins_walk (fr := (Ow.own 5 1 enc8 (.slice (some ⟨b_2, 0, none⟩) 3 3) ([(224 : UInt8), (0 : UInt8), (0 : UInt8)] : List UInt8) :: Ow.box b_1 30 (e_api_Addr a).toArray :: fr)) a ([(239 : UInt8), (255 : UInt8)] : List UInt8) (.slice (some ⟨b_3, 0, none⟩) 2 2) hS hL_2 hM) ?_
    rintro _ h_6 ⟨F_4, r_4, rfl, hk, hS, _, hM⟩
    obtain ⟨hS, hk⟩ := hZ_2.back hk hS
    generalize (fun bz_ => F_4 bz_ ∧ ¬ (Ow.own 5 1 enc8 (.slice (some ⟨b_3, 0, none⟩) 2 2) ([(239 : UInt8), (255 : UInt8)] : List UInt8)).foot bz_) = F_5 at hS hk
    replace hK := hK.trans hk
    refine oA (.bool r_4) rfl rfl ?_
    refine HO.nil (thenQ_normal (?_))
    refine HW.cond r_4 rfl (fun c_4 => ?_) (fun c_4 => ?_)
    ·
     replace hM := hM.1 c_4
     refine HW.seq ?_
     refine HW.region ?_
     refine oA (.int .i64 3) rfl rfl ?_
     refine HO.nil (thenQ_normal (?_))
     refine HW.ret (blockQ_ret (thenQ_ret (?_)))
     refine ⟨.inr rfl, .int .i64 3, res1 rfl (rt rfl), ?_⟩
     replace hS : St F_5 (fr) h_6 := hS.perm2 [] 3 rfl rfl
     exact ⟨F_5, 3, rfl, hK, hS, hM⟩
    ·
     replace hM := hM.2 c_4
     refine HW.seq ?_
     refine HW.region ?_
     refine oV (.pointer (some ⟨b_1, 1, none⟩)) (q_fieldAddr fa_30_1 rfl rfl) rfl ?_
     refine oV (.pointer (some ⟨b_1, 1, none⟩)) (q_idxA (o := 1) (t := 0) tr_28 rfl rfl ⟨by decide, by decide⟩) rfl ?_
     refine oV (.int .u8 (b8 a.2 0)) (q_load to_5 rfl (Blk.cell (hS.box 2 rfl) rfl)) rfl ?_
     refine oV (.bool (decide ((b8 a.2 0) = 239))) (q_eql rfl rfl) rfl ?_
     refine oM (.bool (decide ((b8 a.2 0) = 239))) rfl rfl ?_
     rcases Bool.eq_false_or_eq_true (decide ((b8 a.2 0) = 239)) with c_5 | c_5
     ·
      replace hM := hM.1 (of_decide_eq_true c_5)
      refine HO.val (v := .pointer (some ⟨b_1, 1, none⟩)) (want_by rfl rfl c_5) rfl (q_fieldAddr fa_30_1 rfl rfl) ?_
      refine HO.val (v := .pointer (some ⟨b_1, 2, none⟩)) (want_by rfl rfl c_5) rfl (q_idxA (o := 1) (t := 1) tr_28 rfl rfl ⟨by decide, by decide⟩) ?_
      refine HO.val (v := .int .u8 (b8 a.2 1)) (want_by rfl rfl c_5) rfl (q_load to_5 rfl (Blk.cell (hS.box 2 rfl) rfl)) ?_
      refine HO.val (v := .int .u8 ((b8 a.2 1).fdiv (2 ^ (min (2 : Int).toNat IntKind.u8.bits)))) (want_by rfl rfl c_5) rfl (q_shr rfl rfl (by decide) rfl) ?_
      refine HO.val (v := .bool (decide (((b8 a.2 1).fdiv (2 ^ (min (2 : Int).toNat IntKind.u8.bits))) = 48))) (want_by rfl rfl c_5) rfl (q_eql rfl rfl) ?_
      refine oV (.bool (decide (((b8 a.2 1).fdiv (2 ^ (min (2 : Int).toNat IntKind.u8.bits))) = 48))) (q_pickK true rfl c_5 rfl) rfl ?_
      refine oA (.bool (decide (((b8 a.2 1).fdiv (2 ^ (min (2 : Int).toNat IntKind.u8.bits))) = 48))) rfl rfl ?_
      refine HO.nil (thenQ_normal (?_))
      refine HW.cond (decide (((b8 a.2 1).fdiv (2 ^ (min (2 : Int).toNat IntKind.u8.bits))) = 48)) rfl (fun c_6 => ?_) (fun c_6 => ?_)
      ·
       replace hM := hM.1 (of_decide_eq_true c_6)
       refine HW.seq ?_
       refine HW.region ?_
       refine oA (.int .i64 8) rfl rfl ?_
       refine HO.nil (thenQ_normal (?_))
       refine HW.ret (blockQ_ret (thenQ_ret (?_)))
       refine ⟨.inr rfl, .int .i64 8, res1 rfl (rt rfl), ?_⟩
       replace hS : St F_5 (fr) h_6 := hS.perm2 [] 3 rfl rfl
       exact ⟨F_5, 8, rfl, hK, hS, hM⟩
      ·
       replace hM := hM.2 (of_decide_eq_false c_6)
       refine HW.skip (blockQ_normal (thenQ_normal (?_)))
       refine HW.seq ?_
       refine HW.region ?_
       refine oA (.int .i64 14) rfl rfl ?_
       refine HO.nil (thenQ_normal (?_))
       refine HW.ret (?_)
       refine ⟨.inr rfl, .int .i64 14, res1 rfl (rt rfl), ?_⟩
       replace hS : St F_5 (fr) h_6 := hS.perm2 [] 3 rfl rfl
       exact ⟨F_5, 14, rfl, hK, hS, hM⟩
     ·
      replace hM := hM.2 (of_decide_eq_false c_5)
      refine HO.past (past_by rfl rfl c_5) rfl ?_
      refine HO.past (past_by rfl rfl c_5) rfl ?_
      refine HO.past (past_by rfl rfl c_5) rfl ?_
      refine HO.past (past_by rfl rfl c_5) rfl ?_
      refine HO.past (past_by rfl rfl c_5) rfl ?_
      refine oV (.bool false) (q_pickK false rfl c_5 rfl) rfl ?_
      refine oA (.bool false) rfl rfl ?_
      refine HO.nil (thenQ_normal (?_))
      refine HW.condF rfl ?_
      refine HW.skip (blockQ_normal (thenQ_normal (?_)))
      refine HW.seq ?_
      refine HW.region ?_
      refine oA (.int .i64 14) rfl rfl ?_
      refine HO.nil (thenQ_normal (?_))
      refine HW.ret (?_)
      refine ⟨.inr rfl, .int .i64 14, res1 rfl (rt rfl), ?_⟩
      replace hS : St F_5 (fr) h_6 := hS.perm2 [] 3 rfl rfl
      exact ⟨F_5, 14, rfl, hK, hS, hM⟩
def addr_Local_W (a : T_api_Addr) (Q : Bool → Prop) : Prop :=
 addr_group_W a (fun r_2 => (r_2 = true → addr_scope_W a (fun r_3 => Q (decide (r_3 ≤ 2)))) ∧ (r_2 = false → Q false))
theorem addr_Local_walk {F : Fz} {fr : List Ow} {h0 : Heap} (a : T_api_Addr) (hS : St F (fr) h0)  {Q : Bool → Prop} (hM : addr_Local_W a Q) :
  HC Try.prog 19 #[.agg (e_api_Addr a).toArray] h0 fun u h' => ∃ (F' : Fz) (r_1 : Bool), u = .bool r_1 ∧ Kp F h0 F' h' ∧ St F' (fr) h' ∧ Q r_1 := by
 unfold addr_Local_W at hM
 have hK := Kp.refl F h0
 refine HC.of_HW (n := 10) Try.func19 rfl rfl (Nat.le_of_ble_eq_true rfl) ?_
 refine HW.seq ?_
 refine HW.region ?_
 refine HO.eff (want_none) rfl (st_box (c := (e_api_Addr a).toArray) (k' := 17) hS rfl rfl) ?_
 rintro _ h_1 ⟨b_1, rfl, hS, hk⟩
 replace hK := hK.trans hk
 refine oA (.bool false) rfl rfl ?_
 refine HO.nil (thenQ_normal (?_))
 refine HW.seq ?_
 refine HW.region ?_
 refine oV (.agg (e_api_Addr a).toArray) (q_loadAgg (cs := (e_api_Addr a)) ta_30 rfl rfl (Blk.cells (k := 17) (hS.box 0 rfl) rfl)) rfl ?_
 refine HO.call (want_none) rfl (ec en_36 rfl rfl) (addr_group_walk (fr := (Ow.box b_1 30 (e_api_Addr a).toArray :: fr)) a hS hM) ?_
 rintro _ h_2 ⟨F_1, r_2, rfl, hk, hS, hM⟩
 replace hK := hK.trans hk
 refine oM (.bool r_2) rfl rfl ?_
 rcases Bool.eq_false_or_eq_true r_2 with c_1 | c_1
 ·
  replace hM := hM.1 c_1
  refine HO.val (v := .agg (e_api_Addr a).toArray) (want_by rfl rfl c_1) rfl (q_loadAgg (cs := (e_api_Addr a)) ta_30 rfl rfl (Blk.cells (k := 17) (hS.box 0 rfl) rfl)) ?_
  refine HO.call (want_by rfl rfl c_1) rfl (ec en_37 rfl rfl) (addr_scope_walk (fr := (Ow.box b_1 30 (e_api_Addr a).toArray :: fr)) a hS hM) ?_
  rintro _ h_3 ⟨F_2, r_3, rfl, hk, hS, hM⟩
  replace hK := hK.trans hk
  refine HO.val (v := .bool (decide (r_3 ≤ 2))) (want_by rfl rfl c_1) rfl (q_leq rfl rfl) ?_
  refine oV (.bool (decide (r_3 ≤ 2))) (q_pickK true rfl c_1 rfl) rfl ?_
  refine oA (.bool (decide (r_3 ≤ 2))) rfl rfl ?_
  refine HO.nil (thenQ_normal (?_))
  refine HW.ret (?_)
  refine ⟨.inr rfl, .bool (decide (r_3 ≤ 2)), res1 rfl (rt rfl), ?_⟩
  replace hS : St F_2 (fr) h_3 := hS.perm2 [] 1 rfl rfl
  exact ⟨F_2, decide (r_3 ≤ 2), rfl, hK, hS, hM⟩
 ·
  replace hM := hM.2 c_1
  refine HO.past (past_by rfl rfl c_1) rfl ?_
  refine HO.past (past_by rfl rfl c_1) rfl ?_
  refine HO.past (past_by rfl rfl c_1) rfl ?_
  refine oV (.bool false) (q_pickK false rfl c_1 rfl) rfl ?_
  refine oA (.bool false) rfl rfl ?_
  refine HO.nil (thenQ_normal (?_))
  refine HW.ret (?_)
  refine ⟨.inr rfl, .bool false, res1 rfl (rt rfl), ?_⟩
  replace hS : St F_1 (fr) h_2 := hS.perm2 [] 1 rfl rfl
  exact ⟨F_1, false, rfl, hK, hS, hM⟩
def host_Host_kind_1_W (a : T_api_Addr) (c0_v_v6 : Bool) (c0_v_now : Int) (c0_v_want : List (T_api_Addr × T_api_Filter)) (c0_v_one : Int) (c0_v_two : Int) (Q : Bool → Prop) : Prop :=
 Q (!(a.1 == c0_v_v6))
theorem host_Host_kind_1_walk {F : Fz} {fr : List Ow} {h0 : Heap} (a : T_api_Addr) (c0_v_v6 : Bool) (c0_v_now : Int) (c0_v_want : List (T_api_Addr × T_api_Filter)) (c0_v_one : Int) (c0_v_two : Int) (bc0 : Nat) (bc0_v : Nat) (rc0_v_want : Nat) (hS : St F (fr) h0) (hN_c0_v_want : NfL nf_api_Filter F h0 (c0_v_want.map (·.2))) (hM_rc0_v_want : RoF (Ow.map rc0_v_want (fun (x : T_api_Addr) => .agg (e_api_Addr x).toArray) (fun (x : T_api_Filter) => .agg #[.bool x.1, x.2.1]) c0_v_want) F h0) (hB_bc0_v : RoF (Ow.box bc0_v 52 #[.bool c0_v_v6, .int .i64 c0_v_now, .map (some rc0_v_want), .int .i64 c0_v_one, .int .i64 c0_v_two]) F h0) (hB_bc0 : RoF (Ow.box bc0 22 #[.pointer (some ⟨bc0_v, 0, none⟩)]) F h0) {Q : Bool → Prop} (hM : host_Host_kind_1_W a c0_v_v6 c0_v_now c0_v_want c0_v_one c0_v_two Q) :
  HC Try.prog 39 #[.agg (e_api_Addr a).toArray, .pointer (some ⟨bc0, 0, none⟩)] h0 fun u h' => ∃ (F' : Fz) (r_1 : Bool), u = .bool r_1 ∧ Kp F h0 F' h' ∧ St F' (fr) h' ∧ (NfL nf_api_Filter F' h' (c0_v_want.map (·.2))) ∧ (RoF (Ow.map rc0_v_want (fun (x : T_api_Addr) => .agg (e_api_Addr x).toArray) (fun (x : T_api_Filter) => .agg #[.bool x.1, x.2.1]) c0_v_want) F' h') ∧ (RoF (Ow.box bc0_v 52 #[.bool c0_v_v6, .int .i64 c0_v_now, .map (some rc0_v_want), .int .i64 c0_v_one, .int .i64 c0_v_two]) F' h') ∧ (RoF (Ow.box bc0 22 #[.pointer (some ⟨bc0_v, 0, none⟩)]) F' h') ∧ Q r_1 := by
 unfold host_Host_kind_1_W at hM
 have hK := Kp.refl F h0
 refine HC.of_HW (n := 11) Try.func39 rfl rfl (Nat.le_of_ble_eq_true rfl) ?_
 refine HW.seq ?_
 refine HW.region ?_
 refine HO.eff (want_none) rfl (st_box (c := (e_api_Addr a).toArray) (k' := 17) hS rfl rfl) ?_
 rintro _ h_1 ⟨b_1, rfl, hS, hk⟩
 replace hK := hK.trans hk
 replace hN_c0_v_want := hN_c0_v_want.kp hk
 replace hM_rc0_v_want := hM_rc0_v_want.kp hk
 replace hB_bc0_v := hB_bc0_v.kp hk
 replace hB_bc0 := hB_bc0.kp hk
 refine oA (.bool false) rfl rfl ?_
 refine HO.nil (thenQ_normal (?_))
 refine HW.seq ?_
 refine HW.regionA 8 mixed (fun h => (NfI nf_api_Filter h (c0_v_want.map (·.2))) ∧ (MapIs h rc0_v_want (fun (x : T_api_Addr) => .agg (e_api_Addr x).toArray) (fun (x : T_api_Filter) => .agg #[.bool x.1, x.2.1]) c0_v_want) ∧ (Blk h bc0_v (.cells #[.bool c0_v_v6, .int .i64 c0_v_now, .map (some rc0_v_want), .int .i64 c0_v_one, .int .i64 c0_v_two] 52 (0, 0))) ∧ (Blk h bc0 (.cells #[.pointer (some ⟨bc0_v, 0, none⟩)] 22 (0, 0))) ∧ (Blk h b_1 (.cells (e_api_Addr a).toArray 30 (0, 0)))) [] (by kernel_rfl) ?_
 refine HA.val (k := 0) (v := .pointer (some ⟨b_1, 0, none⟩)) rfl rfl (by kernel_rfl) (by kernel_rfl) (want_none) rfl (fun _ ⟨hN_c0_v_want, hM_rc0_v_want, hB_bc0_v, hB_bc0, c201⟩ => q_fieldAddr fa_30_0 rfl rfl) ?_
 refine HA.val (k := 1) (v := .bool a.1) rfl rfl (by kernel_rfl) (by kernel_rfl) (want_none) rfl (fun _ ⟨hN_c0_v_want, hM_rc0_v_want, hB_bc0_v, hB_bc0, c201⟩ => q_load to_4 rfl (Blk.cell c201 rfl)) ?_
 refine HA.val (k := 2) (v := .pointer (some ⟨bc0_v, 0, none⟩)) rfl rfl (by kernel_rfl) (by kernel_rfl) (want_none) rfl (fun _ ⟨hN_c0_v_want, hM_rc0_v_want, hB_bc0_v, hB_bc0, c201⟩ => q_load to_22 rfl (Blk.cell hB_bc0 rfl)) ?_
 refine HA.val (k := 3) (v := .pointer (some ⟨bc0_v, 0, none⟩)) rfl rfl (by kernel_rfl) (by kernel_rfl) (want_none) rfl (fun _ ⟨hN_c0_v_want, hM_rc0_v_want, hB_bc0_v, hB_bc0, c201⟩ => q_nilCheck rfl) ?_
 refine HA.val (k := 4) (v := .pointer (some ⟨bc0_v, 0, none⟩)) rfl rfl (by kernel_rfl) (by kernel_rfl) (want_none) rfl (fun _ ⟨hN_c0_v_want, hM_rc0_v_want, hB_bc0_v, hB_bc0, c201⟩ => q_fieldAddr fa_52_0 rfl rfl) ?_
 refine HA.val (k := 5) (v := .bool c0_v_v6) rfl rfl (by kernel_rfl) (by kernel_rfl) (want_none) rfl (fun _ ⟨hN_c0_v_want, hM_rc0_v_want, hB_bc0_v, hB_bc0, c201⟩ => q_load to_4 rfl (Blk.cell hB_bc0_v rfl)) ?_
 refine HA.val (k := 6) (v := .bool (!(a.1 == c0_v_v6))) rfl rfl (by kernel_rfl) (by kernel_rfl) (want_none) rfl (fun _ ⟨hN_c0_v_want, hM_rc0_v_want, hB_bc0_v, hB_bc0, c201⟩ => q_neqB Try.underlying4 rfl rfl) ?_
 refine HA.val (k := 7) (v := .bool (!(a.1 == c0_v_v6))) rfl rfl (by kernel_rfl) (by kernel_rfl) (want_none) rfl (fun _ ⟨hN_c0_v_want, hM_rc0_v_want, hB_bc0_v, hB_bc0, c201⟩ => q_assign rfl) ?_
 refine HA.nil ⟨⟨hN_c0_v_want.is, hM_rc0_v_want.mp, hB_bc0_v.box, hB_bc0.box, (hS.box 0 rfl)⟩, (Go.Wk.at_nil _ _)⟩ (by kernel_rfl) (thenQ_normal (?_))
 refine HW.ret (?_)
 refine ⟨.inr rfl, .bool (!(a.1 == c0_v_v6)), res1 rfl (rt rfl), ?_⟩
 replace hS : St F (fr) h_1 := hS.perm2 [] 1 rfl rfl
 exact ⟨F, !(a.1 == c0_v_v6), rfl, hK, hS, hN_c0_v_want, hM_rc0_v_want, hB_bc0_v, hB_bc0, hM⟩
def slices_IndexFunc_s_api_Addr_api_Addr_l1 (s1 : List T_api_Addr) (cf_f : T_api_Addr → Bool) (Q : Int → Prop) (K_1 : Int → Prop) (n_1 : Int) : Prop :=
 (n_1 < (s1.length : Int) → ((0 : Int) ≤ n_1 ∧ n_1 < (s1.length : Int)) ∧ (((cf_f (gi s1 n_1)) = true → Q n_1) ∧ ((cf_f (gi s1 n_1)) = false → (I64 (n_1 + 1)) ∧ (K_1 (n_1 + 1))))) ∧ (¬ (n_1 < (s1.length : Int)) → Q (-1))
def slices_IndexFunc_s_api_Addr_api_Addr_W (s1 : List T_api_Addr) (cf_f : T_api_Addr → Bool) (Q : Int → Prop) : Prop :=
 loopW (fun (K_1 : Int → Prop) (s : Int) => slices_IndexFunc_s_api_Addr_api_Addr_l1 s1 cf_f Q K_1 s) 0
theorem slices_IndexFunc_s_api_Addr_api_Addr_walk {F : Fz} {fr : List Ow} {h0 : Heap} (s1 : List T_api_Addr) (cf_f : T_api_Addr → Bool) (vs : Value) (g_f : Nat) (fs_f : Array Value) (cs_f : Array Value) (hS : St F (fr) h0) (hL_s1 : SliceF F h0 17 e_api_Addr vs s1) (hF_cf_f : FnP Try.prog F h0 g_f fs_f cs_f (fun x : T_api_Addr => [.agg (e_api_Addr x).toArray]) (fun x => .bool (cf_f x))) {Q : Int → Prop} (hM : slices_IndexFunc_s_api_Addr_api_Addr_W s1 cf_f Q) :
  HC Try.prog 53 #[vs, .func (.func g_f) fs_f cs_f] h0 fun u h' => ∃ (F' : Fz) (r_1 : Int), u = .int .i64 r_1 ∧ Kp F h0 F' h' ∧ St F' (fr) h' ∧ (SliceF F' h' 17 e_api_Addr vs s1) ∧ (FnP Try.prog F' h' g_f fs_f cs_f (fun x : T_api_Addr => [.agg (e_api_Addr x).toArray]) (fun x => .bool (cf_f x))) ∧ Q r_1 := by
 unfold slices_IndexFunc_s_api_Addr_api_Addr_W at hM
 have hK := Kp.refl F h0
 refine HC.of_HW (n := 19) Try.func53 rfl rfl (Nat.le_of_ble_eq_true rfl) ?_
 refine HW.seq ?_
 refine HW.region ?_
 refine oA (.int .i64 0) rfl rfl ?_
 refine HO.nil (thenQ_normal (?_))
 refine HW.seq ?_
 refine HW.seq ?_
 refine HW.region ?_
 refine oM (vs) rfl rfl ?_
 refine oV (.int .i64 (s1.length : Int)) (q_len ts_32 (shp hL_s1.is) rfl rfl) rfl ?_
 refine oM (.int .i64 0) rfl rfl ?_
 refine HO.nil (thenQ_normal (?_))
 refine HW.block ?_
 obtain ⟨I_1, m_1, hI_1, hR_1⟩ := hM
 refine HW.loop (S := Int) (fun n_1 f h => ∃ (F' : Fz), f 0 = vs ∧ f 1 = .func (.func g_f) fs_f cs_f ∧ f 4 = .int .i64 0 ∧ f 7 = .int .i64 (s1.length : Int) ∧ f 8 = .int .i64 n_1 ∧ Kp F h0 F' h ∧ St F' (fr) h ∧ (SliceF F' h 17 e_api_Addr vs s1) ∧ (FnP Try.prog F' h g_f fs_f cs_f (fun x : T_api_Addr => [.agg (e_api_Addr x).toArray]) (fun x => .bool (cf_f x))) ∧ I_1 n_1) m_1 0 ⟨F, rfl, rfl, rfl, rfl, rfl, hK, hS, hL_s1, hF_cf_f, hI_1⟩ ?_
 rintro n_1 f_1 h_1 ⟨F_1, e0, e1, e4, e7, e8, hK, hS, hL_s1, hF_cf_f, hI0⟩
 obtain ⟨K_1, hKe_1⟩ : ∃ K : Int → Prop, K = fun n_1' => I_1 n_1' ∧ m_1 n_1' < m_1 n_1 := ⟨_, rfl⟩
 have hM : slices_IndexFunc_s_api_Addr_api_Addr_l1 s1 cf_f Q K_1 n_1 := by rw [hKe_1]; exact hR_1 n_1 hI0
 unfold slices_IndexFunc_s_api_Addr_api_Addr_l1 at hM
 refine HW.fr [(0, vs), (1, .func (.func g_f) fs_f cs_f), (4, .int .i64 0), (7, .int .i64 (s1.length : Int)), (8, .int .i64 n_1)] ⟨e0, e1, e4, e7, e8, trivial⟩ ?_
 refine HW.seq ?_
 refine HW.region ?_
 refine oV (.bool (decide (n_1 < (s1.length : Int)))) (q_lss rfl rfl) rfl ?_
 refine HO.nil (thenQ_normal (?_))
 refine HW.seq ?_
 refine HW.cond (decide (n_1 < (s1.length : Int))) rfl (fun c_1 => ?_) (fun c_1 => ?_)
 ·
  replace hM := hM.1 (of_decide_eq_true c_1)
  refine HW.skip (thenQ_normal (?_))
  refine HW.seq ?_
  refine HW.block ?_
  refine HW.seq ?_
  refine HW.region ?_
  refine oM (.int .i64 n_1) rfl rfl ?_
  refine oA (.int .i64 n_1) rfl rfl ?_
  refine HO.nil (thenQ_normal (?_))
  refine HW.seq ?_
  refine HW.region ?_
  refine oM (.func (.func g_f) fs_f cs_f) rfl rfl ?_
  refine oM (vs) rfl rfl ?_
  refine oM (.int .i64 n_1) rfl rfl ?_
  obtain ⟨ho_1, hM⟩ := hM
  refine oV (elemPtr 17 vs (n_1).toNat) (q_idx ts_32 hL_s1.is rfl rfl ho_1) rfl ?_
  refine oV (.agg (e_api_Addr (gi s1 n_1)).toArray) (q_ldElemAgg (cs := (e_api_Addr (gi s1 n_1))) ta_30 hL_s1.is rfl ho_1 rfl) rfl ?_
  refine HO.call (want_none) rfl (hF_cf_f.ec (gi s1 n_1) rfl rfl) (hF_cf_f.hc (gi s1 n_1) hS) ?_
  rintro _ h_2 ⟨rfl, hS, hk⟩
  replace hK := hK.trans hk
  replace hL_s1 := hL_s1.kp hk
  replace hF_cf_f := hF_cf_f.kp hk
  refine HO.nil (thenQ_normal (?_))
  refine HW.cond (cf_f (gi s1 n_1)) rfl (fun c_2 => ?_) (fun c_2 => ?_)
  ·
   replace hM := hM.1 c_2
   refine HW.seq ?_
   refine HW.region ?_
   refine oM (.int .i64 n_1) rfl rfl ?_
   refine oA (.int .i64 n_1) rfl rfl ?_
   refine HO.nil (thenQ_normal (?_))
   refine HW.ret (blockQ_ret (thenQ_ret (thenQ_ret (blockQ_ret (thenQ_ret (?_))))))
   refine ⟨.inr rfl, .int .i64 n_1, res1 rfl (rt rfl), ?_⟩
   exact ⟨F_1, n_1, rfl, hK, hS, hL_s1, hF_cf_f, hM⟩
  ·
   replace hM := hM.2 c_2
   refine HW.skip (blockQ_normal (thenQ_normal (?_)))
   refine HW.region ?_
   obtain ⟨ho_2, hM⟩ := hM
   refine oV (.int .i64 (n_1 + 1)) (q_addN _ rfl rfl rfl ho_2.1 ho_2.2) rfl ?_
   refine oM (.int .i64 (n_1 + 1)) rfl rfl ?_
   refine HO.nil (thenQ_normal (?_))
   rw [hKe_1] at hM
   exact ⟨n_1 + 1, ⟨F_1, rfl, rfl, rfl, rfl, rfl, hK, hS, hL_s1, hF_cf_f, hM.1⟩, hM.2⟩
 ·
  replace hM := hM.2 (of_decide_eq_false c_1)
  refine HW.exit (thenQ_exit (thenQ_exit (blockQ_exit (thenQ_normal (?_)))))
  refine HW.seq ?_
  refine HW.region ?_
  refine oA (.int .i64 (-1)) rfl rfl ?_
  refine HO.nil (thenQ_normal (?_))
  refine HW.ret (?_)
  refine ⟨.inr rfl, .int .i64 (-1), res1 rfl (rt rfl), ?_⟩
  exact ⟨F_1, (-1), rfl, hK, hS, hL_s1, hF_cf_f, hM⟩
def slices_ContainsFunc_s_api_Addr_api_Addr_W (s1 : List T_api_Addr) (cf_f : T_api_Addr → Bool) (Q : Bool → Prop) : Prop :=
 slices_IndexFunc_s_api_Addr_api_Addr_W s1 cf_f (fun r_2 => Q (decide (0 ≤ r_2)))
theorem slices_ContainsFunc_s_api_Addr_api_Addr_walk {F : Fz} {fr : List Ow} {h0 : Heap} (s1 : List T_api_Addr) (cf_f : T_api_Addr → Bool) (vs : Value) (g_f : Nat) (fs_f : Array Value) (cs_f : Array Value) (hS : St F (fr) h0) (hL_s1 : SliceF F h0 17 e_api_Addr vs s1) (hF_cf_f : FnP Try.prog F h0 g_f fs_f cs_f (fun x : T_api_Addr => [.agg (e_api_Addr x).toArray]) (fun x => .bool (cf_f x))) {Q : Bool → Prop} (hM : slices_ContainsFunc_s_api_Addr_api_Addr_W s1 cf_f Q) :
  HC Try.prog 38 #[vs, .func (.func g_f) fs_f cs_f] h0 fun u h' => ∃ (F' : Fz) (r_1 : Bool), u = .bool r_1 ∧ Kp F h0 F' h' ∧ St F' (fr) h' ∧ (SliceF F' h' 17 e_api_Addr vs s1) ∧ (FnP Try.prog F' h' g_f fs_f cs_f (fun x : T_api_Addr => [.agg (e_api_Addr x).toArray]) (fun x => .bool (cf_f x))) ∧ Q r_1 := by
 unfold slices_ContainsFunc_s_api_Addr_api_Addr_W at hM
 have hK := Kp.refl F h0
 refine HC.of_HW (n := 9) Try.func38 rfl rfl (Nat.le_of_ble_eq_true rfl) ?_
 refine HW.seq ?_
 refine HW.region ?_
 refine oA (.bool false) rfl rfl ?_
 refine HO.nil (thenQ_normal (?_))
 refine HW.seq ?_
 refine HW.region ?_
 refine oM (vs) rfl rfl ?_
 refine oM (.func (.func g_f) fs_f cs_f) rfl rfl ?_
 refine HO.call (want_none) rfl (ec en_53 rfl rfl) (slices_IndexFunc_s_api_Addr_api_Addr_walk (fr := (fr)) s1 cf_f vs g_f fs_f cs_f hS hL_s1 hF_cf_f hM) ?_
 rintro _ h_1 ⟨F_1, r_2, rfl, hk, hS, _, _, hM⟩
 replace hK := hK.trans hk
 replace hL_s1 := hL_s1.kp hk
 replace hF_cf_f := hF_cf_f.kp hk
 refine oV (.bool (decide (0 ≤ r_2))) (q_geq rfl rfl) rfl ?_
 refine oA (.bool (decide (0 ≤ r_2))) rfl rfl ?_
 refine HO.nil (thenQ_normal (?_))
 refine HW.ret (?_)
 refine ⟨.inr rfl, .bool (decide (0 ≤ r_2)), res1 rfl (rt rfl), ?_⟩
 exact ⟨F_1, decide (0 ≤ r_2), rfl, hK, hS, hL_s1, hF_cf_f, hM⟩
def host_Host_kind_W (h_v6 : Bool) (h_now : Int) (h_want : List (T_api_Addr × T_api_Filter)) (h_one : Int) (h_two : Int) (l : List T_api_Addr) (Q : Bool → Prop) : Prop :=
 ∃ cf_1 : T_api_Addr → Bool, (∀ x0, host_Host_kind_1_W x0 h_v6 h_now h_want h_one h_two (fun r => r = cf_1 x0)) ∧ (slices_ContainsFunc_s_api_Addr_api_Addr_W l cf_1 (fun r_2 => Q (!r_2)))
theorem host_Host_kind_walk {F : Fz} {fr : List Ow} {h0 : Heap} (h_v6 : Bool) (h_now : Int) (h_want : List (T_api_Addr × T_api_Filter)) (h_one : Int) (h_two : Int) (l : List T_api_Addr) (bh : Nat) (rh_want : Nat) (vl : Value) (hS : St F (fr) h0) (hN_h_want : NfL nf_api_Filter F h0 (h_want.map (·.2))) (hM_rh_want : RoF (Ow.map rh_want (fun (x : T_api_Addr) => .agg (e_api_Addr x).toArray) (fun (x : T_api_Filter) => .agg #[.bool x.1, x.2.1]) h_want) F h0) (hB_bh : RoF (Ow.box bh 52 #[.bool h_v6, .int .i64 h_now, .map (some rh_want), .int .i64 h_one, .int .i64 h_two]) F h0) (hL_l : SliceF F h0 17 e_api_Addr vl l) {Q : Bool → Prop} (hM : host_Host_kind_W h_v6 h_now h_want h_one h_two l Q) :
  HC Try.prog 20 #[.pointer (some ⟨bh, 0, none⟩), vl] h0 fun u h' => ∃ (F' : Fz) (r_1 : Bool), u = .bool r_1 ∧ Kp F h0 F' h' ∧ St F' (fr) h' ∧ (NfL nf_api_Filter F' h' (h_want.map (·.2))) ∧ (RoF (Ow.map rh_want (fun (x : T_api_Addr) => .agg (e_api_Addr x).toArray) (fun (x : T_api_Filter) => .agg #[.bool x.1, x.2.1]) h_want) F' h') ∧ (RoF (Ow.box bh 52 #[.bool h_v6, .int .i64 h_now, .map (some rh_want), .int .i64 h_one, .int .i64 h_two]) F' h') ∧ (SliceF F' h' 17 e_api_Addr vl l) ∧ Q r_1 := by
 unfold host_Host_kind_W at hM
 have hK := Kp.refl F h0
 refine HC.of_HW (n := 9) Try.func20 rfl rfl (Nat.le_of_ble_eq_true rfl) ?_
 refine HW.seq ?_
 refine HW.region ?_
 refine HO.eff (want_none) rfl (st_box (c := #[.pointer (some ⟨bh, 0, none⟩)]) (k' := 1) hS rfl rfl) ?_
 rintro _ h_1 ⟨b_1, rfl, hS, hk⟩
 replace hK := hK.trans hk
 replace hN_h_want := hN_h_want.kp hk
 replace hM_rh_want := hM_rh_want.kp hk
 replace hB_bh := hB_bh.kp hk
 replace hL_l := hL_l.kp hk
 refine oA (.bool false) rfl rfl ?_
 refine HO.nil (thenQ_normal (?_))
 refine HW.seq ?_
 refine HW.region ?_
 refine oM (vl) rfl rfl ?_
 refine oV (.func (.func 39) #[] #[.pointer (some ⟨b_1, 0, none⟩)]) (q_makeFunc rfl rfl) rfl ?_
 replace hS : St F (Ow.box b_1 22 #[.pointer (some ⟨bh, 0, none⟩)] :: fr) h_1 := hS
 have hZ_1 := hS
 have hkz_1 := (hS.freeze).2
 replace hS := hS.freeze.1
 have hL_1 := hZ_1.lent
 obtain ⟨cf_1, hc_1, hM⟩ := hM
 have hF_1 : FnP Try.prog (fun bz_ => F bz_ ∨ (Ow.box b_1 22 #[.pointer (some ⟨bh, 0, none⟩)]).foot bz_) h_1 39 #[] #[.pointer (some ⟨b_1, 0, none⟩)] (fun x : T_api_Addr => [.agg (e_api_Addr x).toArray]) (fun x => .bool (cf_1 x)) := FnP.of en_39 (fun x h' hk_ => @HC.mono ⟨true⟩ _ _ _ _ _ _ (@host_Host_kind_1_walk ⟨true⟩ (allF h') [] h' x h_v6 h_now h_want h_one h_two b_1 bh rh_want (St.init h') ((hN_h_want.kp hkz_1).kp hk_) ((hM_rh_want.kp hkz_1).kp hk_) ((hB_bh.kp hkz_1).kp hk_) (hL_1.kp hk_) (fun r => r = cf_1 x) (hc_1 x)) (fun u h'' ⟨F', r, hu, k_, _, _, _, _, _, hr⟩ => ⟨by rw [hu, hr], F', k_⟩))
 refine HO.call (want_none) rfl (ec en_38 rfl rfl) (slices_ContainsFunc_s_api_Addr_api_Addr_walk (fr := (fr)) l cf_1 vl 39 (#[]) (#[.pointer (some ⟨b_1, 0, none⟩)]) hS (hL_l.kp hkz_1) hF_1 hM) ?_
 rintro _ h_2 ⟨F_1, r_2, rfl, hk, hS, _, _, hM⟩
 obtain ⟨hS, hk⟩ := hZ_1.back hk hS
 generalize (fun bz_ => F_1 bz_ ∧ ¬ (Ow.box b_1 22 #[.pointer (some ⟨bh, 0, none⟩)]).foot bz_) = F_2 at hS hk
 replace hK := hK.trans hk
 replace hN_h_want := hN_h_want.kp hk
 replace hM_rh_want := hM_rh_want.kp hk
 replace hB_bh := hB_bh.kp hk
 replace hL_l := hL_l.kp hk
 refine oV (.bool (!r_2)) (q_not rfl) rfl ?_
 refine oA (.bool (!r_2)) rfl rfl ?_
 refine HO.nil (thenQ_normal (?_))
 refine HW.ret (?_)
 refine ⟨.inr rfl, .bool (!r_2), res1 rfl (rt rfl), ?_⟩
 replace hS : St F_2 (fr) h_2 := hS.perm2 [] 1 rfl rfl
 exact ⟨F_2, !r_2, rfl, hK, hS, hN_h_want, hM_rh_want, hB_bh, hL_l, hM⟩
def addr_bytes_W (a : T_api_Addr) (Q : Str → Prop) : Prop :=
 (a.1 = true → Q (cut a.2.1 0 16)) ∧ (a.1 = false → Q (cut a.2.1 0 4))
theorem addr_bytes_walk {F : Fz} {fr : List Ow} {h0 : Heap} (a : T_api_Addr) (hS : St F (fr) h0)  {Q : Str → Prop} (hM : addr_bytes_W a Q) :
  HC Try.prog 55 #[.agg (e_api_Addr a).toArray] h0 fun u h' => ∃ (F' : Fz) (r_1 : Str), u = .string (bs r_1) ∧ Kp F h0 F' h' ∧ St F' (fr) h' ∧ Q r_1 := by
 unfold addr_bytes_W at hM
 have hK := Kp.refl F h0
 refine HC.of_HW (n := 11) Try.func55 rfl rfl (Nat.le_of_ble_eq_true rfl) ?_
 refine HW.seq ?_
 refine HW.region ?_
 refine HO.eff (want_none) rfl (st_box (c := (e_api_Addr a).toArray) (k' := 17) hS rfl rfl) ?_
 rintro _ h_1 ⟨b_1, rfl, hS, hk⟩
 replace hK := hK.trans hk
 refine oA (.string (bs [])) rfl rfl ?_
 refine HO.nil (thenQ_normal (?_))
 refine HW.seq ?_
 refine HW.seq ?_
 refine HW.region ?_
 refine oV (.pointer (some ⟨b_1, 0, none⟩)) (q_fieldAddr fa_30_0 rfl rfl) rfl ?_
 refine oV (.bool a.1) (q_load to_4 rfl (Blk.cell (hS.box 0 rfl) rfl)) rfl ?_
 refine HO.nil (thenQ_normal (?_))
 refine HW.cond a.1 rfl (fun c_1 => ?_) (fun c_1 => ?_)
 ·
  replace hM := hM.1 c_1
  refine HW.seq ?_
  refine HW.region ?_
  refine oV (.pointer (some ⟨b_1, 1, none⟩)) (q_fieldAddr fa_30_1 rfl rfl) rfl ?_
  refine oV (arrV b_1 1 16 0 16) (q_sliceA (o := 1) (lo := 0) (hi := 16) (kl := .i64) (kh := .i64) tr_28 rfl (.inl ⟨rfl, rfl⟩) (.inl ⟨rfl, rfl⟩) ⟨by decide, by decide, by decide⟩) rfl ?_
  refine oV (.string (bs (cut a.2.1 0 16))) (q_bytesStr ts_94 Try.underlying5 Try.underlying9 (arrSl (o := 1) (n := 16) (X := a.2) (lo := 0) (hi := 16) (hS.box 0 rfl) rfl ⟨by decide, by decide, by decide⟩ (by decide)) rfl) rfl ?_
  refine oA (.string (bs (cut a.2.1 0 16))) rfl rfl ?_
  refine HO.nil (thenQ_normal (?_))
  refine HW.ret (thenQ_ret (?_))
  refine ⟨.inr rfl, .string (bs (cut a.2.1 0 16)), res1 rfl (rt rfl), ?_⟩
  replace hS : St F (fr) h_1 := hS.perm2 [] 1 rfl rfl
  exact ⟨F, cut a.2.1 0 16, rfl, hK, hS, hM⟩
 ·
  replace hM := hM.2 c_1
  refine HW.skip (thenQ_normal (?_))
  refine HW.seq ?_
  refine HW.region ?_
  refine oV (.pointer (some ⟨b_1, 1, none⟩)) (q_fieldAddr fa_30_1 rfl rfl) rfl ?_
  refine oV (arrV b_1 1 16 0 4) (q_sliceA (o := 1) (lo := 0) (hi := 4) (kl := .i64) tr_28 rfl (.inl ⟨rfl, rfl⟩) (.inr ⟨_, rfl, rfl⟩) ⟨by decide, by decide, by decide⟩) rfl ?_
  refine oV (.string (bs (cut a.2.1 0 4))) (q_bytesStr ts_94 Try.underlying5 Try.underlying9 (arrSl (o := 1) (n := 16) (X := a.2) (lo := 0) (hi := 4) (hS.box 0 rfl) rfl ⟨by decide, by decide, by decide⟩ (by decide)) rfl) rfl ?_
  refine oA (.string (bs (cut a.2.1 0 4))) rfl rfl ?_
  refine HO.nil (thenQ_normal (?_))
  refine HW.ret (?_)
  refine ⟨.inr rfl, .string (bs (cut a.2.1 0 4)), res1 rfl (rt rfl), ?_⟩
  replace hS : St F (fr) h_1 := hS.perm2 [] 1 rfl rfl
  exact ⟨F, cut a.2.1 0 4, rfl, hK, hS, hM⟩
def addr_Cmp_j1 (a : T_api_Addr) (b : T_api_Addr) (Q : Int → Prop) : Prop :=
 addr_bytes_W a (fun r_2 => addr_bytes_W b (fun r_3 => Q (scmp r_2 r_3)))
def addr_Cmp_j2 (a : T_api_Addr) (b : T_api_Addr) (Q : Int → Prop) (b_3 : Bool) : Prop :=
 (b_3 = true → Q 1) ∧ (b_3 = false → ((!a.1) = true → (b.1 = true → Q (-1)) ∧ (b.1 = false → addr_Cmp_j1 a b Q)) ∧ ((!a.1) = false → addr_Cmp_j1 a b Q))
def addr_Cmp_W (a : T_api_Addr) (b : T_api_Addr) (Q : Int → Prop) : Prop :=
 (a.1 = true → addr_Cmp_j2 a b Q (!b.1)) ∧ (a.1 = false → addr_Cmp_j2 a b Q false)
theorem addr_Cmp_walk {F : Fz} {fr : List Ow} {h0 : Heap} (a : T_api_Addr) (b : T_api_Addr) (hS : St F (fr) h0)  {Q : Int → Prop} (hM : addr_Cmp_W a b Q) :
  HC Try.prog 40 #[.agg (e_api_Addr a).toArray, .agg (e_api_Addr b).toArray] h0 fun u h' => ∃ (F' : Fz) (r_1 : Int), u = .int .i64 r_1 ∧ Kp F h0 F' h' ∧ St F' (fr) h' ∧ Q r_1 := by
 unfold addr_Cmp_W at hM
 have hK := Kp.refl F h0
 refine HC.of_HW (n := 26) Try.func40 rfl rfl (Nat.le_of_ble_eq_true rfl) ?_
 refine HW.seq ?_
 refine HW.region ?_
 refine HO.eff (want_none) rfl (st_box (c := (e_api_Addr a).toArray) (k' := 17) hS rfl rfl) ?_
 rintro _ h_1 ⟨b_1, rfl, hS, hk⟩
 replace hK := hK.trans hk
 refine HO.eff (want_none) rfl (st_box (c := (e_api_Addr b).toArray) (k' := 17) hS rfl rfl) ?_
 rintro _ h_2 ⟨b_2, rfl, hS, hk⟩
 replace hK := hK.trans hk
 refine oA (.int .i64 0) rfl rfl ?_
 refine HO.nil (thenQ_normal (?_))
 refine HW.seq_mid (fun f h => ∃ (F' : Fz), f 2 = .pointer (some ⟨b_1, 0, none⟩) ∧ f 3 = .pointer (some ⟨b_2, 0, none⟩) ∧ f 4 = .int .i64 0 ∧ Kp F h0 F' h ∧ St F' (Ow.box b_1 30 (e_api_Addr a).toArray :: Ow.box b_2 30 (e_api_Addr b).toArray :: fr) h ∧ addr_Cmp_j1 a b Q) ?_ ?_
 ·
  refine HW.block ?_
  refine HW.seq_mid (fun f h => ∃ (F' : Fz) (b_3 : Bool), f 2 = .pointer (some ⟨b_1, 0, none⟩) ∧ f 3 = .pointer (some ⟨b_2, 0, none⟩) ∧ f 4 = .int .i64 0 ∧ f 5 = .bool b_3 ∧ Kp F h0 F' h ∧ St F' (Ow.box b_1 30 (e_api_Addr a).toArray :: Ow.box b_2 30 (e_api_Addr b).toArray :: fr) h ∧ addr_Cmp_j2 a b Q b_3) ?_ ?_
  ·
   refine HW.region ?_
   refine oV (.pointer (some ⟨b_1, 0, none⟩)) (q_fieldAddr fa_30_0 rfl rfl) rfl ?_
   refine oV (.bool a.1) (q_load to_4 rfl (Blk.cell (hS.box 1 rfl) rfl)) rfl ?_
   refine oM (.bool a.1) rfl rfl ?_
   rcases Bool.eq_false_or_eq_true a.1 with c_1 | c_1
   ·
    replace hM := hM.1 c_1
    refine HO.val (v := .pointer (some ⟨b_2, 0, none⟩)) (want_by rfl rfl c_1) rfl (q_fieldAddr fa_30_0 rfl rfl) ?_
    refine HO.val (v := .bool b.1) (want_by rfl rfl c_1) rfl (q_load to_4 rfl (Blk.cell (hS.box 0 rfl) rfl)) ?_
    refine HO.val (v := .bool (!b.1)) (want_by rfl rfl c_1) rfl (q_not rfl) ?_
    refine oV (.bool (!b.1)) (q_pickK true rfl c_1 rfl) rfl ?_
    refine oA (.bool (!b.1)) rfl rfl ?_
    refine HO.nil (thenQ_normal (?_))
    replace hS : St F (Ow.box b_1 30 (e_api_Addr a).toArray :: Ow.box b_2 30 (e_api_Addr b).toArray :: fr) h_2 := hS.perm2 [1, 0] 2 rfl rfl
    exact ⟨F, !b.1, rfl, rfl, rfl, rfl, hK, hS, hM⟩
   ·
    replace hM := hM.2 c_1
    refine HO.past (past_by rfl rfl c_1) rfl ?_
    refine HO.past (past_by rfl rfl c_1) rfl ?_
    refine HO.past (past_by rfl rfl c_1) rfl ?_
    refine oV (.bool false) (q_pickK false rfl c_1 rfl) rfl ?_
    refine oA (.bool false) rfl rfl ?_
    refine HO.nil (thenQ_normal (?_))
    replace hS : St F (Ow.box b_1 30 (e_api_Addr a).toArray :: Ow.box b_2 30 (e_api_Addr b).toArray :: fr) h_2 := hS.perm2 [1, 0] 2 rfl rfl
    exact ⟨F, false, rfl, rfl, rfl, rfl, hK, hS, hM⟩
  ·
   rintro f_1 h_3 ⟨F_1, b_3, e2, e3, e4, e5, hK, hS, hM⟩
   unfold addr_Cmp_j2 at hM
   refine HW.fr [(2, .pointer (some ⟨b_1, 0, none⟩)), (3, .pointer (some ⟨b_2, 0, none⟩)), (4, .int .i64 0), (5, .bool b_3)] ⟨e2, e3, e4, e5, trivial⟩ ?_
   refine HW.cond b_3 rfl (fun c_2 => ?_) (fun c_2 => ?_)
   ·
    replace hM := hM.1 c_2
    refine HW.seq ?_
    refine HW.region ?_
    refine oA (.int .i64 1) rfl rfl ?_
    refine HO.nil (thenQ_normal (?_))
    refine HW.ret (blockQ_ret (thenQ_ret (?_)))
    refine ⟨.inr rfl, .int .i64 1, res1 rfl (rt rfl), ?_⟩
    replace hS : St F_1 (fr) h_3 := hS.perm2 [] 2 rfl rfl
    exact ⟨F_1, 1, rfl, hK, hS, hM⟩
   ·
    replace hM := hM.2 c_2
    refine HW.seq ?_
    refine HW.region ?_
    refine oV (.pointer (some ⟨b_1, 0, none⟩)) (q_fieldAddr fa_30_0 rfl rfl) rfl ?_
    refine oV (.bool a.1) (q_load to_4 rfl (Blk.cell (hS.box 0 rfl) rfl)) rfl ?_
    refine oV (.bool (!a.1)) (q_not rfl) rfl ?_
    refine oM (.bool (!a.1)) rfl rfl ?_
    rcases Bool.eq_false_or_eq_true (!a.1) with c_3 | c_3
    ·
     replace hM := hM.1 c_3
     refine HO.val (v := .pointer (some ⟨b_2, 0, none⟩)) (want_by rfl rfl c_3) rfl (q_fieldAddr fa_30_0 rfl rfl) ?_
     refine HO.val (v := .bool b.1) (want_by rfl rfl c_3) rfl (q_load to_4 rfl (Blk.cell (hS.box 1 rfl) rfl)) ?_
     refine oV (.bool b.1) (q_pickK true rfl c_3 rfl) rfl ?_
     refine oA (.bool b.1) rfl rfl ?_
     refine HO.nil (thenQ_normal (?_))
     refine HW.cond b.1 rfl (fun c_4 => ?_) (fun c_4 => ?_)
     ·
      replace hM := hM.1 c_4
      refine HW.seq ?_
      refine HW.region ?_
      refine oA (.int .i64 (-1)) rfl rfl ?_
      refine HO.nil (thenQ_normal (?_))
      refine HW.ret (blockQ_ret (thenQ_ret (?_)))
      refine ⟨.inr rfl, .int .i64 (-1), res1 rfl (rt rfl), ?_⟩
      replace hS : St F_1 (fr) h_3 := hS.perm2 [] 2 rfl rfl
      exact ⟨F_1, (-1), rfl, hK, hS, hM⟩
     ·
      replace hM := hM.2 c_4
      refine HW.skip (blockQ_normal (thenQ_normal (?_)))
      exact ⟨F_1, rfl, rfl, rfl, hK, hS, hM⟩
    ·
     replace hM := hM.2 c_3
     refine HO.past (past_by rfl rfl c_3) rfl ?_
     refine HO.past (past_by rfl rfl c_3) rfl ?_
     refine oV (.bool false) (q_pickK false rfl c_3 rfl) rfl ?_
     refine oA (.bool false) rfl rfl ?_
     refine HO.nil (thenQ_normal (?_))
     refine HW.condF rfl ?_
     refine HW.skip (blockQ_normal (thenQ_normal (?_)))
     exact ⟨F_1, rfl, rfl, rfl, hK, hS, hM⟩
 ·
  rintro f_2 h_4 ⟨F_2, e2, e3, e4, hK, hS, hM⟩
  unfold addr_Cmp_j1 at hM
  refine HW.fr [(2, .pointer (some ⟨b_1, 0, none⟩)), (3, .pointer (some ⟨b_2, 0, none⟩)), (4, .int .i64 0)] ⟨e2, e3, e4, trivial⟩ ?_
  refine HW.seq ?_
  refine HW.regionA 6 mixed (fun h => (Blk h b_1 (.cells (e_api_Addr a).toArray 30 (0, 0))) ∧ (Blk h b_2 (.cells (e_api_Addr b).toArray 30 (0, 0)))) [] (by kernel_rfl) ?_
  refine HA.val (k := 0) (v := .agg (e_api_Addr a).toArray) rfl rfl (by kernel_rfl) (by kernel_rfl) (want_none) rfl (fun _ ⟨c203, c204⟩ => q_loadAgg (cs := (e_api_Addr a)) ta_30 rfl rfl (Blk.cells (k := 17) c203 rfl)) ?_
  refine HA.val (k := 2) (v := .agg (e_api_Addr b).toArray) rfl rfl (by kernel_rfl) (by kernel_rfl) (want_none) rfl (fun _ ⟨c203, c204⟩ => q_loadAgg (cs := (e_api_Addr b)) ta_30 rfl rfl (Blk.cells (k := 17) c204 rfl)) ?_
  refine HA.one (k := 1) ⟨⟨(hS.box 0 rfl), (hS.box 1 rfl)⟩, (Go.Wk.at_nil _ _)⟩ (by kernel_rfl) ?_
  refine HS.call rfl (want_none) rfl (ec en_55 rfl rfl) (addr_bytes_walk (fr := (Ow.box b_1 30 (e_api_Addr a).toArray :: Ow.box b_2 30 (e_api_Addr b).toArray :: fr)) a hS hM) ?_
  rintro _ h_5 ⟨F_3, r_2, rfl, hk, hS, hM⟩
  replace hK := hK.trans hk
  refine HA.one (k := 3) ⟨⟨(hS.box 0 rfl), (hS.box 1 rfl)⟩, (Go.Wk.at_nil _ _)⟩ (by kernel_rfl) ?_
  refine HS.call rfl (want_none) rfl (ec en_55 rfl rfl) (addr_bytes_walk (fr := (Ow.box b_1 30 (e_api_Addr a).toArray :: Ow.box b_2 30 (e_api_Addr b).toArray :: fr)) b hS hM) ?_
  rintro _ h_6 ⟨F_4, r_3, rfl, hk, hS, hM⟩
  replace hK := hK.trans hk
  refine HA.one (k := 4) ⟨⟨(hS.box 0 rfl), (hS.box 1 rfl)⟩, (Go.Wk.at_nil _ _)⟩ (by kernel_rfl) ?_
  refine HS.call rfl (want_none) rfl (ec en_54 rfl rfl) (strCompare_hc Try.strCmp  r_2 r_3 _) ?_
  rintro _ h_7 ⟨rfl, hEq⟩
  rw [hEq]
  refine HA.val (k := 5) (v := .int .i64 (scmp r_2 r_3)) rfl rfl (by kernel_rfl) (by kernel_rfl) (want_none) rfl (fun _ ⟨c203, c204⟩ => q_assign rfl) ?_
  refine HA.nil ⟨⟨(hS.box 0 rfl), (hS.box 1 rfl)⟩, (Go.Wk.at_nil _ _)⟩ (by kernel_rfl) (thenQ_normal (?_))
  refine HW.ret (?_)
  refine ⟨.inr rfl, .int .i64 (scmp r_2 r_3), res1 rfl (rt rfl), ?_⟩
  replace hS : St F_4 (fr) h_6 := hS.perm2 [] 2 rfl rfl
  exact ⟨F_4, scmp r_2 r_3, rfl, hK, hS, hM⟩
def srcs_Good_l1 (l : List T_api_Addr) (Q : Bool → Prop) (K_1 : Int → Prop) (n_1 : Int) : Prop :=
 (n_1 < (l.length : Int) → ((0 : Int) ≤ n_1 ∧ n_1 < (l.length : Int)) ∧ (addr_Good_W (gi l n_1) (fun r_2 => ((!r_2) = true → Q false) ∧ ((!r_2) = false → (0 < n_1 → (I64 (n_1 - 1)) ∧ (((0 : Int) ≤ n_1 - 1 ∧ n_1 - 1 < (l.length : Int)) ∧ (addr_Cmp_W (gi l (n_1 - 1)) (gi l n_1) (fun r_3 => (0 ≤ r_3 → Q false) ∧ (¬ (0 ≤ r_3) → (I64 (n_1 + 1)) ∧ (K_1 (n_1 + 1))))))) ∧ (¬ (0 < n_1) → (I64 (n_1 + 1)) ∧ (K_1 (n_1 + 1))))))) ∧ (¬ (n_1 < (l.length : Int)) → Q true)
def srcs_Good_W (l : List T_api_Addr) (Q : Bool → Prop) : Prop :=
 loopW (fun (K_1 : Int → Prop) (s : Int) => srcs_Good_l1 l Q K_1 s) 0
theorem srcs_Good_walk {F : Fz} {fr : List Ow} {h0 : Heap} (l : List T_api_Addr) (vl : Value) (hS : St F (fr) h0) (hL_l : SliceF F h0 17 e_api_Addr vl l) {Q : Bool → Prop} (hM : srcs_Good_W l Q) :
  HC Try.prog 21 #[vl] h0 fun u h' => ∃ (F' : Fz) (r_1 : Bool), u = .bool r_1 ∧ Kp F h0 F' h' ∧ St F' (fr) h' ∧ (SliceF F' h' 17 e_api_Addr vl l) ∧ Q r_1 := by
 unfold srcs_Good_W at hM
 have hK := Kp.refl F h0
 refine HC.of_HW (n := 30) Try.func21 rfl rfl (Nat.le_of_ble_eq_true rfl) ?_
 refine HW.seq ?_
 refine HW.region ?_
 refine oA (.bool false) rfl rfl ?_
 refine HO.nil (thenQ_normal (?_))
 refine HW.seq ?_
 refine HW.seq ?_
 refine HW.region ?_
 refine oM (vl) rfl rfl ?_
 refine oV (.int .i64 (l.length : Int)) (q_len ts_32 (shp hL_l.is) rfl rfl) rfl ?_
 refine oM (.int .i64 0) rfl rfl ?_
 refine HO.nil (thenQ_normal (?_))
 refine HW.block ?_
 obtain ⟨I_1, m_1, hI_1, hR_1⟩ := hM
 refine HW.loop (S := Int) (fun n_1 f h => ∃ (F' : Fz), f 0 = vl ∧ f 2 = .bool false ∧ f 5 = vl ∧ f 6 = .int .i64 (l.length : Int) ∧ f 7 = .int .i64 n_1 ∧ Kp F h0 F' h ∧ St F' (fr) h ∧ (SliceF F' h 17 e_api_Addr vl l) ∧ I_1 n_1) m_1 0 ⟨F, rfl, rfl, rfl, rfl, rfl, hK, hS, hL_l, hI_1⟩ ?_
 rintro n_1 f_1 h_1 ⟨F_1, e0, e2, e5, e6, e7, hK, hS, hL_l, hI0⟩
 obtain ⟨K_1, hKe_1⟩ : ∃ K : Int → Prop, K = fun n_1' => I_1 n_1' ∧ m_1 n_1' < m_1 n_1 := ⟨_, rfl⟩
 have hM : srcs_Good_l1 l Q K_1 n_1 := by rw [hKe_1]; exact hR_1 n_1 hI0
 unfold srcs_Good_l1 at hM
 refine HW.fr [(0, vl), (2, .bool false), (5, vl), (6, .int .i64 (l.length : Int)), (7, .int .i64 n_1)] ⟨e0, e2, e5, e6, e7, trivial⟩ ?_
 refine HW.seq ?_
 refine HW.region ?_
 refine oV (.bool (decide (n_1 < (l.length : Int)))) (q_lss rfl rfl) rfl ?_
 refine HO.nil (thenQ_normal (?_))
 refine HW.seq ?_
 refine HW.cond (decide (n_1 < (l.length : Int))) rfl (fun c_1 => ?_) (fun c_1 => ?_)
 ·
  replace hM := hM.1 (of_decide_eq_true c_1)
  refine HW.skip (thenQ_normal (?_))
  refine HW.seq ?_
  refine HW.block ?_
  refine HW.seq ?_
  refine HW.region ?_
  refine oM (.int .i64 n_1) rfl rfl ?_
  obtain ⟨ho_1, hM⟩ := hM
  refine oV (elemPtr 17 vl (n_1).toNat) (q_idx ts_32 hL_l.is rfl rfl ho_1) rfl ?_
  refine oV (.agg (e_api_Addr (gi l n_1)).toArray) (q_ldElemAgg (cs := (e_api_Addr (gi l n_1))) ta_30 hL_l.is rfl ho_1 rfl) rfl ?_
  refine HO.eff (want_none) rfl (st_alloc (c := (e_api_Addr (false, (default : Ba 16))).toArray) hS tz_30 rfl) ?_
  rintro _ h_2 ⟨b_1, rfl, hS, hk⟩
  replace hK := hK.trans hk
  replace hL_l := hL_l.kp hk
  refine oA (.int .i64 n_1) rfl rfl ?_
  refine HO.sto (want_none) rfl (st_storeAgg (c' := (e_api_Addr (gi l n_1)).toArray) hS (i := 0) rfl ta_30 rfl rfl rfl (one_e_api_Addr _) (Nat.le_of_ble_eq_true rfl) rfl) ?_
  rintro h_3 ⟨hS, hk⟩
  replace hK := hK.trans hk
  replace hL_l := hL_l.kp hk
  refine HO.nil (thenQ_normal (?_))
  refine HW.seq ?_
  refine HW.regionA 17 mixed (fun h => (SliceIs h 17 e_api_Addr vl l) ∧ (Blk h b_1 (.cells (e_api_Addr (gi l n_1)).toArray 30 (0, 0)))) [] (by kernel_rfl) ?_
  refine HA.val (k := 0) (v := .agg (e_api_Addr (gi l n_1)).toArray) rfl rfl (by kernel_rfl) (by kernel_rfl) (want_none) rfl (fun _ ⟨hL_l, c301⟩ => q_loadAgg (cs := (e_api_Addr (gi l n_1))) ta_30 rfl rfl (Blk.cells (k := 17) c301 rfl)) ?_
  refine HA.one (k := 1) ⟨⟨hL_l.is, (hS.box 0 rfl)⟩, (Go.Wk.at_nil _ _)⟩ (by kernel_rfl) ?_
  refine HS.call rfl (want_none) rfl (ec en_17 rfl rfl) (addr_Good_walk (fr := (Ow.box b_1 30 (e_api_Addr (gi l n_1)).toArray :: fr)) (gi l n_1) hS hM) ?_
  rintro _ h_4 ⟨F_2, r_2, rfl, hk, hS, hM⟩
  replace hK := hK.trans hk
  replace hL_l := hL_l.kp hk
  refine HA.val (k := 2) (v := .bool (!r_2)) rfl rfl (by kernel_rfl) (by kernel_rfl) (want_none) rfl (fun _ ⟨hL_l, c301⟩ => q_not rfl) ?_
  refine HA.val (k := 3) (v := .bool (!r_2)) rfl rfl (by kernel_rfl) (by kernel_rfl) (want_none) rfl (fun _ ⟨hL_l, c301⟩ => q_move rfl) ?_
  rcases Bool.eq_false_or_eq_true (!r_2) with c_2 | c_2
  ·
   replace hM := hM.1 c_2
   refine HA.past (k := 4) rfl rfl (by kernel_rfl) (by kernel_rfl) (past_by rfl rfl c_2) rfl ?_
   refine HA.past (k := 5) rfl rfl (by kernel_rfl) (by kernel_rfl) (past_by rfl rfl c_2) rfl ?_
   refine HA.past (k := 6) rfl rfl (by kernel_rfl) (by kernel_rfl) (past_by rfl rfl c_2) rfl ?_
   refine HA.past (k := 7) rfl rfl (by kernel_rfl) (by kernel_rfl) (past_undef rfl rfl) rfl ?_
   refine HA.past (k := 8) rfl rfl (by kernel_rfl) (by kernel_rfl) (past_undef rfl rfl) rfl ?_
   refine HA.past (k := 9) rfl rfl (by kernel_rfl) (by kernel_rfl) (past_undef rfl rfl) rfl ?_
   refine HA.past (k := 10) rfl rfl (by kernel_rfl) (by kernel_rfl) (past_undef rfl rfl) rfl ?_
   refine HA.past (k := 11) rfl rfl (by kernel_rfl) (by kernel_rfl) (past_undef rfl rfl) rfl ?_
   refine HA.past (k := 12) rfl rfl (by kernel_rfl) (by kernel_rfl) (past_undef rfl rfl) rfl ?_
   refine HA.one (k := 13) ⟨⟨hL_l.is, (hS.box 0 rfl)⟩, (Go.Wk.at_nil _ _)⟩ (by kernel_rfl) ?_
   refine HS.past rfl (past_undef rfl rfl) rfl ?_
   refine HA.past (k := 14) rfl rfl (by kernel_rfl) (by kernel_rfl) (past_undef rfl rfl) rfl ?_
   refine HA.past (k := 15) rfl rfl (by kernel_rfl) (by kernel_rfl) (past_by rfl rfl c_2) rfl ?_
   refine HA.val (k := 16) (v := .bool true) rfl rfl (by kernel_rfl) (by kernel_rfl) (want_none) rfl (fun _ ⟨hL_l, c301⟩ => q_pickK true rfl c_2 rfl) ?_
   refine HA.nil ⟨⟨hL_l.is, (hS.box 0 rfl)⟩, (Go.Wk.at_nil _ _)⟩ (by kernel_rfl) (thenQ_normal (?_))
   refine HW.condT rfl ?_
   refine HW.seq ?_
   refine HW.region ?_
   refine oA (.bool false) rfl rfl ?_
   refine HO.nil (thenQ_normal (?_))
   refine HW.ret (blockQ_ret (thenQ_ret (thenQ_ret (blockQ_ret (thenQ_ret (?_))))))
   refine ⟨.inr rfl, .bool false, res1 rfl (rt rfl), ?_⟩
   replace hS : St F_2 (fr) h_4 := hS.perm2 [] 1 rfl rfl
   exact ⟨F_2, false, rfl, hK, hS, hL_l, hM⟩
  ·
   replace hM := hM.2 c_2
   refine HA.val (k := 4) (v := .int .i64 n_1) rfl rfl (by kernel_rfl) (by kernel_rfl) (want_by rfl rfl c_2) rfl (fun _ ⟨hL_l, c301⟩ => q_move rfl) ?_
   refine HA.val (k := 5) (v := .bool (decide (0 < n_1))) rfl rfl (by kernel_rfl) (by kernel_rfl) (want_by rfl rfl c_2) rfl (fun _ ⟨hL_l, c301⟩ => q_gtr rfl rfl) ?_
   refine HA.val (k := 6) (v := .bool (decide (0 < n_1))) rfl rfl (by kernel_rfl) (by kernel_rfl) (want_by rfl rfl c_2) rfl (fun _ ⟨hL_l, c301⟩ => q_move rfl) ?_
   rcases Bool.eq_false_or_eq_true (decide (0 < n_1)) with c_3 | c_3
   ·
    replace hM := hM.1 (of_decide_eq_true c_3)
    refine HA.val (k := 7) (v := vl) rfl rfl (by kernel_rfl) (by kernel_rfl) (want_by rfl rfl c_3) rfl (fun _ ⟨hL_l, c301⟩ => q_move rfl) ?_
    refine HA.val (k := 8) (v := .int .i64 n_1) rfl rfl (by kernel_rfl) (by kernel_rfl) (want_by rfl rfl c_3) rfl (fun _ ⟨hL_l, c301⟩ => q_move rfl) ?_
    obtain ⟨ho_2, hM⟩ := hM
    refine HA.val (k := 9) (v := .int .i64 (n_1 - 1)) rfl rfl (by kernel_rfl) (by kernel_rfl) (want_by rfl rfl c_3) rfl (fun _ ⟨hL_l, c301⟩ => q_subN _ rfl rfl rfl ho_2.1 ho_2.2) ?_
    obtain ⟨ho_3, hM⟩ := hM
    refine HA.val (k := 10) (v := elemPtr 17 vl (n_1 - 1).toNat) rfl rfl (by kernel_rfl) (by kernel_rfl) (want_by rfl rfl c_3) rfl (fun _ ⟨hL_l, c301⟩ => q_idx ts_32 hL_l rfl rfl ho_3) ?_
    refine HA.val (k := 11) (v := .agg (e_api_Addr (gi l (n_1 - 1))).toArray) rfl rfl (by kernel_rfl) (by kernel_rfl) (want_by rfl rfl c_3) rfl (fun _ ⟨hL_l, c301⟩ => q_ldElemAgg (cs := (e_api_Addr (gi l (n_1 - 1)))) ta_30 hL_l rfl ho_3 rfl) ?_
    refine HA.val (k := 12) (v := .agg (e_api_Addr (gi l n_1)).toArray) rfl rfl (by kernel_rfl) (by kernel_rfl) (want_by rfl rfl c_3) rfl (fun _ ⟨hL_l, c301⟩ => q_loadAgg (cs := (e_api_Addr (gi l n_1))) ta_30 rfl rfl (Blk.cells (k := 17) c301 rfl)) ?_
    refine HA.one (k := 13) ⟨⟨hL_l.is, (hS.box 0 rfl)⟩, (Go.Wk.at_nil _ _)⟩ (by kernel_rfl) ?_
    refine HS.call rfl (want_by rfl rfl c_3) rfl (ec en_40 rfl rfl) (addr_Cmp_walk (fr := (Ow.box b_1 30 (e_api_Addr (gi l n_1)).toArray :: fr)) (gi l (n_1 - 1)) (gi l n_1) hS hM) ?_
    rintro _ h_5 ⟨F_3, r_3, rfl, hk, hS, hM⟩
    replace hK := hK.trans hk
    replace hL_l := hL_l.kp hk
    refine HA.val (k := 14) (v := .bool (decide (0 ≤ r_3))) rfl rfl (by kernel_rfl) (by kernel_rfl) (want_by rfl rfl c_3) rfl (fun _ ⟨hL_l, c301⟩ => q_geq rfl rfl) ?_
    refine HA.val (k := 15) (v := .bool (decide (0 ≤ r_3))) rfl rfl (by kernel_rfl) (by kernel_rfl) (want_by rfl rfl c_2) rfl (fun _ ⟨hL_l, c301⟩ => q_pickK true rfl c_3 rfl) ?_
    refine HA.val (k := 16) (v := .bool (decide (0 ≤ r_3))) rfl rfl (by kernel_rfl) (by kernel_rfl) (want_none) rfl (fun _ ⟨hL_l, c301⟩ => q_pickK false rfl c_2 rfl) ?_
    refine HA.nil ⟨⟨hL_l.is, (hS.box 0 rfl)⟩, (Go.Wk.at_nil _ _)⟩ (by kernel_rfl) (thenQ_normal (?_))
    refine HW.cond (decide (0 ≤ r_3)) rfl (fun c_4 => ?_) (fun c_4 => ?_)
    ·
     replace hM := hM.1 (of_decide_eq_true c_4)
     refine HW.seq ?_
     refine HW.region ?_
     refine oA (.bool false) rfl rfl ?_
     refine HO.nil (thenQ_normal (?_))
     refine HW.ret (blockQ_ret (thenQ_ret (thenQ_ret (blockQ_ret (thenQ_ret (?_))))))
     refine ⟨.inr rfl, .bool false, res1 rfl (rt rfl), ?_⟩
     replace hS : St F_3 (fr) h_5 := hS.perm2 [] 1 rfl rfl
     exact ⟨F_3, false, rfl, hK, hS, hL_l, hM⟩
    ·
     replace hM := hM.2 (of_decide_eq_false c_4)
     refine HW.skip (blockQ_normal (thenQ_normal (?_)))
     refine HW.region ?_
     obtain ⟨ho_4, hM⟩ := hM
     refine oV (.int .i64 (n_1 + 1)) (q_addN _ rfl rfl rfl ho_4.1 ho_4.2) rfl ?_
     refine oM (.int .i64 (n_1 + 1)) rfl rfl ?_
     refine HO.nil (thenQ_normal (?_))
     replace hS : St F_3 (fr) h_5 := hS.perm2 [] 1 rfl rfl
     rw [hKe_1] at hM
     exact ⟨n_1 + 1, ⟨F_3, rfl, rfl, rfl, rfl, rfl, hK, hS, hL_l, hM.1⟩, hM.2⟩
   ·
    replace hM := hM.2 (of_decide_eq_false c_3)
    refine HA.past (k := 7) rfl rfl (by kernel_rfl) (by kernel_rfl) (past_by rfl rfl c_3) rfl ?_
    refine HA.past (k := 8) rfl rfl (by kernel_rfl) (by kernel_rfl) (past_by rfl rfl c_3) rfl ?_
    refine HA.past (k := 9) rfl rfl (by kernel_rfl) (by kernel_rfl) (past_by rfl rfl c_3) rfl ?_
    refine HA.past (k := 10) rfl rfl (by kernel_rfl) (by kernel_rfl) (past_by rfl rfl c_3) rfl ?_
    refine HA.past (k := 11) rfl rfl (by kernel_rfl) (by kernel_rfl) (past_by rfl rfl c_3) rfl ?_
    refine HA.past (k := 12) rfl rfl (by kernel_rfl) (by kernel_rfl) (past_by rfl rfl c_3) rfl ?_
    refine HA.one (k := 13) ⟨⟨hL_l.is, (hS.box 0 rfl)⟩, (Go.Wk.at_nil _ _)⟩ (by kernel_rfl) ?_
    refine HS.past rfl (past_by rfl rfl c_3) rfl ?_
    refine HA.past (k := 14) rfl rfl (by kernel_rfl) (by kernel_rfl) (past_by rfl rfl c_3) rfl ?_
    refine HA.val (k := 15) (v := .bool false) rfl rfl (by kernel_rfl) (by kernel_rfl) (want_by rfl rfl c_2) rfl (fun _ ⟨hL_l, c301⟩ => q_pickK false rfl c_3 rfl) ?_
    refine HA.val (k := 16) (v := .bool false) rfl rfl (by kernel_rfl) (by kernel_rfl) (want_none) rfl (fun _ ⟨hL_l, c301⟩ => q_pickK false rfl c_2 rfl) ?_
    refine HA.nil ⟨⟨hL_l.is, (hS.box 0 rfl)⟩, (Go.Wk.at_nil _ _)⟩ (by kernel_rfl) (thenQ_normal (?_))
    refine HW.condF rfl ?_
    refine HW.skip (blockQ_normal (thenQ_normal (?_)))
    refine HW.region ?_
    obtain ⟨ho_5, hM⟩ := hM
    refine oV (.int .i64 (n_1 + 1)) (q_addN _ rfl rfl rfl ho_5.1 ho_5.2) rfl ?_
    refine oM (.int .i64 (n_1 + 1)) rfl rfl ?_
    refine HO.nil (thenQ_normal (?_))
    replace hS : St F_2 (fr) h_4 := hS.perm2 [] 1 rfl rfl
    rw [hKe_1] at hM
    exact ⟨n_1 + 1, ⟨F_2, rfl, rfl, rfl, rfl, rfl, hK, hS, hL_l, hM.1⟩, hM.2⟩
 ·
  replace hM := hM.2 (of_decide_eq_false c_1)
  refine HW.exit (thenQ_exit (thenQ_exit (blockQ_exit (thenQ_normal (?_)))))
  refine HW.seq ?_
  refine HW.region ?_
  refine oA (.bool true) rfl rfl ?_
  refine HO.nil (thenQ_normal (?_))
  refine HW.ret (?_)
  refine ⟨.inr rfl, .bool true, res1 rfl (rt rfl), ?_⟩
  exact ⟨F_1, true, rfl, hK, hS, hL_l, hM⟩
def merge_none_W (f_Exclude : Bool) (f_Sources : List T_api_Addr) (Q : Bool → Prop) : Prop :=
 ((!f_Exclude) = true → Q (decide ((f_Sources.length : Int) = 0))) ∧ ((!f_Exclude) = false → Q false)
theorem merge_none_walk {F : Fz} {fr : List Ow} {h0 : Heap} (f_Exclude : Bool) (f_Sources : List T_api_Addr) (vf_Sources : Value) (hS : St F (fr) h0) (hL_f_Sources : SliceF F h0 17 e_api_Addr vf_Sources f_Sources) {Q : Bool → Prop} (hM : merge_none_W f_Exclude f_Sources Q) :
  HC Try.prog 41 #[.agg #[.bool f_Exclude, vf_Sources]] h0 fun u h' => ∃ (F' : Fz) (r_1 : Bool), u = .bool r_1 ∧ Kp F h0 F' h' ∧ St F' (fr) h' ∧ (SliceF F' h' 17 e_api_Addr vf_Sources f_Sources) ∧ Q r_1 := by
 unfold merge_none_W at hM
 have hK := Kp.refl F h0
 refine HC.of_HW (n := 12) Try.func41 rfl rfl (Nat.le_of_ble_eq_true rfl) ?_
 refine HW.seq ?_
 refine HW.region ?_
 refine HO.eff (want_none) rfl (st_box (c := #[.bool f_Exclude, vf_Sources]) (k' := 2) hS rfl rfl) ?_
 rintro _ h_1 ⟨b_1, rfl, hS, hk⟩
 replace hK := hK.trans hk
 replace hL_f_Sources := hL_f_Sources.kp hk
 refine oA (.bool false) rfl rfl ?_
 refine HO.nil (thenQ_normal (?_))
 refine HW.seq ?_
 refine HW.region ?_
 refine oV (.pointer (some ⟨b_1, 0, none⟩)) (q_fieldAddr fa_34_0 rfl rfl) rfl ?_
 refine oV (.bool f_Exclude) (q_load to_4 rfl (Blk.cell (hS.box 0 rfl) rfl)) rfl ?_
 refine oV (.bool (!f_Exclude)) (q_not rfl) rfl ?_
 refine oM (.bool (!f_Exclude)) rfl rfl ?_
 rcases Bool.eq_false_or_eq_true (!f_Exclude) with c_1 | c_1
 ·
  replace hM := hM.1 c_1
  refine HO.val (v := .pointer (some ⟨b_1, 1, none⟩)) (want_by rfl rfl c_1) rfl (q_fieldAddr fa_34_1 rfl rfl) ?_
  refine HO.val (v := vf_Sources) (want_by rfl rfl c_1) rfl (q_load to_32 rfl (Blk.cell (hS.box 0 rfl) rfl)) ?_
  refine HO.val (v := .int .i64 (f_Sources.length : Int)) (want_by rfl rfl c_1) rfl (q_len ts_32 (shp hL_f_Sources.is) rfl rfl) ?_
  refine HO.val (v := .bool (decide ((f_Sources.length : Int) = 0))) (want_by rfl rfl c_1) rfl (q_eql rfl rfl) ?_
  refine oV (.bool (decide ((f_Sources.length : Int) = 0))) (q_pickK true rfl c_1 rfl) rfl ?_
  refine oA (.bool (decide ((f_Sources.length : Int) = 0))) rfl rfl ?_
  refine HO.nil (thenQ_normal (?_))
  refine HW.ret (?_)
  refine ⟨.inr rfl, .bool (decide ((f_Sources.length : Int) = 0)), res1 rfl (rt rfl), ?_⟩
  replace hS : St F (fr) h_1 := hS.perm2 [] 1 rfl rfl
  exact ⟨F, decide ((f_Sources.length : Int) = 0), rfl, hK, hS, hL_f_Sources, hM⟩
 ·
  replace hM := hM.2 c_1
  refine HO.past (past_by rfl rfl c_1) rfl ?_
  refine HO.past (past_by rfl rfl c_1) rfl ?_
  refine HO.past (past_by rfl rfl c_1) rfl ?_
  refine HO.past (past_by rfl rfl c_1) rfl ?_
  refine oV (.bool false) (q_pickK false rfl c_1 rfl) rfl ?_
  refine oA (.bool false) rfl rfl ?_
  refine HO.nil (thenQ_normal (?_))
  refine HW.ret (?_)
  refine ⟨.inr rfl, .bool false, res1 rfl (rt rfl), ?_⟩
  replace hS : St F (fr) h_1 := hS.perm2 [] 1 rfl rfl
  exact ⟨F, false, rfl, hK, hS, hL_f_Sources, hM⟩
def merge_None_W (f_Exclude : Bool) (f_Sources : List T_api_Addr) (Q : Bool → Prop) : Prop :=
 merge_none_W f_Exclude f_Sources (fun r_2 => Q r_2)
theorem merge_None_walk {F : Fz} {fr : List Ow} {h0 : Heap} (f_Exclude : Bool) (f_Sources : List T_api_Addr) (vf_Sources : Value) (hS : St F (fr) h0) (hL_f_Sources : SliceF F h0 17 e_api_Addr vf_Sources f_Sources) {Q : Bool → Prop} (hM : merge_None_W f_Exclude f_Sources Q) :
  HC Try.prog 22 #[.agg #[.bool f_Exclude, vf_Sources]] h0 fun u h' => ∃ (F' : Fz) (r_1 : Bool), u = .bool r_1 ∧ Kp F h0 F' h' ∧ St F' (fr) h' ∧ (SliceF F' h' 17 e_api_Addr vf_Sources f_Sources) ∧ Q r_1 := by
 unfold merge_None_W at hM
 have hK := Kp.refl F h0
 refine HC.of_HW (n := 5) Try.func22 rfl rfl (Nat.le_of_ble_eq_true rfl) ?_
 refine HW.seq ?_
 refine HW.region ?_
 refine HO.eff (want_none) rfl (st_box (c := #[.bool f_Exclude, vf_Sources]) (k' := 2) hS rfl rfl) ?_
 rintro _ h_1 ⟨b_1, rfl, hS, hk⟩
 replace hK := hK.trans hk
 replace hL_f_Sources := hL_f_Sources.kp hk
 refine oA (.bool false) rfl rfl ?_
 refine HO.nil (thenQ_normal (?_))
 refine HW.seq ?_
 refine HW.region ?_
 refine oV (.agg #[.bool f_Exclude, vf_Sources]) (q_loadAgg (cs := [.bool f_Exclude, vf_Sources]) ta_34 rfl rfl (Blk.cells (k := 2) (hS.box 0 rfl) rfl)) rfl ?_
 refine HO.call (want_none) rfl (ec en_41 rfl rfl) (merge_none_walk (fr := (Ow.box b_1 34 #[.bool f_Exclude, vf_Sources] :: fr)) f_Exclude f_Sources vf_Sources hS hL_f_Sources hM) ?_
 rintro _ h_2 ⟨F_1, r_2, rfl, hk, hS, _, hM⟩
 replace hK := hK.trans hk
 replace hL_f_Sources := hL_f_Sources.kp hk
 refine oA (.bool r_2) rfl rfl ?_
 refine HO.nil (thenQ_normal (?_))
 refine HW.ret (?_)
 refine ⟨.inr rfl, .bool r_2, res1 rfl (rt rfl), ?_⟩
 replace hS : St F_1 (fr) h_2 := hS.perm2 [] 1 rfl rfl
 exact ⟨F_1, r_2, rfl, hK, hS, hL_f_Sources, hM⟩
def slices_Clone_s_api_Addr_api_Addr_W (s1 : List T_api_Addr) (Q : (List T_api_Addr) → Prop) : Prop :=
 (s1 = [] → Q []) ∧ (True → ((([] : List T_api_Addr).length + s1.length) * 17 ≤ 140737488355328) ∧ (Q (([] : List T_api_Addr) ++ s1)))
theorem slices_Clone_s_api_Addr_api_Addr_walk {F : Fz} {fr : List Ow} {h0 : Heap} (s1 : List T_api_Addr) (vs : Value) (hS : St F (fr) h0) (hL_s1 : SliceF F h0 17 e_api_Addr vs s1) {Q : (List T_api_Addr) → Prop} (hM : slices_Clone_s_api_Addr_api_Addr_W s1 Q) :
  HC Try.prog 42 #[vs] h0 fun u h' => ∃ (F' : Fz) (r_1 : List T_api_Addr) (vr_1 : Value), u = vr_1 ∧ Kp F h0 F' h' ∧ St F' (Ow.own 30 17 e_api_Addr vr_1 r_1 :: fr) h' ∧ (SliceF F' h' 17 e_api_Addr vs s1) ∧ Q r_1 := by
 unfold slices_Clone_s_api_Addr_api_Addr_W at hM
 have hK := Kp.refl F h0
 refine HC.of_HW (n := 8) Try.func42 rfl rfl (Nat.le_of_ble_eq_true rfl) ?_
 refine HW.seq ?_
 refine HW.region ?_
 refine oA (.slice none 0 0) rfl rfl ?_
 refine HO.nil (thenQ_normal (?_))
 refine HW.seq ?_
 refine HW.seq ?_
 refine HW.region ?_
 refine oM (vs) rfl rfl ?_
 refine oV (.bool (isNil vs)) (q_eqlSnil Try.underlying32 (shp hL_s1.is) rfl rfl) rfl ?_
 refine HO.nil (thenQ_normal (?_))
 refine HW.cond (isNil vs) rfl (fun c_1 => ?_) (fun c_1 => ?_)
 ·
  replace hM := hM.1 (isNil_nil hL_s1.is c_1)
  refine HW.seq ?_
  refine HW.region ?_
  refine oA (.slice none 0 0) rfl rfl ?_
  refine HO.nil (thenQ_normal (?_))
  refine HW.ret (thenQ_ret (?_))
  refine ⟨.inr rfl, .slice none 0 0, res1 rfl (rt rfl), ?_⟩
  replace hS := hS.nilOwn 30 17 e_api_Addr
  exact ⟨F, [], .slice none 0 0, rfl, hK, hS, hL_s1, hM⟩
 ·
  replace hM := hM.2 trivial
  refine HW.skip (thenQ_normal (?_))
  refine HW.seq ?_
  refine HW.region ?_
  refine HO.eff (want_none) rfl (st_litEmpty (α := T_api_Addr) e_api_Addr hS tl_32) ?_
  rintro _ h_1 ⟨b_1, rfl, hS, hk⟩
  replace hK := hK.trans hk
  replace hL_s1 := hL_s1.kp hk
  refine oM (vs) rfl rfl ?_
  obtain ⟨ho_1, hM⟩ := hM
  refine HO.eff (want_none) rfl (st_append te_32 hS (i := 0) rfl hL_s1.is rfl rfl rfl (by intro a _ u hu; simp [e_api_Addr, encI, encN, encB, encT] at hu; rcases hu with rfl | rfl | rfl | rfl | rfl | rfl | rfl | rfl | rfl | rfl | rfl | rfl | rfl | rfl | rfl | rfl | rfl <;> rfl) ho_1 (by omega)) ?_
  rintro v_1 h_2 ⟨hS, hk⟩
  replace hK := hK.trans hk
  replace hL_s1 := hL_s1.kp hk
  refine oA (v_1) rfl rfl ?_
  refine HO.nil (thenQ_normal (?_))
  refine HW.ret (?_)
  refine ⟨.inr rfl, v_1, res1 rfl (rt rfl), ?_⟩
  exact ⟨F, ([] : List T_api_Addr) ++ s1, v_1, rfl, hK, hS, hL_s1, hM⟩
def host_own_W (f_Exclude : Bool) (f_Sources : List T_api_Addr) (Q : Bool → (List T_api_Addr) → Prop) : Prop :=
 slices_Clone_s_api_Addr_api_Addr_W f_Sources (fun r_1 => Q f_Exclude r_1)
theorem host_own_walk {F : Fz} {fr : List Ow} {h0 : Heap} (f_Exclude : Bool) (f_Sources : List T_api_Addr) (vf_Sources : Value) (hS : St F (fr) h0) (hL_f_Sources : SliceF F h0 17 e_api_Addr vf_Sources f_Sources) {Q : Bool → (List T_api_Addr) → Prop} (hM : host_own_W f_Exclude f_Sources Q) :
  HC Try.prog 23 #[.agg #[.bool f_Exclude, vf_Sources]] h0 fun u h' => ∃ (F' : Fz) (r_0_1 : Bool) (r_1_1 : List T_api_Addr) (vr_1_1 : Value), u = .agg #[.bool r_0_1, vr_1_1] ∧ Kp F h0 F' h' ∧ St F' (Ow.own 30 17 e_api_Addr vr_1_1 r_1_1 :: fr) h' ∧ (SliceF F' h' 17 e_api_Addr vf_Sources f_Sources) ∧ Q r_0_1 r_1_1 := by
 unfold host_own_W at hM
 have hK := Kp.refl F h0
 refine HC.of_HW (n := 9) Try.func23 rfl rfl (Nat.le_of_ble_eq_true rfl) ?_
 refine HW.seq ?_
 refine HW.region ?_
 refine HO.eff (want_none) rfl (st_box (c := #[.bool f_Exclude, vf_Sources]) (k' := 2) hS rfl rfl) ?_
 rintro _ h_1 ⟨b_1, rfl, hS, hk⟩
 replace hK := hK.trans hk
 replace hL_f_Sources := hL_f_Sources.kp hk
 refine HO.eff (want_none) rfl (st_alloc (c := #[.bool false, .slice none 0 0]) hS tz_34 rfl) ?_
 rintro _ h_2 ⟨b_2, rfl, hS, hk⟩
 replace hK := hK.trans hk
 replace hL_f_Sources := hL_f_Sources.kp hk
 refine HO.nil (thenQ_normal (?_))
 refine HW.seq ?_
 refine HW.regionA 7 mixed (fun h => (Blk h b_1 (.cells #[.bool f_Exclude, vf_Sources] 34 (0, 0)))) [] (by kernel_rfl) ?_
 refine HA.val (k := 0) (v := .pointer (some ⟨b_1, 0, none⟩)) rfl rfl (by kernel_rfl) (by kernel_rfl) (want_none) rfl (fun _ c202 => q_fieldAddr fa_34_0 rfl rfl) ?_
 refine HA.val (k := 1) (v := .bool f_Exclude) rfl rfl (by kernel_rfl) (by kernel_rfl) (want_none) rfl (fun _ c202 => q_load to_4 rfl (Blk.cell c202 rfl)) ?_
 refine HA.val (k := 2) (v := .pointer (some ⟨b_1, 1, none⟩)) rfl rfl (by kernel_rfl) (by kernel_rfl) (want_none) rfl (fun _ c202 => q_fieldAddr fa_34_1 rfl rfl) ?_
 refine HA.val (k := 3) (v := vf_Sources) rfl rfl (by kernel_rfl) (by kernel_rfl) (want_none) rfl (fun _ c202 => q_load to_32 rfl (Blk.cell c202 rfl)) ?_
 refine HA.one (k := 4) ⟨(hS.box 1 rfl), (Go.Wk.at_nil _ _)⟩ (by kernel_rfl) ?_
 refine HS.call rfl (want_none) rfl (ec en_42 rfl rfl) (slices_Clone_s_api_Addr_api_Addr_walk (fr := (Ow.box b_2 34 #[.bool false, .slice none 0 0] :: Ow.box b_1 34 #[.bool f_Exclude, vf_Sources] :: fr)) f_Sources vf_Sources hS hL_f_Sources hM) ?_
 rintro vr_1 h_3 ⟨F_1, r_1, _, rfl, hk, hS, _, hM⟩
 replace hK := hK.trans hk
 replace hL_f_Sources := hL_f_Sources.kp hk
 refine Go.Wk.HA.re (fun h => (OwnIs h 0 30 17 e_api_Addr vr_1 r_1) ∧ (Blk h b_1 (.cells #[.bool f_Exclude, vf_Sources] 34 (0, 0)))) [] (fun L_ h_ hL_ ⟨c228, c202⟩ hs_ => ⟨c202, (Go.Wk.at_nil _ _)⟩) ?_
 refine HA.val (k := 5) (v := .agg #[.bool f_Exclude, vr_1]) rfl rfl (by kernel_rfl) (by kernel_rfl) (want_none) rfl (fun _ ⟨c228, c202⟩ => q_build tp_34 (fill_cons (cs' := #[.bool f_Exclude, .slice none 0 0]) (vc := #[.bool f_Exclude]) rfl rfl rfl (Nat.le_of_ble_eq_true rfl) rfl (fill_cons (cs' := #[.bool f_Exclude, vr_1]) (vc := #[vr_1]) rfl (shp c228.slice).cells rfl (Nat.le_of_ble_eq_true rfl) rfl rfl))) ?_
 refine HA.one (k := 6) ⟨⟨(hS.own 0 rfl), (hS.box 2 rfl)⟩, (Go.Wk.at_nil _ _)⟩ (by kernel_rfl) ?_
 refine HS.sto rfl (want_none) rfl (st_storeAgg (c' := #[.bool f_Exclude, vr_1]) hS (i := 1) rfl ta_34 rfl rfl rfl (List.forall_mem_cons.2 ⟨rfl, (List.forall_mem_cons.2 ⟨(shp (hS.own 0 rfl).slice).one, (fun _ h => by cases h)⟩)⟩) (Nat.le_of_ble_eq_true rfl) rfl) ?_
 rintro h_4 ⟨hS, hk⟩
 replace hK := hK.trans hk
 replace hL_f_Sources := hL_f_Sources.kp hk
 refine HA.nil ⟨⟨(hS.own 0 rfl), (hS.box 2 rfl)⟩, (Go.Wk.at_nil _ _)⟩ (by kernel_rfl) (thenQ_normal (?_))
 refine HW.ret (?_)
 refine ⟨.inr rfl, .agg #[.bool f_Exclude, vr_1], res1 rfl (rca (cs := [.bool f_Exclude, vr_1]) ta_34 rfl rfl (Blk.cells (k := 2) (hS.box 1 rfl) rfl)), ?_⟩
 replace hS : St F_1 (Ow.own 30 17 e_api_Addr vr_1 r_1 :: fr) h_4 := hS.perm2 [0] 3 rfl rfl
 exact ⟨F_1, f_Exclude, r_1, vr_1, rfl, hK, hS, hL_f_Sources, hM⟩
def compat_last_W (v6 : Bool) (Q : Int → Prop) : Prop :=
 (v6 = true → Q 2) ∧ (v6 = false → Q 3)
theorem compat_last_walk {F : Fz} {fr : List Ow} {h0 : Heap} (v6 : Bool) (hS : St F (fr) h0)  {Q : Int → Prop} (hM : compat_last_W v6 Q) :
  HC Try.prog 48 #[.bool v6] h0 fun u h' => ∃ (F' : Fz) (r_1 : Int), u = .int .i64 r_1 ∧ Kp F h0 F' h' ∧ St F' (fr) h' ∧ Q r_1 := by
 unfold compat_last_W at hM
 have hK := Kp.refl F h0
 refine HC.of_HW (n := 4) Try.func48 rfl rfl (Nat.le_of_ble_eq_true rfl) ?_
 refine HW.seq ?_
 refine HW.region ?_
 refine oA (.int .i64 0) rfl rfl ?_
 refine HO.nil (thenQ_normal (?_))
 refine HW.seq ?_
 refine HW.seq ?_
 refine HW.region ?_
 refine oM (.bool v6) rfl rfl ?_
 refine HO.nil (thenQ_normal (?_))
 refine HW.cond v6 rfl (fun c_1 => ?_) (fun c_1 => ?_)
 ·
  replace hM := hM.1 c_1
  refine HW.seq ?_
  refine HW.region ?_
  refine oA (.int .i64 2) rfl rfl ?_
  refine HO.nil (thenQ_normal (?_))
  refine HW.ret (thenQ_ret (?_))
  refine ⟨.inr rfl, .int .i64 2, res1 rfl (rt rfl), ?_⟩
  exact ⟨F, 2, rfl, hK, hS, hM⟩
 ·
  replace hM := hM.2 c_1
  refine HW.skip (thenQ_normal (?_))
  refine HW.seq ?_
  refine HW.region ?_
  refine oA (.int .i64 3) rfl rfl ?_
  refine HO.nil (thenQ_normal (?_))
  refine HW.ret (?_)
  refine ⟨.inr rfl, .int .i64 3, res1 rfl (rt rfl), ?_⟩
  exact ⟨F, 3, rfl, hK, hS, hM⟩
def compat_Mode_j1 (v6 : Bool) (Q : Int → Prop) : Prop :=
 compat_last_W v6 (fun r_2 => Q r_2)
def compat_Mode_W (v6 : Bool) (now : Int) (one : Int) (two : Int) (Q : Int → Prop) : Prop :=
 (now < one → Q 1) ∧ (¬ (now < one) → ((!v6) = true → (now < two → Q 2) ∧ (¬ (now < two) → compat_Mode_j1 v6 Q)) ∧ ((!v6) = false → compat_Mode_j1 v6 Q))
theorem compat_Mode_walk {F : Fz} {fr : List Ow} {h0 : Heap} (v6 : Bool) (now : Int) (one : Int) (two : Int) (hS : St F (fr) h0)  {Q : Int → Prop} (hM : compat_Mode_W v6 now one two Q) :
  HC Try.prog 47 #[.bool v6, .int .i64 now, .int .i64 one, .int .i64 two] h0 fun u h' => ∃ (F' : Fz) (r_1 : Int), u = .int .i64 r_1 ∧ Kp F h0 F' h' ∧ St F' (fr) h' ∧ Q r_1 := by
 unfold compat_Mode_W at hM
 have hK := Kp.refl F h0
 refine HC.of_HW (n := 23) Try.func47 rfl rfl (Nat.le_of_ble_eq_true rfl) ?_
 refine HW.seq ?_
 refine HW.region ?_
 refine oA (.int .i64 0) rfl rfl ?_
 refine HO.nil (thenQ_normal (?_))
 refine HW.seq_mid (fun f h => ∃ (F' : Fz), f 0 = .bool v6 ∧ f 8 = .int .i64 0 ∧ Kp F h0 F' h ∧ St F' (fr) h ∧ compat_Mode_j1 v6 Q) ?_ ?_
 ·
  refine HW.block ?_
  refine HW.seq ?_
  refine HW.region ?_
  refine oM (.int .i64 one) rfl rfl ?_
  refine oM (.int .i64 now) rfl rfl ?_
  refine oV (.bool (decide (now < one))) (q_gtr rfl rfl) rfl ?_
  refine oA (.bool (decide (now < one))) rfl rfl ?_
  refine HO.nil (thenQ_normal (?_))
  refine HW.cond (decide (now < one)) rfl (fun c_1 => ?_) (fun c_1 => ?_)
  ·
   replace hM := hM.1 (of_decide_eq_true c_1)
   refine HW.seq ?_
   refine HW.region ?_
   refine oA (.int .i64 1) rfl rfl ?_
   refine HO.nil (thenQ_normal (?_))
   refine HW.ret (blockQ_ret (thenQ_ret (?_)))
   refine ⟨.inr rfl, .int .i64 1, res1 rfl (rt rfl), ?_⟩
   exact ⟨F, 1, rfl, hK, hS, hM⟩
  ·
   replace hM := hM.2 (of_decide_eq_false c_1)
   refine HW.seq ?_
   refine HW.region ?_
   refine oM (.bool v6) rfl rfl ?_
   refine oV (.bool (!v6)) (q_not rfl) rfl ?_
   refine oM (.bool (!v6)) rfl rfl ?_
   rcases Bool.eq_false_or_eq_true (!v6) with c_2 | c_2
   ·
    replace hM := hM.1 c_2
    refine HO.val (v := .int .i64 two) (want_by rfl rfl c_2) rfl (q_move rfl) ?_
    refine HO.val (v := .int .i64 now) (want_by rfl rfl c_2) rfl (q_move rfl) ?_
    refine HO.val (v := .bool (decide (now < two))) (want_by rfl rfl c_2) rfl (q_gtr rfl rfl) ?_
    refine oV (.bool (decide (now < two))) (q_pickK true rfl c_2 rfl) rfl ?_
    refine oA (.bool (decide (now < two))) rfl rfl ?_
    refine HO.nil (thenQ_normal (?_))
    refine HW.cond (decide (now < two)) rfl (fun c_3 => ?_) (fun c_3 => ?_)
    ·
     replace hM := hM.1 (of_decide_eq_true c_3)
     refine HW.seq ?_
     refine HW.region ?_
     refine oA (.int .i64 2) rfl rfl ?_
     refine HO.nil (thenQ_normal (?_))
     refine HW.ret (blockQ_ret (thenQ_ret (?_)))
     refine ⟨.inr rfl, .int .i64 2, res1 rfl (rt rfl), ?_⟩
     exact ⟨F, 2, rfl, hK, hS, hM⟩
    ·
     replace hM := hM.2 (of_decide_eq_false c_3)
     refine HW.skip (blockQ_normal (thenQ_normal (?_)))
     exact ⟨F, rfl, rfl, hK, hS, hM⟩
   ·
    replace hM := hM.2 c_2
    refine HO.past (past_by rfl rfl c_2) rfl ?_
    refine HO.past (past_by rfl rfl c_2) rfl ?_
    refine HO.past (past_by rfl rfl c_2) rfl ?_
    refine oV (.bool false) (q_pickK false rfl c_2 rfl) rfl ?_
    refine oA (.bool false) rfl rfl ?_
    refine HO.nil (thenQ_normal (?_))
    refine HW.condF rfl ?_
    refine HW.skip (blockQ_normal (thenQ_normal (?_)))
    exact ⟨F, rfl, rfl, hK, hS, hM⟩
 ·
  rintro f_1 h_1 ⟨F_1, e0, e8, hK, hS, hM⟩
  unfold compat_Mode_j1 at hM
  refine HW.fr [(0, .bool v6), (8, .int .i64 0)] ⟨e0, e8, trivial⟩ ?_
  refine HW.seq ?_
  refine HW.region ?_
  refine oM (.bool v6) rfl rfl ?_
  refine HO.call (want_none) rfl (ec en_48 rfl rfl) (compat_last_walk (fr := (fr)) v6 hS hM) ?_
  rintro _ h_2 ⟨F_2, r_2, rfl, hk, hS, hM⟩
  replace hK := hK.trans hk
  refine oA (.int .i64 r_2) rfl rfl ?_
  refine HO.nil (thenQ_normal (?_))
  refine HW.ret (?_)
  refine ⟨.inr rfl, .int .i64 r_2, res1 rfl (rt rfl), ?_⟩
  exact ⟨F_2, r_2, rfl, hK, hS, hM⟩
def host_Host_mode_W (h_v6 : Bool) (h_now : Int) (h_want : List (T_api_Addr × T_api_Filter)) (h_one : Int) (h_two : Int) (Q : Int → Prop) : Prop :=
 compat_Mode_W h_v6 h_now h_one h_two (fun r_2 => Q r_2)
theorem host_Host_mode_walk {F : Fz} {fr : List Ow} {h0 : Heap} (h_v6 : Bool) (h_now : Int) (h_want : List (T_api_Addr × T_api_Filter)) (h_one : Int) (h_two : Int) (bh : Nat) (rh_want : Nat) (hS : St F (fr) h0) (hN_h_want : NfL nf_api_Filter F h0 (h_want.map (·.2))) (hM_rh_want : RoF (Ow.map rh_want (fun (x : T_api_Addr) => .agg (e_api_Addr x).toArray) (fun (x : T_api_Filter) => .agg #[.bool x.1, x.2.1]) h_want) F h0) (hB_bh : RoF (Ow.box bh 52 #[.bool h_v6, .int .i64 h_now, .map (some rh_want), .int .i64 h_one, .int .i64 h_two]) F h0) {Q : Int → Prop} (hM : host_Host_mode_W h_v6 h_now h_want h_one h_two Q) :
  HC Try.prog 28 #[.pointer (some ⟨bh, 0, none⟩)] h0 fun u h' => ∃ (F' : Fz) (r_1 : Int), u = .int .i64 r_1 ∧ Kp F h0 F' h' ∧ St F' (fr) h' ∧ (NfL nf_api_Filter F' h' (h_want.map (·.2))) ∧ (RoF (Ow.map rh_want (fun (x : T_api_Addr) => .agg (e_api_Addr x).toArray) (fun (x : T_api_Filter) => .agg #[.bool x.1, x.2.1]) h_want) F' h') ∧ (RoF (Ow.box bh 52 #[.bool h_v6, .int .i64 h_now, .map (some rh_want), .int .i64 h_one, .int .i64 h_two]) F' h') ∧ Q r_1 := by
 unfold host_Host_mode_W at hM
 have hK := Kp.refl F h0
 refine HC.of_HW (n := 20) Try.func28 rfl rfl (Nat.le_of_ble_eq_true rfl) ?_
 refine HW.seq ?_
 refine HW.region ?_
 refine oA (.int .i64 0) rfl rfl ?_
 refine HO.nil (thenQ_normal (?_))
 refine HW.seq ?_
 refine HW.regionA 18 mixed (fun h => (Blk h bh (.cells #[.bool h_v6, .int .i64 h_now, .map (some rh_want), .int .i64 h_one, .int .i64 h_two] 52 (0, 0)))) [] (by kernel_rfl) ?_
 refine HA.val (k := 0) (v := .pointer (some ⟨bh, 0, none⟩)) rfl rfl (by kernel_rfl) (by kernel_rfl) (want_none) rfl (fun _ hB_bh => q_move rfl) ?_
 refine HA.val (k := 1) (v := .pointer (some ⟨bh, 0, none⟩)) rfl rfl (by kernel_rfl) (by kernel_rfl) (want_none) rfl (fun _ hB_bh => q_nilCheck rfl) ?_
 refine HA.val (k := 2) (v := .pointer (some ⟨bh, 0, none⟩)) rfl rfl (by kernel_rfl) (by kernel_rfl) (want_none) rfl (fun _ hB_bh => q_fieldAddr fa_52_0 rfl rfl) ?_
 refine HA.val (k := 3) (v := .bool h_v6) rfl rfl (by kernel_rfl) (by kernel_rfl) (want_none) rfl (fun _ hB_bh => q_load to_4 rfl (Blk.cell hB_bh rfl)) ?_
 refine HA.val (k := 4) (v := .pointer (some ⟨bh, 0, none⟩)) rfl rfl (by kernel_rfl) (by kernel_rfl) (want_none) rfl (fun _ hB_bh => q_move rfl) ?_
 refine HA.val (k := 5) (v := .pointer (some ⟨bh, 0, none⟩)) rfl rfl (by kernel_rfl) (by kernel_rfl) (want_none) rfl (fun _ hB_bh => q_nilCheck rfl) ?_
 refine HA.val (k := 6) (v := .pointer (some ⟨bh, 1, none⟩)) rfl rfl (by kernel_rfl) (by kernel_rfl) (want_none) rfl (fun _ hB_bh => q_fieldAddr fa_52_1 rfl rfl) ?_
 refine HA.val (k := 7) (v := .int .i64 h_now) rfl rfl (by kernel_rfl) (by kernel_rfl) (want_none) rfl (fun _ hB_bh => q_load to_3 rfl (Blk.cell hB_bh rfl)) ?_
 refine HA.val (k := 8) (v := .pointer (some ⟨bh, 0, none⟩)) rfl rfl (by kernel_rfl) (by kernel_rfl) (want_none) rfl (fun _ hB_bh => q_move rfl) ?_
 refine HA.val (k := 9) (v := .pointer (some ⟨bh, 0, none⟩)) rfl rfl (by kernel_rfl) (by kernel_rfl) (want_none) rfl (fun _ hB_bh => q_nilCheck rfl) ?_
 refine HA.val (k := 10) (v := .pointer (some ⟨bh, 3, none⟩)) rfl rfl (by kernel_rfl) (by kernel_rfl) (want_none) rfl (fun _ hB_bh => q_fieldAddr fa_52_3 rfl rfl) ?_
 refine HA.val (k := 11) (v := .int .i64 h_one) rfl rfl (by kernel_rfl) (by kernel_rfl) (want_none) rfl (fun _ hB_bh => q_load to_3 rfl (Blk.cell hB_bh rfl)) ?_
 refine HA.val (k := 12) (v := .pointer (some ⟨bh, 0, none⟩)) rfl rfl (by kernel_rfl) (by kernel_rfl) (want_none) rfl (fun _ hB_bh => q_move rfl) ?_
 refine HA.val (k := 13) (v := .pointer (some ⟨bh, 0, none⟩)) rfl rfl (by kernel_rfl) (by kernel_rfl) (want_none) rfl (fun _ hB_bh => q_nilCheck rfl) ?_
 refine HA.val (k := 14) (v := .pointer (some ⟨bh, 4, none⟩)) rfl rfl (by kernel_rfl) (by kernel_rfl) (want_none) rfl (fun _ hB_bh => q_fieldAddr fa_52_4 rfl rfl) ?_
 refine HA.val (k := 15) (v := .int .i64 h_two) rfl rfl (by kernel_rfl) (by kernel_rfl) (want_none) rfl (fun _ hB_bh => q_load to_3 rfl (Blk.cell hB_bh rfl)) ?_
 refine HA.one (k := 16) ⟨hB_bh.box, (Go.Wk.at_nil _ _)⟩ (by kernel_rfl) ?_
 refine HS.call rfl (want_none) rfl (ec en_47 rfl rfl) (compat_Mode_walk (fr := (fr)) h_v6 h_now h_one h_two hS hM) ?_
 rintro _ h_1 ⟨F_1, r_2, rfl, hk, hS, hM⟩
 replace hK := hK.trans hk
 replace hN_h_want := hN_h_want.kp hk
 replace hM_rh_want := hM_rh_want.kp hk
 replace hB_bh := hB_bh.kp hk
 refine HA.val (k := 17) (v := .int .i64 r_2) rfl rfl (by kernel_rfl) (by kernel_rfl) (want_none) rfl (fun _ hB_bh => q_assign rfl) ?_
 refine HA.nil ⟨hB_bh.box, (Go.Wk.at_nil _ _)⟩ (by kernel_rfl) (thenQ_normal (?_))
 refine HW.ret (?_)
 refine ⟨.inr rfl, .int .i64 r_2, res1 rfl (rt rfl), ?_⟩
 exact ⟨F_1, r_2, rfl, hK, hS, hN_h_want, hM_rh_want, hB_bh, hM⟩
def compat_Last_W (v6 : Bool) (Q : Int → Prop) : Prop :=
 compat_last_W v6 (fun r_2 => Q r_2)
theorem compat_Last_walk {F : Fz} {fr : List Ow} {h0 : Heap} (v6 : Bool) (hS : St F (fr) h0)  {Q : Int → Prop} (hM : compat_Last_W v6 Q) :
  HC Try.prog 29 #[.bool v6] h0 fun u h' => ∃ (F' : Fz) (r_1 : Int), u = .int .i64 r_1 ∧ Kp F h0 F' h' ∧ St F' (fr) h' ∧ Q r_1 := by
 unfold compat_Last_W at hM
 have hK := Kp.refl F h0
 refine HC.of_HW (n := 5) Try.func29 rfl rfl (Nat.le_of_ble_eq_true rfl) ?_
 refine HW.seq ?_
 refine HW.region ?_
 refine oA (.int .i64 0) rfl rfl ?_
 refine HO.nil (thenQ_normal (?_))
 refine HW.seq ?_
 refine HW.region ?_
 refine oM (.bool v6) rfl rfl ?_
 refine HO.call (want_none) rfl (ec en_48 rfl rfl) (compat_last_walk (fr := (fr)) v6 hS hM) ?_
 rintro _ h_1 ⟨F_1, r_2, rfl, hk, hS, hM⟩
 replace hK := hK.trans hk
 refine oA (.int .i64 r_2) rfl rfl ?_
 refine HO.nil (thenQ_normal (?_))
 refine HW.ret (?_)
 refine ⟨.inr rfl, .int .i64 r_2, res1 rfl (rt rfl), ?_⟩
 exact ⟨F_1, r_2, rfl, hK, hS, hM⟩
def srcs_walk_1_api_Addr_W (x : T_api_Addr) (is : Bool) (c0_v : List T_api_Addr) (Q : (List T_api_Addr) → Prop) : Prop :=
 (is = true → ((c0_v.length + ([x] : List T_api_Addr).length) * 17 ≤ 140737488355328) ∧ (Q (c0_v ++ ([x] : List T_api_Addr)))) ∧ (is = false → Q c0_v)
theorem srcs_walk_1_api_Addr_walk {F : Fz} {fr : List Ow} {h0 : Heap} (x : T_api_Addr) (is : Bool) (c0_v : List T_api_Addr) (bc0 : Nat) (vc0_v : Value) (hS : St F (Ow.box bc0 32 #[vc0_v] :: Ow.own 30 17 e_api_Addr vc0_v c0_v :: fr) h0)  {Q : (List T_api_Addr) → Prop} (hM : srcs_walk_1_api_Addr_W x is c0_v Q) :
  HC Try.prog 84 #[.agg (e_api_Addr x).toArray, .bool is, .pointer (some ⟨bc0, 0, none⟩)] h0 fun u h' => ∃ (F' : Fz) (a2_0_2 : List T_api_Addr) (v_1 : Value), u = .tuple #[] ∧ Kp F h0 F' h' ∧ St F' (Ow.box bc0 32 #[v_1] :: Ow.own 30 17 e_api_Addr v_1 a2_0_2 :: fr) h' ∧ Q a2_0_2 := by
 unfold srcs_walk_1_api_Addr_W at hM
 have hK := Kp.refl F h0
 refine HC.of_HW (n := 10) Try.func84 rfl rfl (Nat.le_of_ble_eq_true rfl) ?_
 refine HW.seq ?_
 refine HW.region ?_
 refine HO.eff (want_none) rfl (st_box (c := (e_api_Addr x).toArray) (k' := 17) hS rfl rfl) ?_
 rintro _ h_1 ⟨b_1, rfl, hS, hk⟩
 replace hK := hK.trans hk
 refine HO.nil (thenQ_normal (?_))
 refine HW.seq ?_
 refine HW.region ?_
 refine oM (.bool is) rfl rfl ?_
 refine HO.nil (thenQ_normal (?_))
 refine HW.cond is rfl (fun c_1 => ?_) (fun c_1 => ?_)
 ·
  replace hM := hM.1 c_1
  refine HW.region ?_
  refine oV (vc0_v) (q_load to_32 rfl (Blk.cell (hS.box 1 rfl) rfl)) rfl ?_
  refine oV (.agg (e_api_Addr x).toArray) (q_loadAgg (cs := (e_api_Addr x)) ta_30 rfl rfl (Blk.cells (k := 17) (hS.box 0 rfl) rfl)) rfl ?_
  refine HO.eff (want_none) rfl (st_lit (enc := e_api_Addr) (cells := #[.bool x.1, .int .u8 (b8 x.2 0), .int .u8 (b8 x.2 1), .int .u8 (b8 x.2 2), .int .u8 (b8 x.2 3), .int .u8 (b8 x.2 4), .int .u8 (b8 x.2 5), .int .u8 (b8 x.2 6), .int .u8 (b8 x.2 7), .int .u8 (b8 x.2 8), .int .u8 (b8 x.2 9), .int .u8 (b8 x.2 10), .int .u8 (b8 x.2 11), .int .u8 (b8 x.2 12), .int .u8 (b8 x.2 13), .int .u8 (b8 x.2 14), .int .u8 (b8 x.2 15)]) #[.bool false, .int .u8 0, .int .u8 0, .int .u8 0, .int .u8 0, .int .u8 0, .int .u8 0, .int .u8 0, .int .u8 0, .int .u8 0, .int .u8 0, .int .u8 0, .int .u8 0, .int .u8 0, .int .u8 0, .int .u8 0, .int .u8 0] ([x] : List T_api_Addr) hS tl_32 (by decide) (by decide) (by kernel_rfl) (by kernel_rfl) rfl (by intro x hx; rfl) rfl) ?_
  rintro _ h_2 ⟨b_2, rfl, hS, hk⟩
  replace hK := hK.trans hk
  obtain ⟨ho_1, hM⟩ := hM
  refine HO.eff (want_none) rfl (st_append te_32 hS (i := 3) rfl (hS.own 0 rfl).slice rfl rfl rfl (by intro a _ u hu; simp [e_api_Addr, encI, encN, encB, encT] at hu; rcases hu with rfl | rfl | rfl | rfl | rfl | rfl | rfl | rfl | rfl | rfl | rfl | rfl | rfl | rfl | rfl | rfl | rfl <;> rfl) ho_1 (by omega)) ?_
  rintro v_2 h_3 ⟨hS, hk⟩
  replace hK := hK.trans hk
  refine HO.sto (want_none) rfl (st_store (c' := #[v_2]) hS (i := 2) rfl to_32 rfl rfl (shp (hS.own 3 rfl).slice).cells (shp (hS.own 3 rfl).slice).one (Nat.le_of_ble_eq_true rfl) rfl) ?_
  rintro h_4 ⟨hS, hk⟩
  replace hK := hK.trans hk
  refine HO.nil (?_)
  refine ⟨.inl rfl, .tuple #[], res0 rfl , ?_⟩
  replace hS : St F (Ow.box bc0 32 #[v_2] :: Ow.own 30 17 e_api_Addr v_2 (c0_v ++ ([x] : List T_api_Addr)) :: fr) h_4 := hS.perm2 [2, 3] 4 rfl rfl
  exact ⟨F, c0_v ++ ([x] : List T_api_Addr), v_2, rfl, hK, hS, hM⟩
 ·
  replace hM := hM.2 c_1
  refine HW.skip (?_)
  refine ⟨.inl rfl, .tuple #[], res0 rfl , ?_⟩
  replace hS : St F (Ow.box bc0 32 #[vc0_v] :: Ow.own 30 17 e_api_Addr vc0_v c0_v :: fr) h_1 := hS.perm2 [1, 2] 3 rfl rfl
  exact ⟨F, c0_v, vc0_v, rfl, hK, hS, hM⟩
def srcs_walk_api_Addr_l3 (second : Bool) (Q : (List T_api_Addr) → Prop) (b_2 : List T_api_Addr) (K_3 : (List T_api_Addr) → Int → Prop) (out_0_3 : List T_api_Addr) (n_2 : Int) : Prop :=
 (n_2 < (b_2.length : Int) → ((0 : Int) ≤ n_2 ∧ n_2 < (b_2.length : Int)) ∧ (srcs_walk_1_api_Addr_W (gi b_2 n_2) second out_0_3 (fun a2_0_5 => (I64 (n_2 + 1)) ∧ (K_3 a2_0_5 (n_2 + 1))))) ∧ (¬ (n_2 < (b_2.length : Int)) → Q out_0_3)
def srcs_walk_api_Addr_l2 (first : Bool) (second : Bool) (Q : (List T_api_Addr) → Prop) (a_1 : List T_api_Addr) (b_2 : List T_api_Addr) (K_2 : (List T_api_Addr) → Int → Prop) (out_0_2 : List T_api_Addr) (n_1 : Int) : Prop :=
 (n_1 < (a_1.length : Int) → ((0 : Int) ≤ n_1 ∧ n_1 < (a_1.length : Int)) ∧ (srcs_walk_1_api_Addr_W (gi a_1 n_1) first out_0_2 (fun a2_0_4 => (I64 (n_1 + 1)) ∧ (K_2 a2_0_4 (n_1 + 1))))) ∧ (¬ (n_1 < (a_1.length : Int)) → loopW (fun (K_3 : (List T_api_Addr × Int) → Prop) (s : List T_api_Addr × Int) => srcs_walk_api_Addr_l3 second Q b_2 (fun out_0_3 n_2 => K_3 (out_0_3, n_2)) s.1 s.2) (out_0_2, 0))
def srcs_walk_api_Addr_j1 (cf_order : T_api_Addr → T_api_Addr → Int) (first : Bool) (both : Bool) (second : Bool) (Q : (List T_api_Addr) → Prop) (a_1 : List T_api_Addr) (b_2 : List T_api_Addr) (out_0_1 : List T_api_Addr) (K_1 : (List T_api_Addr) → (List T_api_Addr) → (List T_api_Addr) → Prop) (b_3 : Bool) : Prop :=
 (b_3 = true → ((0 : Int) ≤ 0 ∧ 0 < (a_1.length : Int)) ∧ (((0 : Int) ≤ 0 ∧ 0 < (b_2.length : Int)) ∧ (((cf_order (gi a_1 0) (gi b_2 0)) < 0 → srcs_walk_1_api_Addr_W (gi a_1 0) first out_0_1 (fun a2_0_1 => ((0 : Int) ≤ 1 ∧ 1 ≤ (a_1.length : Int)) ∧ (K_1 (cut a_1 1 (a_1.length : Int)) b_2 a2_0_1))) ∧ (¬ ((cf_order (gi a_1 0) (gi b_2 0)) < 0) → (0 < (cf_order (gi a_1 0) (gi b_2 0)) → srcs_walk_1_api_Addr_W (gi b_2 0) second out_0_1 (fun a2_0_2 => ((0 : Int) ≤ 1 ∧ 1 ≤ (b_2.length : Int)) ∧ (K_1 a_1 (cut b_2 1 (b_2.length : Int)) a2_0_2))) ∧ (¬ (0 < (cf_order (gi a_1 0) (gi b_2 0))) → srcs_walk_1_api_Addr_W (gi a_1 0) both out_0_1 (fun a2_0_3 => ((0 : Int) ≤ 1 ∧ 1 ≤ (a_1.length : Int)) ∧ (((0 : Int) ≤ 1 ∧ 1 ≤ (b_2.length : Int)) ∧ (K_1 (cut a_1 1 (a_1.length : Int)) (cut b_2 1 (b_2.length : Int)) a2_0_3)))))))) ∧ (b_3 = false → loopW (fun (K_2 : (List T_api_Addr × Int) → Prop) (s : List T_api_Addr × Int) => srcs_walk_api_Addr_l2 first second Q a_1 b_2 (fun out_0_2 n_1 => K_2 (out_0_2, n_1)) s.1 s.2) (out_0_1, 0))
def srcs_walk_api_Addr_l1 (cf_order : T_api_Addr → T_api_Addr → Int) (first : Bool) (both : Bool) (second : Bool) (Q : (List T_api_Addr) → Prop) (K_1 : (List T_api_Addr) → (List T_api_Addr) → (List T_api_Addr) → Prop) (a_1 : List T_api_Addr) (b_2 : List T_api_Addr) (out_0_1 : List T_api_Addr) : Prop :=
 (0 < (a_1.length : Int) → srcs_walk_api_Addr_j1 cf_order first both second Q a_1 b_2 out_0_1 K_1 (decide (0 < (b_2.length : Int)))) ∧ (¬ (0 < (a_1.length : Int)) → srcs_walk_api_Addr_j1 cf_order first both second Q a_1 b_2 out_0_1 K_1 false)
def srcs_walk_api_Addr_W (a : List T_api_Addr) (b : List T_api_Addr) (cf_order : T_api_Addr → T_api_Addr → Int) (first : Bool) (both : Bool) (second : Bool) (Q : (List T_api_Addr) → Prop) : Prop :=
 loopW (fun (K_1 : (List T_api_Addr × List T_api_Addr × List T_api_Addr) → Prop) (s : List T_api_Addr × List T_api_Addr × List T_api_Addr) => srcs_walk_api_Addr_l1 cf_order first both second Q (fun a_1 b_2 out_0_1 => K_1 (a_1, b_2, out_0_1)) s.1 s.2.1 s.2.2) (a, b, [])
theorem srcs_walk_api_Addr_walk {F : Fz} {fr : List Ow} {h0 : Heap} (a : List T_api_Addr) (b : List T_api_Addr) (cf_order : T_api_Addr → T_api_Addr → Int) (first : Bool) (both : Bool) (second : Bool) (va : Value) (vb : Value) (g_order : Nat) (fs_order : Array Value) (cs_order : Array Value) (hS : St F (fr) h0) (hL_a : SliceF F h0 17 e_api_Addr va a) (hL_b : SliceF F h0 17 e_api_Addr vb b) (hF_cf_order : FnP Try.prog F h0 g_order fs_order cs_order (fun x : T_api_Addr × T_api_Addr => [.agg (e_api_Addr x.1).toArray, .agg (e_api_Addr x.2).toArray]) (fun x => .int .i64 (cf_order x.1 x.2))) {Q : (List T_api_Addr) → Prop} (hM : srcs_walk_api_Addr_W a b cf_order first both second Q) :
  HC Try.prog 71 #[va, vb, .func (.func g_order) fs_order cs_order, .bool first, .bool both, .bool second] h0 fun u h' => ∃ (F' : Fz) (r_1 : List T_api_Addr) (vr_1 : Value), u = vr_1 ∧ Kp F h0 F' h' ∧ St F' (Ow.own 30 17 e_api_Addr vr_1 r_1 :: fr) h' ∧ (SliceF F' h' 17 e_api_Addr va a) ∧ (SliceF F' h' 17 e_api_Addr vb b) ∧ (FnP Try.prog F' h' g_order fs_order cs_order (fun x : T_api_Addr × T_api_Addr => [.agg (e_api_Addr x.1).toArray, .agg (e_api_Addr x.2).toArray]) (fun x => .int .i64 (cf_order x.1 x.2))) ∧ Q r_1 := by
 unfold srcs_walk_api_Addr_W at hM
 have hK := Kp.refl F h0
 refine HC.of_HW (n := 92) Try.func71 rfl rfl (Nat.le_of_ble_eq_true rfl) ?_
 refine HW.seq ?_
 refine HW.region ?_
 refine oA (.slice none 0 0) rfl rfl ?_
 refine HO.nil (thenQ_normal (?_))
 refine HW.seq ?_
 refine HW.region ?_
 refine HO.eff (want_none) rfl (st_alloc (c := #[.slice none 0 0]) hS tz_32 rfl) ?_
 rintro _ h_1 ⟨b_1, rfl, hS, hk⟩
 replace hK := hK.trans hk
 replace hL_a := hL_a.kp hk
 replace hL_b := hL_b.kp hk
 replace hF_cf_order := hF_cf_order.kp hk
 refine HO.nil (thenQ_normal (?_))
 refine HW.seq ?_
 refine HW.region ?_
 refine oV (.func (.func 84) #[] #[.pointer (some ⟨b_1, 0, none⟩)]) (q_makeFunc rfl rfl) rfl ?_
 refine oA (.func (.func 84) #[] #[.pointer (some ⟨b_1, 0, none⟩)]) rfl rfl ?_
 refine HO.nil (thenQ_normal (?_))
 refine HW.seq ?_
 refine HW.block ?_
 obtain ⟨I_1, m_1, hI_1, hR_1⟩ := hM
 replace hS := hS.nilOwn 30 17 e_api_Addr
 replace hS : St F (Ow.box b_1 32 #[.slice none 0 0] :: Ow.own 30 17 e_api_Addr (.slice none 0 0) ([] : List T_api_Addr) :: fr) h_1 := hS.perm2 [1, 0] 2 rfl rfl
 refine HW.loop (S := List T_api_Addr × List T_api_Addr × List T_api_Addr) (fun s f h => match s with | (a_1, b_2, out_0_1) => ∃ (F' : Fz) (va_1 : Value) (vb_1 : Value) (vout_0_1 : Value), f 0 = va_1 ∧ f 1 = vb_1 ∧ f 2 = .func (.func g_order) fs_order cs_order ∧ f 3 = .bool first ∧ f 4 = .bool both ∧ f 5 = .bool second ∧ f 12 = .slice none 0 0 ∧ f 13 = .pointer (some ⟨b_1, 0, none⟩) ∧ f 14 = .func (.func 84) #[] #[.pointer (some ⟨b_1, 0, none⟩)] ∧ Kp F h0 F' h ∧ St F' (Ow.box b_1 32 #[vout_0_1] :: Ow.own 30 17 e_api_Addr vout_0_1 out_0_1 :: fr) h ∧ (SliceF F' h 17 e_api_Addr va a) ∧ (SliceF F' h 17 e_api_Addr vb b) ∧ (FnP Try.prog F' h g_order fs_order cs_order (fun x : T_api_Addr × T_api_Addr => [.agg (e_api_Addr x.1).toArray, .agg (e_api_Addr x.2).toArray]) (fun x => .int .i64 (cf_order x.1 x.2))) ∧ (SliceF F' h 17 e_api_Addr va_1 a_1) ∧ (SliceF F' h 17 e_api_Addr vb_1 b_2) ∧ I_1 (a_1, b_2, out_0_1)) m_1 (a, b, []) ⟨F, va, vb, .slice none 0 0, rfl, rfl, rfl, rfl, rfl, rfl, rfl, rfl, rfl, hK, hS, hL_a, hL_b, hF_cf_order, hL_a, hL_b, hI_1⟩ ?_
 rintro ⟨a_1, b_2, out_0_1⟩ f_1 h_2 ⟨F_1, va_1, vb_1, vout_0_1, e0, e1, e2, e3, e4, e5, e12, e13, e14, hK, hS, hL_a, hL_b, hF_cf_order, hL_1, hL_2, hI0⟩
 obtain ⟨K_1, hKe_1⟩ : ∃ K : (List T_api_Addr) → (List T_api_Addr) → (List T_api_Addr) → Prop, K = fun a_1' b_2' out_0_1' => I_1 (a_1', b_2', out_0_1') ∧ m_1 (a_1', b_2', out_0_1') < m_1 (a_1, b_2, out_0_1) := ⟨_, rfl⟩
 have hM : srcs_walk_api_Addr_l1 cf_order first both second Q K_1 a_1 b_2 out_0_1 := by rw [hKe_1]; exact hR_1 (a_1, b_2, out_0_1) hI0
 unfold srcs_walk_api_Addr_l1 at hM
 refine HW.fr [(0, va_1), (1, vb_1), (2, .func (.func g_order) fs_order cs_order), (3, .bool first), (4, .bool both), (5, .bool second), (12, .slice none 0 0), (13, .pointer (some ⟨b_1, 0, none⟩)), (14, .func (.func 84) #[] #[.pointer (some ⟨b_1, 0, none⟩)])] ⟨e0, e1, e2, e3, e4, e5, e12, e13, e14, trivial⟩ ?_
 refine HW.seq ?_
 refine HW.seq_mid (fun f h => ∃ (F' : Fz) (b_3 : Bool), f 0 = va_1 ∧ f 1 = vb_1 ∧ f 2 = .func (.func g_order) fs_order cs_order ∧ f 3 = .bool first ∧ f 4 = .bool both ∧ f 5 = .bool second ∧ f 12 = .slice none 0 0 ∧ f 13 = .pointer (some ⟨b_1, 0, none⟩) ∧ f 14 = .func (.func 84) #[] #[.pointer (some ⟨b_1, 0, none⟩)] ∧ f 28 = .bool b_3 ∧ Kp F h0 F' h ∧ St F' (Ow.box b_1 32 #[vout_0_1] :: Ow.own 30 17 e_api_Addr vout_0_1 out_0_1 :: fr) h ∧ (SliceF F' h 17 e_api_Addr va a) ∧ (SliceF F' h 17 e_api_Addr vb b) ∧ (FnP Try.prog F' h g_order fs_order cs_order (fun x : T_api_Addr × T_api_Addr => [.agg (e_api_Addr x.1).toArray, .agg (e_api_Addr x.2).toArray]) (fun x => .int .i64 (cf_order x.1 x.2))) ∧ (SliceF F' h 17 e_api_Addr va_1 a_1) ∧ (SliceF F' h 17 e_api_Addr vb_1 b_2) ∧ srcs_walk_api_Addr_j1 cf_order first both second Q a_1 b_2 out_0_1 K_1 b_3) ?_ ?_
 ·
  refine HW.region ?_
  refine oM (va_1) rfl rfl ?_
  refine oV (.int .i64 (a_1.length : Int)) (q_len ts_32 (shp hL_1.is) rfl rfl) rfl ?_
  refine oV (.bool (decide (0 < (a_1.length : Int)))) (q_gtr rfl rfl) rfl ?_
  refine oM (.bool (decide (0 < (a_1.length : Int)))) rfl rfl ?_
  rcases Bool.eq_false_or_eq_true (decide (0 < (a_1.length : Int))) with c_1 | c_1
  ·
   replace hM := hM.1 (of_decide_eq_true c_1)
   refine HO.val (v := vb_1) (want_by rfl rfl c_1) rfl (q_move rfl) ?_
   refine HO.val (v := .int .i64 (b_2.length : Int)) (want_by rfl rfl c_1) rfl (q_len ts_32 (shp hL_2.is) rfl rfl) ?_
   refine HO.val (v := .bool (decide (0 < (b_2.length : Int)))) (want_by rfl rfl c_1) rfl (q_gtr rfl rfl) ?_
   refine oV (.bool (decide (0 < (b_2.length : Int)))) (q_pickK true rfl c_1 rfl) rfl ?_
   refine HO.nil (thenQ_normal (?_))
   exact ⟨F_1, decide (0 < (b_2.length : Int)), rfl, rfl, rfl, rfl, rfl, rfl, rfl, rfl, rfl, rfl, hK, hS, hL_a, hL_b, hF_cf_order, hL_1, hL_2, hM⟩
  ·
   replace hM := hM.2 (of_decide_eq_false c_1)
   refine HO.past (past_by rfl rfl c_1) rfl ?_
   refine HO.past (past_by rfl rfl c_1) rfl ?_
   refine HO.past (past_by rfl rfl c_1) rfl ?_
   refine oV (.bool false) (q_pickK false rfl c_1 rfl) rfl ?_
   refine HO.nil (thenQ_normal (?_))
   exact ⟨F_1, false, rfl, rfl, rfl, rfl, rfl, rfl, rfl, rfl, rfl, rfl, hK, hS, hL_a, hL_b, hF_cf_order, hL_1, hL_2, hM⟩
 ·
  rintro f_2 h_3 ⟨F_2, b_3, e0, e1, e2, e3, e4, e5, e12, e13, e14, e28, hK, hS, hL_a, hL_b, hF_cf_order, hL_1, hL_2, hM⟩
  unfold srcs_walk_api_Addr_j1 at hM
  refine HW.fr [(0, va_1), (1, vb_1), (2, .func (.func g_order) fs_order cs_order), (3, .bool first), (4, .bool both), (5, .bool second), (12, .slice none 0 0), (13, .pointer (some ⟨b_1, 0, none⟩)), (14, .func (.func 84) #[] #[.pointer (some ⟨b_1, 0, none⟩)]), (28, .bool b_3)] ⟨e0, e1, e2, e3, e4, e5, e12, e13, e14, e28, trivial⟩ ?_
  refine HW.cond b_3 rfl (fun c_2 => ?_) (fun c_2 => ?_)
  ·
   replace hM := hM.1 c_2
   refine HW.skip (thenQ_normal (?_))
   refine HW.block ?_
   refine HW.seq ?_
   refine HW.regionA 9 mixed (fun h => (SliceIs h 17 e_api_Addr va_1 a_1) ∧ (SliceIs h 17 e_api_Addr vb_1 b_2)) [] (by kernel_rfl) ?_
   refine HA.val (k := 0) (v := .func (.func g_order) fs_order cs_order) rfl rfl (by kernel_rfl) (by kernel_rfl) (want_none) rfl (fun _ ⟨hL_1, hL_2⟩ => q_move rfl) ?_
   refine HA.val (k := 1) (v := va_1) rfl rfl (by kernel_rfl) (by kernel_rfl) (want_none) rfl (fun _ ⟨hL_1, hL_2⟩ => q_move rfl) ?_
   obtain ⟨ho_1, hM⟩ := hM
   refine HA.val (k := 2) (v := elemPtr 17 va_1 (0 : Int).toNat) rfl rfl (by kernel_rfl) (by kernel_rfl) (want_none) rfl (fun _ ⟨hL_1, hL_2⟩ => q_idx ts_32 hL_1 rfl rfl ho_1) ?_
   refine HA.val (k := 3) (v := .agg (e_api_Addr (gi a_1 0)).toArray) rfl rfl (by kernel_rfl) (by kernel_rfl) (want_none) rfl (fun _ ⟨hL_1, hL_2⟩ => q_ldElemAgg (cs := (e_api_Addr (gi a_1 0))) ta_30 hL_1 rfl ho_1 rfl) ?_
   refine HA.val (k := 4) (v := vb_1) rfl rfl (by kernel_rfl) (by kernel_rfl) (want_none) rfl (fun _ ⟨hL_1, hL_2⟩ => q_move rfl) ?_
   obtain ⟨ho_2, hM⟩ := hM
   refine HA.val (k := 5) (v := elemPtr 17 vb_1 (0 : Int).toNat) rfl rfl (by kernel_rfl) (by kernel_rfl) (want_none) rfl (fun _ ⟨hL_1, hL_2⟩ => q_idx ts_32 hL_2 rfl rfl ho_2) ?_
   refine HA.val (k := 6) (v := .agg (e_api_Addr (gi b_2 0)).toArray) rfl rfl (by kernel_rfl) (by kernel_rfl) (want_none) rfl (fun _ ⟨hL_1, hL_2⟩ => q_ldElemAgg (cs := (e_api_Addr (gi b_2 0))) ta_30 hL_2 rfl ho_2 rfl) ?_
   refine HA.one (k := 7) ⟨⟨hL_1.is, hL_2.is⟩, (Go.Wk.at_nil _ _)⟩ (by kernel_rfl) ?_
   refine HS.call rfl (want_none) rfl (hF_cf_order.ec ((gi a_1 0), (gi b_2 0)) rfl rfl) (hF_cf_order.hc ((gi a_1 0), (gi b_2 0)) hS) ?_
   rintro _ h_4 ⟨rfl, hS, hk⟩
   replace hK := hK.trans hk
   replace hL_a := hL_a.kp hk
   replace hL_b := hL_b.kp hk
   replace hF_cf_order := hF_cf_order.kp hk
   replace hL_1 := hL_1.kp hk
   replace hL_2 := hL_2.kp hk
   refine HA.val (k := 8) (v := .int .i64 (cf_order (gi a_1 0) (gi b_2 0))) rfl rfl (by kernel_rfl) (by kernel_rfl) (want_none) rfl (fun _ ⟨hL_1, hL_2⟩ => q_assign rfl) ?_
   refine HA.nil ⟨⟨hL_1.is, hL_2.is⟩, (Go.Wk.at_nil _ _)⟩ (by kernel_rfl) (thenQ_normal (?_))
   refine HW.block ?_
   refine HW.seq ?_
   refine HW.region ?_
   refine oM (.int .i64 (cf_order (gi a_1 0) (gi b_2 0))) rfl rfl ?_
   refine oV (.bool (decide ((cf_order (gi a_1 0) (gi b_2 0)) < 0))) (q_lss rfl rfl) rfl ?_
   refine oA (.bool (decide ((cf_order (gi a_1 0) (gi b_2 0)) < 0))) rfl rfl ?_
   refine HO.nil (thenQ_normal (?_))
   refine HW.cond (decide ((cf_order (gi a_1 0) (gi b_2 0)) < 0)) rfl (fun c_3 => ?_) (fun c_3 => ?_)
   ·
    replace hM := hM.1 (of_decide_eq_true c_3)
    refine HW.seq ?_
    refine HW.region ?_
    refine oM (.func (.func 84) #[] #[.pointer (some ⟨b_1, 0, none⟩)]) rfl rfl ?_
    refine oM (va_1) rfl rfl ?_
    refine oV (elemPtr 17 va_1 (0 : Int).toNat) (q_idx ts_32 hL_1.is rfl rfl ho_1) rfl ?_
    refine oV (.agg (e_api_Addr (gi a_1 0)).toArray) (q_ldElemAgg (cs := (e_api_Addr (gi a_1 0))) ta_30 hL_1.is rfl ho_1 rfl) rfl ?_
    refine oM (.bool first) rfl rfl ?_
    refine HO.call (want_none) rfl (ec en_84 rfl rfl) (srcs_walk_1_api_Addr_walk (fr := (fr)) (gi a_1 0) first out_0_1 b_1 vout_0_1 hS hM) ?_
    rintro _ h_5 ⟨F_3, a2_0_1, v_1, rfl, hk, hS, hM⟩
    replace hK := hK.trans hk
    replace hL_a := hL_a.kp hk
    replace hL_b := hL_b.kp hk
    replace hF_cf_order := hF_cf_order.kp hk
    replace hL_1 := hL_1.kp hk
    replace hL_2 := hL_2.kp hk
    refine HO.nil (thenQ_normal (?_))
    refine HW.region ?_
    refine oM (va_1) rfl rfl ?_
    obtain ⟨ho_3, hM⟩ := hM
    refine oV (cutV 17 va_1 (1 : Int).toNat ((a_1.length : Int)).toNat) (q_slL ts_32 hL_1.is rfl rfl ho_3) rfl ?_
    refine oA (cutV 17 va_1 (1 : Int).toNat ((a_1.length : Int)).toNat) rfl rfl ?_
    refine HO.nil (blockQ_normal (blockQ_normal (thenQ_normal (?_))))
    rw [hKe_1] at hM
    exact ⟨(cut a_1 1 (a_1.length : Int), b_2, a2_0_1), ⟨F_3, cutV 17 va_1 (1 : Int).toNat ((a_1.length : Int)).toNat, vb_1, v_1, rfl, rfl, rfl, rfl, rfl, rfl, rfl, rfl, rfl, hK, hS, hL_a, hL_b, hF_cf_order, (cutF hL_1 1 (a_1.length : Int) ho_3.1 ho_3.2 (Int.le_refl _)), hL_2, hM.1⟩, hM.2⟩
   ·
    replace hM := hM.2 (of_decide_eq_false c_3)
    refine HW.seq ?_
    refine HW.region ?_
    refine oM (.int .i64 (cf_order (gi a_1 0) (gi b_2 0))) rfl rfl ?_
    refine oV (.bool (decide (0 < (cf_order (gi a_1 0) (gi b_2 0))))) (q_gtr rfl rfl) rfl ?_
    refine oA (.bool (decide (0 < (cf_order (gi a_1 0) (gi b_2 0))))) rfl rfl ?_
    refine HO.nil (thenQ_normal (?_))
    refine HW.cond (decide (0 < (cf_order (gi a_1 0) (gi b_2 0)))) rfl (fun c_4 => ?_) (fun c_4 => ?_)
    ·
     replace hM := hM.1 (of_decide_eq_true c_4)
     refine HW.seq ?_
     refine HW.region ?_
     refine oM (.func (.func 84) #[] #[.pointer (some ⟨b_1, 0, none⟩)]) rfl rfl ?_
     refine oM (vb_1) rfl rfl ?_
     refine oV (elemPtr 17 vb_1 (0 : Int).toNat) (q_idx ts_32 hL_2.is rfl rfl ho_2) rfl ?_
     refine oV (.agg (e_api_Addr (gi b_2 0)).toArray) (q_ldElemAgg (cs := (e_api_Addr (gi b_2 0))) ta_30 hL_2.is rfl ho_2 rfl) rfl ?_
     refine oM (.bool second) rfl rfl ?_
     refine HO.call (want_none) rfl (ec en_84 rfl rfl) (srcs_walk_1_api_Addr_walk (fr := (fr)) (gi b_2 0) second out_0_1 b_1 vout_0_1 hS hM) ?_
     rintro _ h_6 ⟨F_4, a2_0_2, v_2, rfl, hk, hS, hM⟩
     replace hK := hK.trans hk
     replace hL_a := hL_a.kp hk
     replace hL_b := hL_b.kp hk
     replace hF_cf_order := hF_cf_order.kp hk
     replace hL_1 := hL_1.kp hk
     replace hL_2 := hL_2.kp hk
     refine HO.nil (thenQ_normal (?_))
     refine HW.region ?_
     refine oM (vb_1) rfl rfl ?_
     obtain ⟨ho_4, hM⟩ := hM
     refine oV (cutV 17 vb_1 (1 : Int).toNat ((b_2.length : Int)).toNat) (q_slL ts_32 hL_2.is rfl rfl ho_4) rfl ?_
     refine oA (cutV 17 vb_1 (1 : Int).toNat ((b_2.length : Int)).toNat) rfl rfl ?_
     refine HO.nil (blockQ_normal (blockQ_normal (thenQ_normal (?_))))
     rw [hKe_1] at hM
     exact ⟨(a_1, cut b_2 1 (b_2.length : Int), a2_0_2), ⟨F_4, va_1, cutV 17 vb_1 (1 : Int).toNat ((b_2.length : Int)).toNat, v_2, rfl, rfl, rfl, rfl, rfl, rfl, rfl, rfl, rfl, hK, hS, hL_a, hL_b, hF_cf_order, hL_1, (cutF hL_2 1 (b_2.length : Int) ho_4.1 ho_4.2 (Int.le_refl _)), hM.1⟩, hM.2⟩
    ·
     replace hM := hM.2 (of_decide_eq_false c_4)
     refine HW.seq ?_
     refine HW.region ?_
     refine oM (.func (.func 84) #[] #[.pointer (some ⟨b_1, 0, none⟩)]) rfl rfl ?_
     refine oM (va_1) rfl rfl ?_
     refine oV (elemPtr 17 va_1 (0 : Int).toNat) (q_idx ts_32 hL_1.is rfl rfl ho_1) rfl ?_
     refine oV (.agg (e_api_Addr (gi a_1 0)).toArray) (q_ldElemAgg (cs := (e_api_Addr (gi a_1 0))) ta_30 hL_1.is rfl ho_1 rfl) rfl ?_
     refine oM (.bool both) rfl rfl ?_
     refine HO.call (want_none) rfl (ec en_84 rfl rfl) (srcs_walk_1_api_Addr_walk (fr := (fr)) (gi a_1 0) both out_0_1 b_1 vout_0_1 hS hM) ?_
     rintro _ h_7 ⟨F_5, a2_0_3, v_3, rfl, hk, hS, hM⟩
     replace hK := hK.trans hk
     replace hL_a := hL_a.kp hk
     replace hL_b := hL_b.kp hk
     replace hF_cf_order := hF_cf_order.kp hk
     replace hL_1 := hL_1.kp hk
     replace hL_2 := hL_2.kp hk
     refine HO.nil (thenQ_normal (?_))
     refine HW.regionA 6 mixed (fun h => (SliceIs h 17 e_api_Addr va a) ∧ (SliceIs h 17 e_api_Addr vb b) ∧ (True) ∧ (SliceIs h 17 e_api_Addr va_1 a_1) ∧ (SliceIs h 17 e_api_Addr vb_1 b_2) ∧ (Blk h b_1 (.cells #[v_3] 32 (0, 0))) ∧ (OwnIs h 0 30 17 e_api_Addr v_3 a2_0_3)) [] (by kernel_rfl) ?_
     refine HA.val (k := 0) (v := va_1) rfl rfl (by kernel_rfl) (by kernel_rfl) (want_none) rfl (fun _ ⟨hL_a, hL_b, hF_cf_order, hL_1, hL_2, c356, c357⟩ => q_move rfl) ?_
     obtain ⟨ho_5, hM⟩ := hM
     refine HA.val (k := 1) (v := cutV 17 va_1 (1 : Int).toNat ((a_1.length : Int)).toNat) rfl rfl (by kernel_rfl) (by kernel_rfl) (want_none) rfl (fun _ ⟨hL_a, hL_b, hF_cf_order, hL_1, hL_2, c356, c357⟩ => q_slL ts_32 hL_1 rfl rfl ho_5) ?_
     refine HA.val (k := 2) (v := vb_1) rfl rfl (by kernel_rfl) (by kernel_rfl) (want_none) rfl (fun _ ⟨hL_a, hL_b, hF_cf_order, hL_1, hL_2, c356, c357⟩ => q_move rfl) ?_
     obtain ⟨ho_6, hM⟩ := hM
     refine HA.val (k := 3) (v := cutV 17 vb_1 (1 : Int).toNat ((b_2.length : Int)).toNat) rfl rfl (by kernel_rfl) (by kernel_rfl) (want_none) rfl (fun _ ⟨hL_a, hL_b, hF_cf_order, hL_1, hL_2, c356, c357⟩ => q_slL ts_32 hL_2 rfl rfl ho_6) ?_
     refine HA.val (k := 4) (v := cutV 17 va_1 (1 : Int).toNat ((a_1.length : Int)).toNat) rfl rfl (by kernel_rfl) (by kernel_rfl) (want_none) rfl (fun _ ⟨hL_a, hL_b, hF_cf_order, hL_1, hL_2, c356, c357⟩ => q_assign rfl) ?_
     refine HA.val (k := 5) (v := cutV 17 vb_1 (1 : Int).toNat ((b_2.length : Int)).toNat) rfl rfl (by kernel_rfl) (by kernel_rfl) (want_none) rfl (fun _ ⟨hL_a, hL_b, hF_cf_order, hL_1, hL_2, c356, c357⟩ => q_assign rfl) ?_
     refine HA.nil ⟨⟨hL_a.is, hL_b.is, trivial, hL_1.is, hL_2.is, (hS.box 0 rfl), (hS.own 1 rfl)⟩, (Go.Wk.at_nil _ _)⟩ (by kernel_rfl) (blockQ_normal (blockQ_normal (thenQ_normal (?_))))
     rw [hKe_1] at hM
     exact ⟨(cut a_1 1 (a_1.length : Int), cut b_2 1 (b_2.length : Int), a2_0_3), ⟨F_5, cutV 17 va_1 (1 : Int).toNat ((a_1.length : Int)).toNat, cutV 17 vb_1 (1 : Int).toNat ((b_2.length : Int)).toNat, v_3, rfl, rfl, rfl, rfl, rfl, rfl, rfl, rfl, rfl, hK, hS, hL_a, hL_b, hF_cf_order, (cutF hL_1 1 (a_1.length : Int) ho_5.1 ho_5.2 (Int.le_refl _)), (cutF hL_2 1 (b_2.length : Int) ho_6.1 ho_6.2 (Int.le_refl _)), hM.1⟩, hM.2⟩
  ·
   replace hM := hM.2 c_2
   refine HW.exit (thenQ_exit (thenQ_exit (blockQ_exit (thenQ_normal (?_)))))
   refine HW.seq ?_
   refine HW.seq ?_
   refine HW.region ?_
   refine oM (va_1) rfl rfl ?_
   refine oV (.int .i64 (a_1.length : Int)) (q_len ts_32 (shp hL_1.is) rfl rfl) rfl ?_
   refine oM (.int .i64 0) rfl rfl ?_
   refine HO.nil (thenQ_normal (?_))
   refine HW.block ?_
   obtain ⟨I_2, m_2, hI_2, hR_2⟩ := hM
   refine HW.loop (S := List T_api_Addr × Int) (fun s f h => match s with | (out_0_2, n_1) => ∃ (F' : Fz) (vout_0_2 : Value), f 1 = vb_1 ∧ f 3 = .bool first ∧ f 5 = .bool second ∧ f 12 = .slice none 0 0 ∧ f 13 = .pointer (some ⟨b_1, 0, none⟩) ∧ f 14 = .func (.func 84) #[] #[.pointer (some ⟨b_1, 0, none⟩)] ∧ f 69 = va_1 ∧ f 70 = .int .i64 (a_1.length : Int) ∧ f 71 = .int .i64 n_1 ∧ Kp F h0 F' h ∧ St F' (Ow.box b_1 32 #[vout_0_2] :: Ow.own 30 17 e_api_Addr vout_0_2 out_0_2 :: fr) h ∧ (SliceF F' h 17 e_api_Addr va a) ∧ (SliceF F' h 17 e_api_Addr vb b) ∧ (FnP Try.prog F' h g_order fs_order cs_order (fun x : T_api_Addr × T_api_Addr => [.agg (e_api_Addr x.1).toArray, .agg (e_api_Addr x.2).toArray]) (fun x => .int .i64 (cf_order x.1 x.2))) ∧ (SliceF F' h 17 e_api_Addr va_1 a_1) ∧ (SliceF F' h 17 e_api_Addr vb_1 b_2) ∧ I_2 (out_0_2, n_1)) m_2 (out_0_1, 0) ⟨F_2, vout_0_1, rfl, rfl, rfl, rfl, rfl, rfl, rfl, rfl, rfl, hK, hS, hL_a, hL_b, hF_cf_order, hL_1, hL_2, hI_2⟩ ?_
   rintro ⟨out_0_2, n_1⟩ f_3 h_8 ⟨F_6, vout_0_2, e1, e3, e5, e12, e13, e14, e69, e70, e71, hK, hS, hL_a, hL_b, hF_cf_order, hL_1, hL_2, hI0⟩
   obtain ⟨K_2, hKe_2⟩ : ∃ K : (List T_api_Addr) → Int → Prop, K = fun out_0_2' n_1' => I_2 (out_0_2', n_1') ∧ m_2 (out_0_2', n_1') < m_2 (out_0_2, n_1) := ⟨_, rfl⟩
   have hM : srcs_walk_api_Addr_l2 first second Q a_1 b_2 K_2 out_0_2 n_1 := by rw [hKe_2]; exact hR_2 (out_0_2, n_1) hI0
   unfold srcs_walk_api_Addr_l2 at hM
   refine HW.fr [(1, vb_1), (3, .bool first), (5, .bool second), (12, .slice none 0 0), (13, .pointer (some ⟨b_1, 0, none⟩)), (14, .func (.func 84) #[] #[.pointer (some ⟨b_1, 0, none⟩)]), (69, va_1), (70, .int .i64 (a_1.length : Int)), (71, .int .i64 n_1)] ⟨e1, e3, e5, e12, e13, e14, e69, e70, e71, trivial⟩ ?_
   refine HW.seq ?_
   refine HW.region ?_
   refine oV (.bool (decide (n_1 < (a_1.length : Int)))) (q_lss rfl rfl) rfl ?_
   refine HO.nil (thenQ_normal (?_))
   refine HW.seq ?_
   refine HW.cond (decide (n_1 < (a_1.length : Int))) rfl (fun c_5 => ?_) (fun c_5 => ?_)
   ·
    replace hM := hM.1 (of_decide_eq_true c_5)
    refine HW.skip (thenQ_normal (?_))
    refine HW.seq ?_
    refine HW.block ?_
    refine HW.seq ?_
    refine HW.region ?_
    obtain ⟨ho_7, hM⟩ := hM
    refine oV (elemPtr 17 va_1 (n_1).toNat) (q_idx ts_32 hL_1.is rfl rfl ho_7) rfl ?_
    refine oV (.agg (e_api_Addr (gi a_1 n_1)).toArray) (q_ldElemAgg (cs := (e_api_Addr (gi a_1 n_1))) ta_30 hL_1.is rfl ho_7 rfl) rfl ?_
    refine HO.eff (want_none) rfl (st_alloc (c := (e_api_Addr (false, (default : Ba 16))).toArray) hS tz_30 rfl) ?_
    rintro _ h_9 ⟨b_4, rfl, hS, hk⟩
    replace hK := hK.trans hk
    replace hL_a := hL_a.kp hk
    replace hL_b := hL_b.kp hk
    replace hF_cf_order := hF_cf_order.kp hk
    replace hL_1 := hL_1.kp hk
    replace hL_2 := hL_2.kp hk
    refine HO.sto (want_none) rfl (st_storeAgg (c' := (e_api_Addr (gi a_1 n_1)).toArray) hS (i := 0) rfl ta_30 rfl rfl rfl (one_e_api_Addr _) (Nat.le_of_ble_eq_true rfl) rfl) ?_
    rintro h_10 ⟨hS, hk⟩
    replace hK := hK.trans hk
    replace hL_a := hL_a.kp hk
    replace hL_b := hL_b.kp hk
    replace hF_cf_order := hF_cf_order.kp hk
    replace hL_1 := hL_1.kp hk
    replace hL_2 := hL_2.kp hk
    refine HO.nil (thenQ_normal (?_))
    refine HW.region ?_
    refine oM (.func (.func 84) #[] #[.pointer (some ⟨b_1, 0, none⟩)]) rfl rfl ?_
    refine oV (.agg (e_api_Addr (gi a_1 n_1)).toArray) (q_loadAgg (cs := (e_api_Addr (gi a_1 n_1))) ta_30 rfl rfl (Blk.cells (k := 17) (hS.box 0 rfl) rfl)) rfl ?_
    refine oM (.bool first) rfl rfl ?_
    replace hS : St F_6 (Ow.box b_1 32 #[vout_0_2] :: Ow.own 30 17 e_api_Addr vout_0_2 out_0_2 :: Ow.box b_4 30 (e_api_Addr (gi a_1 n_1)).toArray :: fr) h_10 := hS.perm2 [1, 2, 0] 3 rfl rfl
    refine HO.call (want_none) rfl (ec en_84 rfl rfl) (srcs_walk_1_api_Addr_walk (fr := (Ow.box b_4 30 (e_api_Addr (gi a_1 n_1)).toArray :: fr)) (gi a_1 n_1) first out_0_2 b_1 vout_0_2 hS hM) ?_
    rintro _ h_11 ⟨F_7, a2_0_4, v_4, rfl, hk, hS, hM⟩
    replace hK := hK.trans hk
    replace hL_a := hL_a.kp hk
    replace hL_b := hL_b.kp hk
    replace hF_cf_order := hF_cf_order.kp hk
    replace hL_1 := hL_1.kp hk
    replace hL_2 := hL_2.kp hk
    refine HO.nil (blockQ_normal (thenQ_normal (?_)))
    refine HW.region ?_
    obtain ⟨ho_8, hM⟩ := hM
    refine oV (.int .i64 (n_1 + 1)) (q_addN _ rfl rfl rfl ho_8.1 ho_8.2) rfl ?_
    refine oM (.int .i64 (n_1 + 1)) rfl rfl ?_
    refine HO.nil (thenQ_normal (?_))
    replace hS : St F_7 (Ow.box b_1 32 #[v_4] :: Ow.own 30 17 e_api_Addr v_4 a2_0_4 :: fr) h_11 := hS.perm2 [0, 1] 3 rfl rfl
    rw [hKe_2] at hM
    exact ⟨(a2_0_4, n_1 + 1), ⟨F_7, v_4, rfl, rfl, rfl, rfl, rfl, rfl, rfl, rfl, rfl, hK, hS, hL_a, hL_b, hF_cf_order, hL_1, hL_2, hM.1⟩, hM.2⟩
   ·
    replace hM := hM.2 (of_decide_eq_false c_5)
    refine HW.exit (thenQ_exit (thenQ_exit (blockQ_exit (thenQ_normal (?_)))))
    refine HW.seq ?_
    refine HW.seq ?_
    refine HW.region ?_
    refine oM (vb_1) rfl rfl ?_
    refine oV (.int .i64 (b_2.length : Int)) (q_len ts_32 (shp hL_2.is) rfl rfl) rfl ?_
    refine oM (.int .i64 0) rfl rfl ?_
    refine HO.nil (thenQ_normal (?_))
    refine HW.block ?_
    obtain ⟨I_3, m_3, hI_3, hR_3⟩ := hM
    refine HW.loop (S := List T_api_Addr × Int) (fun s f h => match s with | (out_0_3, n_2) => ∃ (F' : Fz) (vout_0_3 : Value), f 5 = .bool second ∧ f 12 = .slice none 0 0 ∧ f 13 = .pointer (some ⟨b_1, 0, none⟩) ∧ f 14 = .func (.func 84) #[] #[.pointer (some ⟨b_1, 0, none⟩)] ∧ f 80 = vb_1 ∧ f 81 = .int .i64 (b_2.length : Int) ∧ f 82 = .int .i64 n_2 ∧ Kp F h0 F' h ∧ St F' (Ow.box b_1 32 #[vout_0_3] :: Ow.own 30 17 e_api_Addr vout_0_3 out_0_3 :: fr) h ∧ (SliceF F' h 17 e_api_Addr va a) ∧ (SliceF F' h 17 e_api_Addr vb b) ∧ (FnP Try.prog F' h g_order fs_order cs_order (fun x : T_api_Addr × T_api_Addr => [.agg (e_api_Addr x.1).toArray, .agg (e_api_Addr x.2).toArray]) (fun x => .int .i64 (cf_order x.1 x.2))) ∧ (SliceF F' h 17 e_api_Addr va_1 a_1) ∧ (SliceF F' h 17 e_api_Addr vb_1 b_2) ∧ I_3 (out_0_3, n_2)) m_3 (out_0_2, 0) ⟨F_6, vout_0_2, rfl, rfl, rfl, rfl, rfl, rfl, rfl, hK, hS, hL_a, hL_b, hF_cf_order, hL_1, hL_2, hI_3⟩ ?_
    rintro ⟨out_0_3, n_2⟩ f_4 h_12 ⟨F_8, vout_0_3, e5, e12, e13, e14, e80, e81, e82, hK, hS, hL_a, hL_b, hF_cf_order, hL_1, hL_2, hI0⟩
    obtain ⟨K_3, hKe_3⟩ : ∃ K : (List T_api_Addr) → Int → Prop, K = fun out_0_3' n_2' => I_3 (out_0_3', n_2') ∧ m_3 (out_0_3', n_2') < m_3 (out_0_3, n_2) := ⟨_, rfl⟩
    have hM : srcs_walk_api_Addr_l3 second Q b_2 K_3 out_0_3 n_2 := by rw [hKe_3]; exact hR_3 (out_0_3, n_2) hI0
    unfold srcs_walk_api_Addr_l3 at hM
    refine HW.fr [(5, .bool second), (12, .slice none 0 0), (13, .pointer (some ⟨b_1, 0, none⟩)), (14, .func (.func 84) #[] #[.pointer (some ⟨b_1, 0, none⟩)]), (80, vb_1), (81, .int .i64 (b_2.length : Int)), (82, .int .i64 n_2)] ⟨e5, e12, e13, e14, e80, e81, e82, trivial⟩ ?_
    refine HW.seq ?_
    refine HW.region ?_
    refine oV (.bool (decide (n_2 < (b_2.length : Int)))) (q_lss rfl rfl) rfl ?_
    refine HO.nil (thenQ_normal (?_))
    refine HW.seq ?_
    refine HW.cond (decide (n_2 < (b_2.length : Int))) rfl (fun c_6 => ?_) (fun c_6 => ?_)
    ·
     replace hM := hM.1 (of_decide_eq_true c_6)
     refine HW.skip (thenQ_normal (?_))
     refine HW.seq ?_
     refine HW.block ?_
     refine HW.seq ?_
     refine HW.region ?_
     obtain ⟨ho_9, hM⟩ := hM
     refine oV (elemPtr 17 vb_1 (n_2).toNat) (q_idx ts_32 hL_2.is rfl rfl ho_9) rfl ?_
     refine oV (.agg (e_api_Addr (gi b_2 n_2)).toArray) (q_ldElemAgg (cs := (e_api_Addr (gi b_2 n_2))) ta_30 hL_2.is rfl ho_9 rfl) rfl ?_
     refine HO.eff (want_none) rfl (st_alloc (c := (e_api_Addr (false, (default : Ba 16))).toArray) hS tz_30 rfl) ?_
     rintro _ h_13 ⟨b_5, rfl, hS, hk⟩
     replace hK := hK.trans hk
     replace hL_a := hL_a.kp hk
     replace hL_b := hL_b.kp hk
     replace hF_cf_order := hF_cf_order.kp hk
     replace hL_1 := hL_1.kp hk
     replace hL_2 := hL_2.kp hk
     refine HO.sto (want_none) rfl (st_storeAgg (c' := (e_api_Addr (gi b_2 n_2)).toArray) hS (i := 0) rfl ta_30 rfl rfl rfl (one_e_api_Addr _) (Nat.le_of_ble_eq_true rfl) rfl) ?_
     rintro h_14 ⟨hS, hk⟩
     replace hK := hK.trans hk
     replace hL_a := hL_a.kp hk
     replace hL_b := hL_b.kp hk
     replace hF_cf_order := hF_cf_order.kp hk
     replace hL_1 := hL_1.kp hk
     replace hL_2 := hL_2.kp hk
     refine HO.nil (thenQ_normal (?_))
     refine HW.region ?_
     refine oM (.func (.func 84) #[] #[.pointer (some ⟨b_1, 0, none⟩)]) rfl rfl ?_
     refine oV (.agg (e_api_Addr (gi b_2 n_2)).toArray) (q_loadAgg (cs := (e_api_Addr (gi b_2 n_2))) ta_30 rfl rfl (Blk.cells (k := 17) (hS.box 0 rfl) rfl)) rfl ?_
     refine oM (.bool second) rfl rfl ?_
     replace hS : St F_8 (Ow.box b_1 32 #[vout_0_3] :: Ow.own 30 17 e_api_Addr vout_0_3 out_0_3 :: Ow.box b_5 30 (e_api_Addr (gi b_2 n_2)).toArray :: fr) h_14 := hS.perm2 [1, 2, 0] 3 rfl rfl
     refine HO.call (want_none) rfl (ec en_84 rfl rfl) (srcs_walk_1_api_Addr_walk (fr := (Ow.box b_5 30 (e_api_Addr (gi b_2 n_2)).toArray :: fr)) (gi b_2 n_2) second out_0_3 b_1 vout_0_3 hS hM) ?_
     rintro _ h_15 ⟨F_9, a2_0_5, v_5, rfl, hk, hS, hM⟩
     replace hK := hK.trans hk
     replace hL_a := hL_a.kp hk
     replace hL_b := hL_b.kp hk
     replace hF_cf_order := hF_cf_order.kp hk
     replace hL_1 := hL_1.kp hk
     replace hL_2 := hL_2.kp hk
     refine HO.nil (blockQ_normal (thenQ_normal (?_)))
     refine HW.region ?_
     obtain ⟨ho_10, hM⟩ := hM
     refine oV (.int .i64 (n_2 + 1)) (q_addN _ rfl rfl rfl ho_10.1 ho_10.2) rfl ?_
     refine oM (.int .i64 (n_2 + 1)) rfl rfl ?_
     refine HO.nil (thenQ_normal (?_))
     replace hS : St F_9 (Ow.box b_1 32 #[v_5] :: Ow.own 30 17 e_api_Addr v_5 a2_0_5 :: fr) h_15 := hS.perm2 [0, 1] 3 rfl rfl
     rw [hKe_3] at hM
     exact ⟨(a2_0_5, n_2 + 1), ⟨F_9, v_5, rfl, rfl, rfl, rfl, rfl, rfl, rfl, hK, hS, hL_a, hL_b, hF_cf_order, hL_1, hL_2, hM.1⟩, hM.2⟩
    ·
     replace hM := hM.2 (of_decide_eq_false c_6)
     refine HW.exit (thenQ_exit (thenQ_exit (blockQ_exit (thenQ_normal (?_)))))
     refine HW.seq ?_
     refine HW.region ?_
     refine oV (vout_0_3) (q_load to_32 rfl (Blk.cell (hS.box 0 rfl) rfl)) rfl ?_
     refine oA (vout_0_3) rfl rfl ?_
     refine HO.nil (thenQ_normal (?_))
     refine HW.ret (?_)
     refine ⟨.inr rfl, vout_0_3, res1 rfl (rt rfl), ?_⟩
     replace hS : St F_8 (Ow.own 30 17 e_api_Addr vout_0_3 out_0_3 :: fr) h_12 := hS.perm2 [1] 2 rfl rfl
     exact ⟨F_8, out_0_3, vout_0_3, rfl, hK, hS, hL_a, hL_b, hF_cf_order, hM⟩
def srcs_minus_W (a : List T_api_Addr) (b : List T_api_Addr) (Q : (List T_api_Addr) → Prop) : Prop :=
 ∃ cf_1 : T_api_Addr → T_api_Addr → Int, (∀ x0 x1, addr_Cmp_W x0 x1 (fun r => r = cf_1 x0 x1)) ∧ (srcs_walk_api_Addr_W a b cf_1 true false false (fun r_2 => Q r_2))
theorem srcs_minus_walk {F : Fz} {fr : List Ow} {h0 : Heap} (a : List T_api_Addr) (b : List T_api_Addr) (va : Value) (vb : Value) (hS : St F (fr) h0) (hL_a : SliceF F h0 17 e_api_Addr va a) (hL_b : SliceF F h0 17 e_api_Addr vb b) {Q : (List T_api_Addr) → Prop} (hM : srcs_minus_W a b Q) :
  HC Try.prog 64 #[va, vb] h0 fun u h' => ∃ (F' : Fz) (r_1 : List T_api_Addr) (vr_1 : Value), u = vr_1 ∧ Kp F h0 F' h' ∧ St F' (Ow.own 30 17 e_api_Addr vr_1 r_1 :: fr) h' ∧ (SliceF F' h' 17 e_api_Addr va a) ∧ (SliceF F' h' 17 e_api_Addr vb b) ∧ Q r_1 := by
 unfold srcs_minus_W at hM
 have hK := Kp.refl F h0
 refine HC.of_HW (n := 8) Try.func64 rfl rfl (Nat.le_of_ble_eq_true rfl) ?_
 refine HW.seq ?_
 refine HW.region ?_
 refine oA (.slice none 0 0) rfl rfl ?_
 refine HO.nil (thenQ_normal (?_))
 refine HW.seq ?_
 refine HW.region ?_
 refine oM (va) rfl rfl ?_
 refine oM (vb) rfl rfl ?_
 obtain ⟨cf_1, hc_1, hM⟩ := hM
 have hF_1 : FnP Try.prog F h0 40 #[] #[] (fun x : T_api_Addr × T_api_Addr => [.agg (e_api_Addr x.1).toArray, .agg (e_api_Addr x.2).toArray]) (fun x => .int .i64 (cf_1 x.1 x.2)) := FnP.of en_40 (fun x h' hk_ => @HC.mono ⟨true⟩ _ _ _ _ _ _ (@addr_Cmp_walk ⟨true⟩ (allF h') [] h' x.1 x.2  (St.init h')  (fun r => r = cf_1 x.1 x.2) (hc_1 x.1 x.2)) (fun u h'' ⟨F', r, hu, k_, _, hr⟩ => ⟨by rw [hu, hr], F', k_⟩))
 refine HO.call (want_none) rfl (ec en_71 rfl rfl) (srcs_walk_api_Addr_walk (fr := (fr)) a b cf_1 true false false va vb 40 (#[]) (#[]) hS hL_a hL_b hF_1 hM) ?_
 rintro vr_2 h_1 ⟨F_1, r_2, _, rfl, hk, hS, _, _, _, hM⟩
 replace hK := hK.trans hk
 replace hL_a := hL_a.kp hk
 replace hL_b := hL_b.kp hk
 refine oA (vr_2) rfl rfl ?_
 refine HO.nil (thenQ_normal (?_))
 refine HW.ret (?_)
 refine ⟨.inr rfl, vr_2, res1 rfl (rt rfl), ?_⟩
 exact ⟨F_1, r_2, vr_2, rfl, hK, hS, hL_a, hL_b, hM⟩
def srcs_Minus_W (a : List T_api_Addr) (b : List T_api_Addr) (Q : (List T_api_Addr) → Prop) : Prop :=
 srcs_minus_W a b (fun r_2 => Q r_2)
theorem srcs_Minus_walk {F : Fz} {fr : List Ow} {h0 : Heap} (a : List T_api_Addr) (b : List T_api_Addr) (va : Value) (vb : Value) (hS : St F (fr) h0) (hL_a : SliceF F h0 17 e_api_Addr va a) (hL_b : SliceF F h0 17 e_api_Addr vb b) {Q : (List T_api_Addr) → Prop} (hM : srcs_Minus_W a b Q) :
  HC Try.prog 56 #[va, vb] h0 fun u h' => ∃ (F' : Fz) (r_1 : List T_api_Addr) (vr_1 : Value), u = vr_1 ∧ Kp F h0 F' h' ∧ St F' (Ow.own 30 17 e_api_Addr vr_1 r_1 :: fr) h' ∧ (SliceF F' h' 17 e_api_Addr va a) ∧ (SliceF F' h' 17 e_api_Addr vb b) ∧ Q r_1 := by
 unfold srcs_Minus_W at hM
 have hK := Kp.refl F h0
 refine HC.of_HW (n := 8) Try.func56 rfl rfl (Nat.le_of_ble_eq_true rfl) ?_
 refine HW.seq ?_
 refine HW.region ?_
 refine oA (.slice none 0 0) rfl rfl ?_
 refine HO.nil (thenQ_normal (?_))
 refine HW.seq ?_
 refine HW.region ?_
 refine oM (va) rfl rfl ?_
 refine oM (vb) rfl rfl ?_
 refine HO.call (want_none) rfl (ec en_64 rfl rfl) (srcs_minus_walk (fr := (fr)) a b va vb hS hL_a hL_b hM) ?_
 rintro vr_2 h_1 ⟨F_1, r_2, _, rfl, hk, hS, _, _, hM⟩
 replace hK := hK.trans hk
 replace hL_a := hL_a.kp hk
 replace hL_b := hL_b.kp hk
 refine oA (vr_2) rfl rfl ?_
 refine HO.nil (thenQ_normal (?_))
 refine HW.ret (?_)
 refine ⟨.inr rfl, vr_2, res1 rfl (rt rfl), ?_⟩
 exact ⟨F_1, r_2, vr_2, rfl, hK, hS, hL_a, hL_b, hM⟩
def merge_Change_j1 (g : T_api_Addr) (next_Sources : List T_api_Addr) (Q : (List T_api_Record) → Prop) (kind_1 : Int) : Prop :=
 slices_Clone_s_api_Addr_api_Addr_W next_Sources (fun r_2 => ∀ vr_2 : Value, (Q ([(kind_1, g, (vr_2, r_2))] : List T_api_Record)))
def merge_Change_j3 (g : T_api_Addr) (Q : (List T_api_Record) → Prop) (less_1 : List T_api_Addr) (out_1 : List T_api_Record) : Prop :=
 (0 < (less_1.length : Int) → ∀ vless_1 : Value, (((out_1.length + ([(6, g, (vless_1, less_1))] : List T_api_Record).length) * 56 ≤ 140737488355328) ∧ (Q (out_1 ++ ([(6, g, (vless_1, less_1))] : List T_api_Record))))) ∧ (¬ (0 < (less_1.length : Int)) → Q out_1)
def merge_Change_j2 (g : T_api_Addr) (Q : (List T_api_Record) → Prop) (more_1 : List T_api_Addr) (less_1 : List T_api_Addr) : Prop :=
 (0 < (more_1.length : Int) → ∀ vmore_1 : Value, (((([(5, g, (vmore_1, more_1))] : List T_api_Record)).length * 56 ≤ 140737488355328) ∧ (merge_Change_j3 g Q less_1 ([(5, g, (vmore_1, more_1))] : List T_api_Record)))) ∧ (¬ (0 < (more_1.length : Int)) → merge_Change_j3 g Q less_1 [])
def merge_Change_W (g : T_api_Addr) (old_Exclude : Bool) (old_Sources : List T_api_Addr) (next_Exclude : Bool) (next_Sources : List T_api_Addr) (Q : (List T_api_Record) → Prop) : Prop :=
 ((!(old_Exclude == next_Exclude)) = true → (next_Exclude = true → merge_Change_j1 g next_Sources Q 4) ∧ (next_Exclude = false → merge_Change_j1 g next_Sources Q 3)) ∧ ((!(old_Exclude == next_Exclude)) = false → srcs_Minus_W next_Sources old_Sources (fun r_3 => srcs_Minus_W old_Sources next_Sources (fun r_4 => (old_Exclude = true → merge_Change_j2 g Q r_4 r_3) ∧ (old_Exclude = false → merge_Change_j2 g Q r_3 r_4))))
theorem merge_Change_walk {F : Fz} {fr : List Ow} {h0 : Heap} (g : T_api_Addr) (old_Exclude : Bool) (old_Sources : List T_api_Addr) (next_Exclude : Bool) (next_Sources : List T_api_Addr) (vold_Sources : Value) (vnext_Sources : Value) (hS : St F (fr) h0) (hL_old_Sources : SliceF F h0 17 e_api_Addr vold_Sources old_Sources) (hL_next_Sources : SliceF F h0 17 e_api_Addr vnext_Sources next_Sources) {Q : (List T_api_Record) → Prop} (hM : merge_Change_W g old_Exclude old_Sources next_Exclude next_Sources Q) :
  HC Try.prog 43 #[.agg (e_api_Addr g).toArray, .agg #[.bool old_Exclude, vold_Sources], .agg #[.bool next_Exclude, vnext_Sources]] h0 fun u h' => ∃ (F' : Fz) (r_1 : List T_api_Record) (vr_1 : Value), u = vr_1 ∧ Kp F h0 F' h' ∧ St F' (Ow.own 60 19 e_api_Record vr_1 r_1 :: fr) h' ∧ (SliceF F' h' 17 e_api_Addr vold_Sources old_Sources) ∧ (SliceF F' h' 17 e_api_Addr vnext_Sources next_Sources) ∧ (NfL nf_api_Record F' h' r_1) ∧ Q r_1 := by
 unfold merge_Change_W at hM
 have hK := Kp.refl F h0
 refine HC.of_HW (n := 58) Try.func43 rfl rfl (Nat.le_of_ble_eq_true rfl) ?_
 refine HW.seq ?_
 refine HW.region ?_
 refine HO.eff (want_none) rfl (st_box (c := (e_api_Addr g).toArray) (k' := 17) hS rfl rfl) ?_
 rintro _ h_1 ⟨b_1, rfl, hS, hk⟩
 replace hK := hK.trans hk
 replace hL_old_Sources := hL_old_Sources.kp hk
 replace hL_next_Sources := hL_next_Sources.kp hk
 refine HO.eff (want_none) rfl (st_box (c := #[.bool old_Exclude, vold_Sources]) (k' := 2) hS rfl rfl) ?_
 rintro _ h_2 ⟨b_2, rfl, hS, hk⟩
 replace hK := hK.trans hk
 replace hL_old_Sources := hL_old_Sources.kp hk
 replace hL_next_Sources := hL_next_Sources.kp hk
 refine HO.eff (want_none) rfl (st_box (c := #[.bool next_Exclude, vnext_Sources]) (k' := 2) hS rfl rfl) ?_
 rintro _ h_3 ⟨b_3, rfl, hS, hk⟩
 replace hK := hK.trans hk
 replace hL_old_Sources := hL_old_Sources.kp hk
 replace hL_next_Sources := hL_next_Sources.kp hk
 refine oA (.slice none 0 0) rfl rfl ?_
 refine HO.nil (thenQ_normal (?_))
 refine HW.seq ?_
 refine HW.region ?_
 refine oA (.slice none 0 0) rfl rfl ?_
 refine HO.nil (thenQ_normal (?_))
 refine HW.seq ?_
 refine HW.seq ?_
 refine HW.region ?_
 refine oV (.pointer (some ⟨b_2, 0, none⟩)) (q_fieldAddr fa_34_0 rfl rfl) rfl ?_
 refine oV (.bool old_Exclude) (q_load to_4 rfl (Blk.cell (hS.box 1 rfl) rfl)) rfl ?_
 refine oV (.pointer (some ⟨b_3, 0, none⟩)) (q_fieldAddr fa_34_0 rfl rfl) rfl ?_
 refine oV (.bool next_Exclude) (q_load to_4 rfl (Blk.cell (hS.box 0 rfl) rfl)) rfl ?_
 refine oV (.bool (!(old_Exclude == next_Exclude))) (q_neqB Try.underlying4 rfl rfl) rfl ?_
 refine HO.nil (thenQ_normal (?_))
 refine HW.cond (!(old_Exclude == next_Exclude)) rfl (fun c_1 => ?_) (fun c_1 => ?_)
 ·
  replace hM := hM.1 c_1
  refine HW.seq ?_
  refine HW.region ?_
  refine oA (.int .i64 3) rfl rfl ?_
  refine HO.nil (thenQ_normal (?_))
  refine HW.seq_mid (fun f h => ∃ (F' : Fz) (kind_1 : Int), f 3 = .pointer (some ⟨b_1, 0, none⟩) ∧ f 4 = .pointer (some ⟨b_2, 0, none⟩) ∧ f 5 = .pointer (some ⟨b_3, 0, none⟩) ∧ f 6 = .slice none 0 0 ∧ f 7 = .slice none 0 0 ∧ f 8 = .int .i64 kind_1 ∧ Kp F h0 F' h ∧ St F' (Ow.box b_1 30 (e_api_Addr g).toArray :: Ow.box b_2 34 #[.bool old_Exclude, vold_Sources] :: Ow.box b_3 34 #[.bool next_Exclude, vnext_Sources] :: fr) h ∧ (SliceF F' h 17 e_api_Addr vold_Sources old_Sources) ∧ (SliceF F' h 17 e_api_Addr vnext_Sources next_Sources) ∧ merge_Change_j1 g next_Sources Q kind_1) ?_ ?_
  ·
   refine HW.seq ?_
   refine HW.region ?_
   refine oV (.pointer (some ⟨b_3, 0, none⟩)) (q_fieldAddr fa_34_0 rfl rfl) rfl ?_
   refine oV (.bool next_Exclude) (q_load to_4 rfl (Blk.cell (hS.box 0 rfl) rfl)) rfl ?_
   refine HO.nil (thenQ_normal (?_))
   refine HW.cond next_Exclude rfl (fun c_2 => ?_) (fun c_2 => ?_)
   ·
    replace hM := hM.1 c_2
    refine HW.region ?_
    refine oA (.int .i64 4) rfl rfl ?_
    refine HO.nil (thenQ_normal (?_))
    replace hS : St F (Ow.box b_1 30 (e_api_Addr g).toArray :: Ow.box b_2 34 #[.bool old_Exclude, vold_Sources] :: Ow.box b_3 34 #[.bool next_Exclude, vnext_Sources] :: fr) h_3 := hS.perm2 [2, 1, 0] 3 rfl rfl
    exact ⟨F, 4, rfl, rfl, rfl, rfl, rfl, rfl, hK, hS, hL_old_Sources, hL_next_Sources, hM⟩
   ·
    replace hM := hM.2 c_2
    refine HW.skip (thenQ_normal (?_))
    replace hS : St F (Ow.box b_1 30 (e_api_Addr g).toArray :: Ow.box b_2 34 #[.bool old_Exclude, vold_Sources] :: Ow.box b_3 34 #[.bool next_Exclude, vnext_Sources] :: fr) h_3 := hS.perm2 [2, 1, 0] 3 rfl rfl
    exact ⟨F, 3, rfl, rfl, rfl, rfl, rfl, rfl, hK, hS, hL_old_Sources, hL_next_Sources, hM⟩
  ·
   rintro f_1 h_4 ⟨F_1, kind_1, e3, e4, e5, e6, e7, e8, hK, hS, hL_old_Sources, hL_next_Sources, hM⟩
   unfold merge_Change_j1 at hM
   refine HW.fr [(3, .pointer (some ⟨b_1, 0, none⟩)), (4, .pointer (some ⟨b_2, 0, none⟩)), (5, .pointer (some ⟨b_3, 0, none⟩)), (6, .slice none 0 0), (7, .slice none 0 0), (8, .int .i64 kind_1)] ⟨e3, e4, e5, e6, e7, e8, trivial⟩ ?_
   refine HW.seq ?_
   refine HW.regionA 8 mixed (fun h => (Blk h b_1 (.cells (e_api_Addr g).toArray 30 (0, 0))) ∧ (Blk h b_3 (.cells #[.bool next_Exclude, vnext_Sources] 34 (0, 0)))) [] (by kernel_rfl) ?_
   refine HA.val (k := 0) (v := .int .i64 kind_1) rfl rfl (by kernel_rfl) (by kernel_rfl) (want_none) rfl (fun _ ⟨c205, c207⟩ => q_move rfl) ?_
   refine HA.val (k := 1) (v := .agg (e_api_Addr g).toArray) rfl rfl (by kernel_rfl) (by kernel_rfl) (want_none) rfl (fun _ ⟨c205, c207⟩ => q_loadAgg (cs := (e_api_Addr g)) ta_30 rfl rfl (Blk.cells (k := 17) c205 rfl)) ?_
   refine HA.val (k := 2) (v := .pointer (some ⟨b_3, 1, none⟩)) rfl rfl (by kernel_rfl) (by kernel_rfl) (want_none) rfl (fun _ ⟨c205, c207⟩ => q_fieldAddr fa_34_1 rfl rfl) ?_
   refine HA.val (k := 3) (v := vnext_Sources) rfl rfl (by kernel_rfl) (by kernel_rfl) (want_none) rfl (fun _ ⟨c205, c207⟩ => q_load to_32 rfl (Blk.cell c207 rfl)) ?_
   refine HA.one (k := 4) ⟨⟨(hS.box 0 rfl), (hS.box 2 rfl)⟩, (Go.Wk.at_nil _ _)⟩ (by kernel_rfl) ?_
   refine HS.call rfl (want_none) rfl (ec en_42 rfl rfl) (slices_Clone_s_api_Addr_api_Addr_walk (fr := (Ow.box b_1 30 (e_api_Addr g).toArray :: Ow.box b_2 34 #[.bool old_Exclude, vold_Sources] :: Ow.box b_3 34 #[.bool next_Exclude, vnext_Sources] :: fr)) next_Sources vnext_Sources hS hL_next_Sources hM) ?_
   rintro vr_2 h_5 ⟨F_2, r_2, _, rfl, hk, hS, _, hM⟩
   replace hK := hK.trans hk
   replace hL_old_Sources := hL_old_Sources.kp hk
   replace hL_next_Sources := hL_next_Sources.kp hk
   refine Go.Wk.HA.re (fun h => (Blk h b_1 (.cells (e_api_Addr g).toArray 30 (0, 0))) ∧ (Blk h b_3 (.cells #[.bool next_Exclude, vnext_Sources] 34 (0, 0)))) [(6, fun h => (OwnIs h 0 30 17 e_api_Addr vr_2 r_2))] (fun L_ h_ hL_ ⟨c205, c207⟩ hs_ => ⟨⟨c205, c207⟩, (Go.Wk.at_nil _ _)⟩) ?_
   refine Go.Wk.HA.valN (k := 5) (v := .agg #[.int .i64 kind_1, .bool g.1, .int .u8 (b8 g.2 0), .int .u8 (b8 g.2 1), .int .u8 (b8 g.2 2), .int .u8 (b8 g.2 3), .int .u8 (b8 g.2 4), .int .u8 (b8 g.2 5), .int .u8 (b8 g.2 6), .int .u8 (b8 g.2 7), .int .u8 (b8 g.2 8), .int .u8 (b8 g.2 9), .int .u8 (b8 g.2 10), .int .u8 (b8 g.2 11), .int .u8 (b8 g.2 12), .int .u8 (b8 g.2 13), .int .u8 (b8 g.2 14), .int .u8 (b8 g.2 15), vr_2]) 0 6 (fun h => (OwnIs h 0 30 17 e_api_Addr vr_2 r_2)) rfl rfl (by kernel_rfl) (by kernel_rfl) (want_none) rfl rfl (by kernel_rfl) (fun _ ⟨c205, c207⟩ c232 => q_build tp_60 (fill_cons (cs' := #[.int .i64 kind_1, .bool false, .int .u8 (b8 (default : Ba 16) 0), .int .u8 (b8 (default : Ba 16) 1), .int .u8 (b8 (default : Ba 16) 2), .int .u8 (b8 (default : Ba 16) 3), .int .u8 (b8 (default : Ba 16) 4), .int .u8 (b8 (default : Ba 16) 5), .int .u8 (b8 (default : Ba 16) 6), .int .u8 (b8 (default : Ba 16) 7), .int .u8 (b8 (default : Ba 16) 8), .int .u8 (b8 (default : Ba 16) 9), .int .u8 (b8 (default : Ba 16) 10), .int .u8 (b8 (default : Ba 16) 11), .int .u8 (b8 (default : Ba 16) 12), .int .u8 (b8 (default : Ba 16) 13), .int .u8 (b8 (default : Ba 16) 14), .int .u8 (b8 (default : Ba 16) 15), .slice none 0 0]) (vc := #[.int .i64 kind_1]) rfl rfl rfl (Nat.le_of_ble_eq_true rfl) rfl (fill_cons (cs' := #[.int .i64 kind_1, .bool g.1, .int .u8 (b8 g.2 0), .int .u8 (b8 g.2 1), .int .u8 (b8 g.2 2), .int .u8 (b8 g.2 3), .int .u8 (b8 g.2 4), .int .u8 (b8 g.2 5), .int .u8 (b8 g.2 6), .int .u8 (b8 g.2 7), .int .u8 (b8 g.2 8), .int .u8 (b8 g.2 9), .int .u8 (b8 g.2 10), .int .u8 (b8 g.2 11), .int .u8 (b8 g.2 12), .int .u8 (b8 g.2 13), .int .u8 (b8 g.2 14), .int .u8 (b8 g.2 15), .slice none 0 0]) (vc := (e_api_Addr g).toArray) rfl rfl rfl (Nat.le_of_ble_eq_true rfl) rfl (fill_cons (cs' := #[.int .i64 kind_1, .bool g.1, .int .u8 (b8 g.2 0), .int .u8 (b8 g.2 1), .int .u8 (b8 g.2 2), .int .u8 (b8 g.2 3), .int .u8 (b8 g.2 4), .int .u8 (b8 g.2 5), .int .u8 (b8 g.2 6), .int .u8 (b8 g.2 7), .int .u8 (b8 g.2 8), .int .u8 (b8 g.2 9), .int .u8 (b8 g.2 10), .int .u8 (b8 g.2 11), .int .u8 (b8 g.2 12), .int .u8 (b8 g.2 13), .int .u8 (b8 g.2 14), .int .u8 (b8 g.2 15), vr_2]) (vc := #[vr_2]) rfl (shp c232.slice).cells rfl (Nat.le_of_ble_eq_true rfl) rfl rfl)))) ?_
   refine HA.one (k := 6) ⟨⟨(hS.box 1 rfl), (hS.box 3 rfl)⟩, (at_now (hS.own 0 rfl) (Go.Wk.at_nil _ _))⟩ (by kernel_rfl) ?_
   obtain ⟨F_3, hS, hk, hL_1⟩ := hS.freezeOwn
   replace hK := hK.trans hk
   replace hL_old_Sources := hL_old_Sources.kp hk
   replace hL_next_Sources := hL_next_Sources.kp hk
   replace hM := hM vr_2
   refine HS.eff rfl (want_none) rfl (st_lit (enc := e_api_Record) (cells := #[.int .i64 kind_1, .bool g.1, .int .u8 (b8 g.2 0), .int .u8 (b8 g.2 1), .int .u8 (b8 g.2 2), .int .u8 (b8 g.2 3), .int .u8 (b8 g.2 4), .int .u8 (b8 g.2 5), .int .u8 (b8 g.2 6), .int .u8 (b8 g.2 7), .int .u8 (b8 g.2 8), .int .u8 (b8 g.2 9), .int .u8 (b8 g.2 10), .int .u8 (b8 g.2 11), .int .u8 (b8 g.2 12), .int .u8 (b8 g.2 13), .int .u8 (b8 g.2 14), .int .u8 (b8 g.2 15), vr_2]) #[.int .i64 0, .bool false, .int .u8 0, .int .u8 0, .int .u8 0, .int .u8 0, .int .u8 0, .int .u8 0, .int .u8 0, .int .u8 0, .int .u8 0, .int .u8 0, .int .u8 0, .int .u8 0, .int .u8 0, .int .u8 0, .int .u8 0, .int .u8 0, .slice none 0 0] ([(kind_1, g, (vr_2, r_2))] : List T_api_Record) hS tl_37 (by decide) (by decide) (by kernel_rfl) (by kernel_rfl) rfl (by intro x hx; rfl) rfl) ?_
   rintro _ h_6 ⟨b_4, rfl, hS, hk⟩
   replace hK := hK.trans hk
   replace hL_old_Sources := hL_old_Sources.kp hk
   replace hL_next_Sources := hL_next_Sources.kp hk
   replace hL_1 := hL_1.kp hk
   have hN_2 : NfL nf_api_Record F_3 h_6 ([(kind_1, g, (vr_2, r_2))] : List T_api_Record) := (NfL.cons (nfm_api_Record (kind_1, g, (vr_2, r_2)) hL_1) (NfL.nil _ _ _))
   refine HA.val (k := 7) (v := .slice (some ⟨b_4, 0, none⟩) 1 1) rfl rfl (by kernel_rfl) (by kernel_rfl) (want_none) rfl (fun _ ⟨c205, c207⟩ => q_assign rfl) ?_
   refine HA.nil ⟨⟨(hS.box 1 rfl), (hS.box 3 rfl)⟩, (at_done (by kernel_rfl) (Go.Wk.at_nil _ _))⟩ (by kernel_rfl) (thenQ_normal (?_))
   refine HW.ret (thenQ_ret (?_))
   refine ⟨.inr rfl, .slice (some ⟨b_4, 0, none⟩) 1 1, res1 rfl (rt rfl), ?_⟩
   replace hS : St F_3 (Ow.own 60 19 e_api_Record (.slice (some ⟨b_4, 0, none⟩) 1 1) ([(kind_1, g, (vr_2, r_2))] : List T_api_Record) :: fr) h_6 := hS.perm2 [0] 4 rfl rfl
   exact ⟨F_3, ([(kind_1, g, (vr_2, r_2))] : List T_api_Record), .slice (some ⟨b_4, 0, none⟩) 1 1, rfl, hK, hS, hL_old_Sources, hL_next_Sources, hN_2, hM⟩
 ·
  replace hM := hM.2 c_1
  refine HW.skip (thenQ_normal (?_))
  refine HW.seq ?_
  refine HW.regionA 12 mixed (fun h => (Blk h b_3 (.cells #[.bool next_Exclude, vnext_Sources] 34 (0, 0))) ∧ (Blk h b_2 (.cells #[.bool old_Exclude, vold_Sources] 34 (0, 0)))) [] (by kernel_rfl) ?_
  refine HA.val (k := 0) (v := .pointer (some ⟨b_3, 1, none⟩)) rfl rfl (by kernel_rfl) (by kernel_rfl) (want_none) rfl (fun _ ⟨c204, c203⟩ => q_fieldAddr fa_34_1 rfl rfl) ?_
  refine HA.val (k := 1) (v := vnext_Sources) rfl rfl (by kernel_rfl) (by kernel_rfl) (want_none) rfl (fun _ ⟨c204, c203⟩ => q_load to_32 rfl (Blk.cell c204 rfl)) ?_
  refine HA.val (k := 2) (v := .pointer (some ⟨b_2, 1, none⟩)) rfl rfl (by kernel_rfl) (by kernel_rfl) (want_none) rfl (fun _ ⟨c204, c203⟩ => q_fieldAddr fa_34_1 rfl rfl) ?_
  refine HA.val (k := 3) (v := vold_Sources) rfl rfl (by kernel_rfl) (by kernel_rfl) (want_none) rfl (fun _ ⟨c204, c203⟩ => q_load to_32 rfl (Blk.cell c203 rfl)) ?_
  refine HA.val (k := 5) (v := .pointer (some ⟨b_2, 1, none⟩)) rfl rfl (by kernel_rfl) (by kernel_rfl) (want_none) rfl (fun _ ⟨c204, c203⟩ => q_fieldAddr fa_34_1 rfl rfl) ?_
  refine HA.val (k := 6) (v := vold_Sources) rfl rfl (by kernel_rfl) (by kernel_rfl) (want_none) rfl (fun _ ⟨c204, c203⟩ => q_load to_32 rfl (Blk.cell c203 rfl)) ?_
  refine HA.val (k := 7) (v := .pointer (some ⟨b_3, 1, none⟩)) rfl rfl (by kernel_rfl) (by kernel_rfl) (want_none) rfl (fun _ ⟨c204, c203⟩ => q_fieldAddr fa_34_1 rfl rfl) ?_
  refine HA.val (k := 8) (v := vnext_Sources) rfl rfl (by kernel_rfl) (by kernel_rfl) (want_none) rfl (fun _ ⟨c204, c203⟩ => q_load to_32 rfl (Blk.cell c204 rfl)) ?_
  refine HA.one (k := 4) ⟨⟨(hS.box 0 rfl), (hS.box 1 rfl)⟩, (Go.Wk.at_nil _ _)⟩ (by kernel_rfl) ?_
  refine HS.call rfl (want_none) rfl (ec en_56 rfl rfl) (srcs_Minus_walk (fr := (Ow.box b_3 34 #[.bool next_Exclude, vnext_Sources] :: Ow.box b_2 34 #[.bool old_Exclude, vold_Sources] :: Ow.box b_1 30 (e_api_Addr g).toArray :: fr)) next_Sources old_Sources vnext_Sources vold_Sources hS hL_next_Sources hL_old_Sources hM) ?_
  rintro vr_3 h_7 ⟨F_4, r_3, _, rfl, hk, hS, _, _, hM⟩
  replace hK := hK.trans hk
  replace hL_old_Sources := hL_old_Sources.kp hk
  replace hL_next_Sources := hL_next_Sources.kp hk
  refine HA.one (k := 9) ⟨⟨(hS.box 1 rfl), (hS.box 2 rfl)⟩, (Go.Wk.at_nil _ _)⟩ (by kernel_rfl) ?_
  refine HS.call rfl (want_none) rfl (ec en_56 rfl rfl) (srcs_Minus_walk (fr := (Ow.own 30 17 e_api_Addr vr_3 r_3 :: Ow.box b_3 34 #[.bool next_Exclude, vnext_Sources] :: Ow.box b_2 34 #[.bool old_Exclude, vold_Sources] :: Ow.box b_1 30 (e_api_Addr g).toArray :: fr)) old_Sources next_Sources vold_Sources vnext_Sources hS hL_old_Sources hL_next_Sources hM) ?_
  rintro vr_4 h_8 ⟨F_5, r_4, _, rfl, hk, hS, _, _, hM⟩
  replace hK := hK.trans hk
  replace hL_old_Sources := hL_old_Sources.kp hk
  replace hL_next_Sources := hL_next_Sources.kp hk
  refine HA.val (k := 10) (v := vr_3) rfl rfl (by kernel_rfl) (by kernel_rfl) (want_none) rfl (fun _ ⟨c204, c203⟩ => q_assign rfl) ?_
  refine HA.val (k := 11) (v := vr_4) rfl rfl (by kernel_rfl) (by kernel_rfl) (want_none) rfl (fun _ ⟨c204, c203⟩ => q_assign rfl) ?_
  refine HA.nil ⟨⟨(hS.box 2 rfl), (hS.box 3 rfl)⟩, (Go.Wk.at_nil _ _)⟩ (by kernel_rfl) (thenQ_normal (?_))
  refine HW.seq_mid (fun f h => ∃ (F' : Fz) (more_1 : List T_api_Addr) (less_1 : List T_api_Addr) (vmore_1 : Value) (vless_1 : Value), f 3 = .pointer (some ⟨b_1, 0, none⟩) ∧ f 6 = .slice none 0 0 ∧ f 7 = .slice none 0 0 ∧ f 9 = vmore_1 ∧ f 10 = vless_1 ∧ Kp F h0 F' h ∧ St F' (Ow.box b_1 30 (e_api_Addr g).toArray :: Ow.own 30 17 e_api_Addr vmore_1 more_1 :: Ow.own 30 17 e_api_Addr vless_1 less_1 :: fr) h ∧ (SliceF F' h 17 e_api_Addr vold_Sources old_Sources) ∧ (SliceF F' h 17 e_api_Addr vnext_Sources next_Sources) ∧ merge_Change_j2 g Q more_1 less_1) ?_ ?_
  ·
   refine HW.seq ?_
   refine HW.region ?_
   refine oV (.pointer (some ⟨b_2, 0, none⟩)) (q_fieldAddr fa_34_0 rfl rfl) rfl ?_
   refine oV (.bool old_Exclude) (q_load to_4 rfl (Blk.cell (hS.box 3 rfl) rfl)) rfl ?_
   refine HO.nil (thenQ_normal (?_))
   refine HW.cond old_Exclude rfl (fun c_3 => ?_) (fun c_3 => ?_)
   ·
    replace hM := hM.1 c_3
    refine HW.region ?_
    refine oM (vr_4) rfl rfl ?_
    refine oM (vr_3) rfl rfl ?_
    refine oA (vr_4) rfl rfl ?_
    refine oA (vr_3) rfl rfl ?_
    refine HO.nil (thenQ_normal (?_))
    replace hS : St F_5 (Ow.box b_1 30 (e_api_Addr g).toArray :: Ow.own 30 17 e_api_Addr vr_4 r_4 :: Ow.own 30 17 e_api_Addr vr_3 r_3 :: fr) h_8 := hS.perm2 [4, 0, 1] 5 rfl rfl
    exact ⟨F_5, r_4, r_3, vr_4, vr_3, rfl, rfl, rfl, rfl, rfl, hK, hS, hL_old_Sources, hL_next_Sources, hM⟩
   ·
    replace hM := hM.2 c_3
    refine HW.skip (thenQ_normal (?_))
    replace hS : St F_5 (Ow.box b_1 30 (e_api_Addr g).toArray :: Ow.own 30 17 e_api_Addr vr_3 r_3 :: Ow.own 30 17 e_api_Addr vr_4 r_4 :: fr) h_8 := hS.perm2 [4, 1, 0] 5 rfl rfl
    exact ⟨F_5, r_3, r_4, vr_3, vr_4, rfl, rfl, rfl, rfl, rfl, hK, hS, hL_old_Sources, hL_next_Sources, hM⟩
  ·
   rintro f_2 h_9 ⟨F_6, more_1, less_1, vmore_1, vless_1, e3, e6, e7, e9, e10, hK, hS, hL_old_Sources, hL_next_Sources, hM⟩
   unfold merge_Change_j2 at hM
   refine HW.fr [(3, .pointer (some ⟨b_1, 0, none⟩)), (6, .slice none 0 0), (7, .slice none 0 0), (9, vmore_1), (10, vless_1)] ⟨e3, e6, e7, e9, e10, trivial⟩ ?_
   refine HW.seq_mid (fun f h => ∃ (F' : Fz) (out_1 : List T_api_Record) (vout_1 : Value), f 3 = .pointer (some ⟨b_1, 0, none⟩) ∧ f 6 = .slice none 0 0 ∧ f 7 = vout_1 ∧ f 10 = vless_1 ∧ Kp F h0 F' h ∧ St F' (Ow.box b_1 30 (e_api_Addr g).toArray :: Ow.own 60 19 e_api_Record vout_1 out_1 :: Ow.own 30 17 e_api_Addr vless_1 less_1 :: fr) h ∧ (SliceF F' h 17 e_api_Addr vold_Sources old_Sources) ∧ (SliceF F' h 17 e_api_Addr vnext_Sources next_Sources) ∧ (NfL nf_api_Record F' h out_1) ∧ merge_Change_j3 g Q less_1 out_1) ?_ ?_
   ·
    refine HW.seq ?_
    refine HW.region ?_
    refine oM (vmore_1) rfl rfl ?_
    refine oV (.int .i64 (more_1.length : Int)) (q_len ts_32 (shp (hS.own 1 rfl).slice) rfl rfl) rfl ?_
    refine oV (.bool (decide (0 < (more_1.length : Int)))) (q_gtr rfl rfl) rfl ?_
    refine HO.nil (thenQ_normal (?_))
    refine HW.cond (decide (0 < (more_1.length : Int))) rfl (fun c_4 => ?_) (fun c_4 => ?_)
    ·
     replace hM := hM.1 (of_decide_eq_true c_4)
     refine HW.region ?_
     refine oM (.slice none 0 0) rfl rfl ?_
     refine oV (.agg (e_api_Addr g).toArray) (q_loadAgg (cs := (e_api_Addr g)) ta_30 rfl rfl (Blk.cells (k := 17) (hS.box 0 rfl) rfl)) rfl ?_
     refine oM (vmore_1) rfl rfl ?_
     refine oV (.agg #[.int .i64 5, .bool g.1, .int .u8 (b8 g.2 0), .int .u8 (b8 g.2 1), .int .u8 (b8 g.2 2), .int .u8 (b8 g.2 3), .int .u8 (b8 g.2 4), .int .u8 (b8 g.2 5), .int .u8 (b8 g.2 6), .int .u8 (b8 g.2 7), .int .u8 (b8 g.2 8), .int .u8 (b8 g.2 9), .int .u8 (b8 g.2 10), .int .u8 (b8 g.2 11), .int .u8 (b8 g.2 12), .int .u8 (b8 g.2 13), .int .u8 (b8 g.2 14), .int .u8 (b8 g.2 15), vmore_1]) (q_build tp_60 (fill_cons (cs' := #[.int .i64 5, .bool false, .int .u8 (b8 (default : Ba 16) 0), .int .u8 (b8 (default : Ba 16) 1), .int .u8 (b8 (default : Ba 16) 2), .int .u8 (b8 (default : Ba 16) 3), .int .u8 (b8 (default : Ba 16) 4), .int .u8 (b8 (default : Ba 16) 5), .int .u8 (b8 (default : Ba 16) 6), .int .u8 (b8 (default : Ba 16) 7), .int .u8 (b8 (default : Ba 16) 8), .int .u8 (b8 (default : Ba 16) 9), .int .u8 (b8 (default : Ba 16) 10), .int .u8 (b8 (default : Ba 16) 11), .int .u8 (b8 (default : Ba 16) 12), .int .u8 (b8 (default : Ba 16) 13), .int .u8 (b8 (default : Ba 16) 14), .int .u8 (b8 (default : Ba 16) 15), .slice none 0 0]) (vc := #[.int .i64 5]) rfl rfl rfl (Nat.le_of_ble_eq_true rfl) rfl (fill_cons (cs' := #[.int .i64 5, .bool g.1, .int .u8 (b8 g.2 0), .int .u8 (b8 g.2 1), .int .u8 (b8 g.2 2), .int .u8 (b8 g.2 3), .int .u8 (b8 g.2 4), .int .u8 (b8 g.2 5), .int .u8 (b8 g.2 6), .int .u8 (b8 g.2 7), .int .u8 (b8 g.2 8), .int .u8 (b8 g.2 9), .int .u8 (b8 g.2 10), .int .u8 (b8 g.2 11), .int .u8 (b8 g.2 12), .int .u8 (b8 g.2 13), .int .u8 (b8 g.2 14), .int .u8 (b8 g.2 15), .slice none 0 0]) (vc := (e_api_Addr g).toArray) rfl rfl rfl (Nat.le_of_ble_eq_true rfl) rfl (fill_cons (cs' := #[.int .i64 5, .bool g.1, .int .u8 (b8 g.2 0), .int .u8 (b8 g.2 1), .int .u8 (b8 g.2 2), .int .u8 (b8 g.2 3), .int .u8 (b8 g.2 4), .int .u8 (b8 g.2 5), .int .u8 (b8 g.2 6), .int .u8 (b8 g.2 7), .int .u8 (b8 g.2 8), .int .u8 (b8 g.2 9), .int .u8 (b8 g.2 10), .int .u8 (b8 g.2 11), .int .u8 (b8 g.2 12), .int .u8 (b8 g.2 13), .int .u8 (b8 g.2 14), .int .u8 (b8 g.2 15), vmore_1]) (vc := #[vmore_1]) rfl (shp (hS.own 1 rfl).slice).cells rfl (Nat.le_of_ble_eq_true rfl) rfl rfl)))) rfl ?_
     replace hS : St F_6 (Ow.own 30 17 e_api_Addr vmore_1 more_1 :: Ow.box b_1 30 (e_api_Addr g).toArray :: Ow.own 30 17 e_api_Addr vless_1 less_1 :: fr) h_9 := hS.perm2 [1, 0, 2] 3 rfl rfl
     obtain ⟨F_7, hS, hk, hL_2⟩ := hS.freezeOwn
     replace hK := hK.trans hk
     replace hL_old_Sources := hL_old_Sources.kp hk
     replace hL_next_Sources := hL_next_Sources.kp hk
     replace hM := hM vmore_1
     refine HO.eff (want_none) rfl (st_lit (enc := e_api_Record) (cells := #[.int .i64 5, .bool g.1, .int .u8 (b8 g.2 0), .int .u8 (b8 g.2 1), .int .u8 (b8 g.2 2), .int .u8 (b8 g.2 3), .int .u8 (b8 g.2 4), .int .u8 (b8 g.2 5), .int .u8 (b8 g.2 6), .int .u8 (b8 g.2 7), .int .u8 (b8 g.2 8), .int .u8 (b8 g.2 9), .int .u8 (b8 g.2 10), .int .u8 (b8 g.2 11), .int .u8 (b8 g.2 12), .int .u8 (b8 g.2 13), .int .u8 (b8 g.2 14), .int .u8 (b8 g.2 15), vmore_1]) #[.int .i64 0, .bool false, .int .u8 0, .int .u8 0, .int .u8 0, .int .u8 0, .int .u8 0, .int .u8 0, .int .u8 0, .int .u8 0, .int .u8 0, .int .u8 0, .int .u8 0, .int .u8 0, .int .u8 0, .int .u8 0, .int .u8 0, .int .u8 0, .slice none 0 0] ([(5, g, (vmore_1, more_1))] : List T_api_Record) hS tl_37 (by decide) (by decide) (by kernel_rfl) (by kernel_rfl) rfl (by intro x hx; rfl) rfl) ?_
     rintro _ h_10 ⟨b_5, rfl, hS, hk⟩
     replace hK := hK.trans hk
     replace hL_old_Sources := hL_old_Sources.kp hk
     replace hL_next_Sources := hL_next_Sources.kp hk
     replace hL_2 := hL_2.kp hk
     have hN_4 : NfL nf_api_Record F_7 h_10 ([(5, g, (vmore_1, more_1))] : List T_api_Record) := (NfL.cons (nfm_api_Record (5, g, (vmore_1, more_1)) hL_2) (NfL.nil _ _ _))
     obtain ⟨ho_1, hM⟩ := hM
     refine HO.eff (want_none) rfl (st_appendNil te_37 hS (hS.own 0 rfl).slice rfl rfl rfl (fun a_ ha_ => nfo_api_Record (hN_4.is.all a_ ha_)) ho_1 (by omega)) ?_
     rintro v_1 h_11 ⟨hS, hk⟩
     replace hK := hK.trans hk
     replace hL_old_Sources := hL_old_Sources.kp hk
     replace hL_next_Sources := hL_next_Sources.kp hk
     replace hN_4 := hN_4.kp hk
     refine oA (v_1) rfl rfl ?_
     refine HO.nil (thenQ_normal (?_))
     replace hS : St F_7 (Ow.box b_1 30 (e_api_Addr g).toArray :: Ow.own 60 19 e_api_Record v_1 ([(5, g, (vmore_1, more_1))] : List T_api_Record) :: Ow.own 30 17 e_api_Addr vless_1 less_1 :: fr) h_11 := hS.perm2 [2, 0, 3] 4 rfl rfl
     exact ⟨F_7, ([(5, g, (vmore_1, more_1))] : List T_api_Record), v_1, rfl, rfl, rfl, rfl, hK, hS, hL_old_Sources, hL_next_Sources, hN_4, hM⟩
    ·
     replace hM := hM.2 (of_decide_eq_false c_4)
     refine HW.skip (thenQ_normal (?_))
     replace hS := hS.nilOwn 60 19 e_api_Record
     have hN_5 : NfL nf_api_Record F_6 h_9 ([] : List T_api_Record) := NfL.nil _ _ _
     replace hS : St F_6 (Ow.box b_1 30 (e_api_Addr g).toArray :: Ow.own 60 19 e_api_Record (.slice none 0 0) ([] : List T_api_Record) :: Ow.own 30 17 e_api_Addr vless_1 less_1 :: fr) h_9 := hS.perm2 [1, 0, 3] 4 rfl rfl
     exact ⟨F_6, [], .slice none 0 0, rfl, rfl, rfl, rfl, hK, hS, hL_old_Sources, hL_next_Sources, hN_5, hM⟩
   ·
    rintro f_3 h_12 ⟨F_8, out_1, vout_1, e3, e6, e7, e10, hK, hS, hL_old_Sources, hL_next_Sources, hN_3, hM⟩
    unfold merge_Change_j3 at hM
    refine HW.fr [(3, .pointer (some ⟨b_1, 0, none⟩)), (6, .slice none 0 0), (7, vout_1), (10, vless_1)] ⟨e3, e6, e7, e10, trivial⟩ ?_
    refine HW.seq ?_
    refine HW.seq ?_
    refine HW.region ?_
    refine oM (vless_1) rfl rfl ?_
    refine oV (.int .i64 (less_1.length : Int)) (q_len ts_32 (shp (hS.own 2 rfl).slice) rfl rfl) rfl ?_
    refine oV (.bool (decide (0 < (less_1.length : Int)))) (q_gtr rfl rfl) rfl ?_
    refine HO.nil (thenQ_normal (?_))
    refine HW.cond (decide (0 < (less_1.length : Int))) rfl (fun c_5 => ?_) (fun c_5 => ?_)
    ·
     replace hM := hM.1 (of_decide_eq_true c_5)
     refine HW.region ?_
     refine oM (vout_1) rfl rfl ?_
     refine oV (.agg (e_api_Addr g).toArray) (q_loadAgg (cs := (e_api_Addr g)) ta_30 rfl rfl (Blk.cells (k := 17) (hS.box 0 rfl) rfl)) rfl ?_
     refine oM (vless_1) rfl rfl ?_
     refine oV (.agg #[.int .i64 6, .bool g.1, .int .u8 (b8 g.2 0), .int .u8 (b8 g.2 1), .int .u8 (b8 g.2 2), .int .u8 (b8 g.2 3), .int .u8 (b8 g.2 4), .int .u8 (b8 g.2 5), .int .u8 (b8 g.2 6), .int .u8 (b8 g.2 7), .int .u8 (b8 g.2 8), .int .u8 (b8 g.2 9), .int .u8 (b8 g.2 10), .int .u8 (b8 g.2 11), .int .u8 (b8 g.2 12), .int .u8 (b8 g.2 13), .int .u8 (b8 g.2 14), .int .u8 (b8 g.2 15), vless_1]) (q_build tp_60 (fill_cons (cs' := #[.int .i64 6, .bool false, .int .u8 (b8 (default : Ba 16) 0), .int .u8 (b8 (default : Ba 16) 1), .int .u8 (b8 (default : Ba 16) 2), .int .u8 (b8 (default : Ba 16) 3), .int .u8 (b8 (default : Ba 16) 4), .int .u8 (b8 (default : Ba 16) 5), .int .u8 (b8 (default : Ba 16) 6), .int .u8 (b8 (default : Ba 16) 7), .int .u8 (b8 (default : Ba 16) 8), .int .u8 (b8 (default : Ba 16) 9), .int .u8 (b8 (default : Ba 16) 10), .int .u8 (b8 (default : Ba 16) 11), .int .u8 (b8 (default : Ba 16) 12), .int .u8 (b8 (default : Ba 16) 13), .int .u8 (b8 (default : Ba 16) 14), .int .u8 (b8 (default : Ba 16) 15), .slice none 0 0]) (vc := #[.int .i64 6]) rfl rfl rfl (Nat.le_of_ble_eq_true rfl) rfl (fill_cons (cs' := #[.int .i64 6, .bool g.1, .int .u8 (b8 g.2 0), .int .u8 (b8 g.2 1), .int .u8 (b8 g.2 2), .int .u8 (b8 g.2 3), .int .u8 (b8 g.2 4), .int .u8 (b8 g.2 5), .int .u8 (b8 g.2 6), .int .u8 (b8 g.2 7), .int .u8 (b8 g.2 8), .int .u8 (b8 g.2 9), .int .u8 (b8 g.2 10), .int .u8 (b8 g.2 11), .int .u8 (b8 g.2 12), .int .u8 (b8 g.2 13), .int .u8 (b8 g.2 14), .int .u8 (b8 g.2 15), .slice none 0 0]) (vc := (e_api_Addr g).toArray) rfl rfl rfl (Nat.le_of_ble_eq_true rfl) rfl (fill_cons (cs' := #[.int .i64 6, .bool g.1, .int .u8 (b8 g.2 0), .int .u8 (b8 g.2 1), .int .u8 (b8 g.2 2), .int .u8 (b8 g.2 3), .int .u8 (b8 g.2 4), .int .u8 (b8 g.2 5), .int .u8 (b8 g.2 6), .int .u8 (b8 g.2 7), .int .u8 (b8 g.2 8), .int .u8 (b8 g.2 9), .int .u8 (b8 g.2 10), .int .u8 (b8 g.2 11), .int .u8 (b8 g.2 12), .int .u8 (b8 g.2 13), .int .u8 (b8 g.2 14), .int .u8 (b8 g.2 15), vless_1]) (vc := #[vless_1]) rfl (shp (hS.own 2 rfl).slice).cells rfl (Nat.le_of_ble_eq_true rfl) rfl rfl)))) rfl ?_
     replace hS : St F_8 (Ow.own 30 17 e_api_Addr vless_1 less_1 :: Ow.box b_1 30 (e_api_Addr g).toArray :: Ow.own 60 19 e_api_Record vout_1 out_1 :: fr) h_12 := hS.perm2 [2, 0, 1] 3 rfl rfl
     obtain ⟨F_9, hS, hk, hL_3⟩ := hS.freezeOwn
     replace hK := hK.trans hk
     replace hL_old_Sources := hL_old_Sources.kp hk
     replace hL_next_Sources := hL_next_Sources.kp hk
     replace hN_3 := hN_3.kp hk
     replace hM := hM vless_1
     refine HO.eff (want_none) rfl (st_lit (enc := e_api_Record) (cells := #[.int .i64 6, .bool g.1, .int .u8 (b8 g.2 0), .int .u8 (b8 g.2 1), .int .u8 (b8 g.2 2), .int .u8 (b8 g.2 3), .int .u8 (b8 g.2 4), .int .u8 (b8 g.2 5), .int .u8 (b8 g.2 6), .int .u8 (b8 g.2 7), .int .u8 (b8 g.2 8), .int .u8 (b8 g.2 9), .int .u8 (b8 g.2 10), .int .u8 (b8 g.2 11), .int .u8 (b8 g.2 12), .int .u8 (b8 g.2 13), .int .u8 (b8 g.2 14), .int .u8 (b8 g.2 15), vless_1]) #[.int .i64 0, .bool false, .int .u8 0, .int .u8 0, .int .u8 0, .int .u8 0, .int .u8 0, .int .u8 0, .int .u8 0, .int .u8 0, .int .u8 0, .int .u8 0, .int .u8 0, .int .u8 0, .int .u8 0, .int .u8 0, .int .u8 0, .int .u8 0, .slice none 0 0] ([(6, g, (vless_1, less_1))] : List T_api_Record) hS tl_37 (by decide) (by decide) (by kernel_rfl) (by kernel_rfl) rfl (by intro x hx; rfl) rfl) ?_
     rintro _ h_13 ⟨b_6, rfl, hS, hk⟩
     replace hK := hK.trans hk
     replace hL_old_Sources := hL_old_Sources.kp hk
     replace hL_next_Sources := hL_next_Sources.kp hk
     replace hN_3 := hN_3.kp hk
     replace hL_3 := hL_3.kp hk
     have hN_6 : NfL nf_api_Record F_9 h_13 ([(6, g, (vless_1, less_1))] : List T_api_Record) := (NfL.cons (nfm_api_Record (6, g, (vless_1, less_1)) hL_3) (NfL.nil _ _ _))
     obtain ⟨ho_2, hM⟩ := hM
     refine HO.eff (want_none) rfl (st_append te_37 hS (i := 2) rfl (hS.own 0 rfl).slice rfl rfl rfl (fun a_ ha_ => nfo_api_Record (hN_6.is.all a_ ha_)) ho_2 (by omega)) ?_
     rintro v_2 h_14 ⟨hS, hk⟩
     replace hK := hK.trans hk
     replace hL_old_Sources := hL_old_Sources.kp hk
     replace hL_next_Sources := hL_next_Sources.kp hk
     replace hN_3 := hN_3.kp hk
     replace hN_6 := hN_6.kp hk
     have hN_7 : NfL nf_api_Record F_9 h_14 (out_1 ++ ([(6, g, (vless_1, less_1))] : List T_api_Record)) := NfL.app hN_3 hN_6
     refine oA (v_2) rfl rfl ?_
     refine HO.nil (thenQ_normal (?_))
     refine HW.seq ?_
     refine HW.region ?_
     refine oM (v_2) rfl rfl ?_
     refine oA (v_2) rfl rfl ?_
     refine HO.nil (thenQ_normal (?_))
     refine HW.ret (?_)
     refine ⟨.inr rfl, v_2, res1 rfl (rt rfl), ?_⟩
     replace hS : St F_9 (Ow.own 60 19 e_api_Record v_2 (out_1 ++ ([(6, g, (vless_1, less_1))] : List T_api_Record)) :: fr) h_14 := hS.perm2 [2] 3 rfl rfl
     exact ⟨F_9, out_1 ++ ([(6, g, (vless_1, less_1))] : List T_api_Record), v_2, rfl, hK, hS, hL_old_Sources, hL_next_Sources, hN_7, hM⟩
    ·
     replace hM := hM.2 (of_decide_eq_false c_5)
     refine HW.skip (thenQ_normal (?_))
     refine HW.seq ?_
     refine HW.region ?_
     refine oM (vout_1) rfl rfl ?_
     refine oA (vout_1) rfl rfl ?_
     refine HO.nil (thenQ_normal (?_))
     refine HW.ret (?_)
     refine ⟨.inr rfl, vout_1, res1 rfl (rt rfl), ?_⟩
     replace hS : St F_8 (Ow.own 60 19 e_api_Record vout_1 out_1 :: fr) h_12 := hS.perm2 [1] 3 rfl rfl
     exact ⟨F_8, out_1, vout_1, rfl, hK, hS, hL_old_Sources, hL_next_Sources, hN_3, hM⟩
def host_size_W (v6 : Bool) (r_Kind : Int) (r_Group : T_api_Addr) (r_Sources : List T_api_Addr) (Q : Int → Prop) : Prop :=
 (v6 = true → (I64 (16 * (r_Sources.length : Int))) ∧ ((I64 (20 + (16 * (r_Sources.length : Int)))) ∧ (Q (20 + (16 * (r_Sources.length : Int)))))) ∧ (v6 = false → (I64 (4 * (r_Sources.length : Int))) ∧ ((I64 (8 + (4 * (r_Sources.length : Int)))) ∧ (Q (8 + (4 * (r_Sources.length : Int))))))
theorem host_size_walk {F : Fz} {fr : List Ow} {h0 : Heap} (v6 : Bool) (r_Kind : Int) (r_Group : T_api_Addr) (r_Sources : List T_api_Addr) (vr_Sources : Value) (hS : St F (fr) h0) (hL_r_Sources : SliceF F h0 17 e_api_Addr vr_Sources r_Sources) {Q : Int → Prop} (hM : host_size_W v6 r_Kind r_Group r_Sources Q) :
  HC Try.prog 51 #[.bool v6, .agg (c_api_Record (.int .i64 r_Kind) r_Group vr_Sources).toArray] h0 fun u h' => ∃ (F' : Fz) (r_1 : Int), u = .int .i64 r_1 ∧ Kp F h0 F' h' ∧ St F' (fr) h' ∧ (SliceF F' h' 17 e_api_Addr vr_Sources r_Sources) ∧ Q r_1 := by
 unfold host_size_W at hM
 have hK := Kp.refl F h0
 refine HC.of_HW (n := 16) Try.func51 rfl rfl (Nat.le_of_ble_eq_true rfl) ?_
 refine HW.seq ?_
 refine HW.region ?_
 refine HO.eff (want_none) rfl (st_box (c := (c_api_Record (.int .i64 r_Kind) r_Group vr_Sources).toArray) (k' := 19) hS rfl rfl) ?_
 rintro _ h_1 ⟨b_1, rfl, hS, hk⟩
 replace hK := hK.trans hk
 replace hL_r_Sources := hL_r_Sources.kp hk
 refine oA (.int .i64 0) rfl rfl ?_
 refine HO.nil (thenQ_normal (?_))
 refine HW.seq ?_
 refine HW.seq ?_
 refine HW.region ?_
 refine oM (.bool v6) rfl rfl ?_
 refine HO.nil (thenQ_normal (?_))
 refine HW.cond v6 rfl (fun c_1 => ?_) (fun c_1 => ?_)
 ·
  replace hM := hM.1 c_1
  refine HW.seq ?_
  refine HW.region ?_
  refine oV (.pointer (some ⟨b_1, 18, none⟩)) (q_fieldAddr fa_60_2 rfl rfl) rfl ?_
  refine oV (vr_Sources) (q_load to_32 rfl (Blk.cell (hS.box 0 rfl) rfl)) rfl ?_
  refine oV (.int .i64 (r_Sources.length : Int)) (q_len ts_32 (shp hL_r_Sources.is) rfl rfl) rfl ?_
  obtain ⟨ho_1, hM⟩ := hM
  refine oV (.int .i64 (16 * (r_Sources.length : Int))) (q_mulN _ rfl rfl rfl ho_1.1 ho_1.2) rfl ?_
  obtain ⟨ho_2, hM⟩ := hM
  refine oV (.int .i64 (20 + (16 * (r_Sources.length : Int)))) (q_addN _ rfl rfl rfl ho_2.1 ho_2.2) rfl ?_
  refine oA (.int .i64 (20 + (16 * (r_Sources.length : Int)))) rfl rfl ?_
  refine HO.nil (thenQ_normal (?_))
  refine HW.ret (thenQ_ret (?_))
  refine ⟨.inr rfl, .int .i64 (20 + (16 * (r_Sources.length : Int))), res1 rfl (rt rfl), ?_⟩
  replace hS : St F (fr) h_1 := hS.perm2 [] 1 rfl rfl
  exact ⟨F, 20 + (16 * (r_Sources.length : Int)), rfl, hK, hS, hL_r_Sources, hM⟩
 ·
  replace hM := hM.2 c_1
  refine HW.skip (thenQ_normal (?_))
  refine HW.seq ?_
  refine HW.region ?_
  refine oV (.pointer (some ⟨b_1, 18, none⟩)) (q_fieldAddr fa_60_2 rfl rfl) rfl ?_
  refine oV (vr_Sources) (q_load to_32 rfl (Blk.cell (hS.box 0 rfl) rfl)) rfl ?_
  refine oV (.int .i64 (r_Sources.length : Int)) (q_len ts_32 (shp hL_r_Sources.is) rfl rfl) rfl ?_
  obtain ⟨ho_3, hM⟩ := hM
  refine oV (.int .i64 (4 * (r_Sources.length : Int))) (q_mulN _ rfl rfl rfl ho_3.1 ho_3.2) rfl ?_
  obtain ⟨ho_4, hM⟩ := hM
  refine oV (.int .i64 (8 + (4 * (r_Sources.length : Int)))) (q_addN _ rfl rfl rfl ho_4.1 ho_4.2) rfl ?_
  refine oA (.int .i64 (8 + (4 * (r_Sources.length : Int)))) rfl rfl ?_
  refine HO.nil (thenQ_normal (?_))
  refine HW.ret (?_)
  refine ⟨.inr rfl, .int .i64 (8 + (4 * (r_Sources.length : Int))), res1 rfl (rt rfl), ?_⟩
  replace hS : St F (fr) h_1 := hS.perm2 [] 1 rfl rfl
  exact ⟨F, 8 + (4 * (r_Sources.length : Int)), rfl, hK, hS, hL_r_Sources, hM⟩
def host_pack_j1 (l : List T_api_Record) (n_1 : Int) (K_1 : (List T_api_Talk) → Value → (List T_api_Record) → Int → Int → Prop) (r_2 : Int) (out_2 : List T_api_Talk) (v_2 : Value) (hot_2 : List T_api_Record) (room_2 : Int) (r_18_1 : List T_api_Addr) : Prop :=
 (I64 (room_2 - r_2)) ∧ (slices_Clone_s_api_Addr_api_Addr_W r_18_1 (fun r_4 => (I64 ((out_2.length : Int) - 1)) ∧ (((0 : Int) ≤ (out_2.length : Int) - 1 ∧ (out_2.length : Int) - 1 < (out_2.length : Int)) ∧ ((((gi out_2 ((out_2.length : Int) - 1)).2.2.2.2.2.2.2.2.2) = (v_2, hot_2)) ∧ (∀ vr_2 : Value, (((hot_2.length + ([((gi l n_1).1, ((gi l n_1).2.1), (vr_2, r_4))] : List T_api_Record).length) * 56 ≤ 140737488355328) ∧ (∀ v_5 : Value, (((out_2.length : Int) - 1 + 1 = (out_2.length : Int)) ∧ ((I64 (n_1 + 1)) ∧ (K_1 (out_2.set ((out_2.length : Int) - 1).toNat ((gi out_2 ((out_2.length : Int) - 1)).1, (gi out_2 ((out_2.length : Int) - 1)).2.1, (gi out_2 ((out_2.length : Int) - 1)).2.2.1, (gi out_2 ((out_2.length : Int) - 1)).2.2.2.1, (((gi out_2 ((out_2.length : Int) - 1)).2.2.2.2.1).1, (((gi out_2 ((out_2.length : Int) - 1)).2.2.2.2.1).2)), (gi out_2 ((out_2.length : Int) - 1)).2.2.2.2.2.1, (gi out_2 ((out_2.length : Int) - 1)).2.2.2.2.2.2.1, (gi out_2 ((out_2.length : Int) - 1)).2.2.2.2.2.2.2.1, ((gi out_2 ((out_2.length : Int) - 1)).2.2.2.2.2.2.2.2.1), (v_5, hot_2 ++ ([((gi l n_1).1, ((gi l n_1).2.1), (vr_2, r_4))] : List T_api_Record)))) v_5 (hot_2 ++ ([((gi l n_1).1, ((gi l n_1).2.1), (vr_2, r_4))] : List T_api_Record)) (room_2 - r_2) (n_1 + 1)))))))))))
def host_pack_j2 (v6 : Bool) (l : List T_api_Record) (out_1 : List T_api_Talk) (room_1 : Int) (n_1 : Int) (K_1 : (List T_api_Talk) → Value → (List T_api_Record) → Int → Int → Prop) (r_2 : Int) (v_3 : Value) (hot_3 : List T_api_Record) (r_18_2 : List T_api_Addr) (b_2 : Bool) : Prop :=
 (b_2 = true → compat_Last_W v6 (fun r_3 => (∀ x, out_1.getLast? = some x → x.2.2.2.2.2.2.2.2.2 = (v_3, hot_3)) ∧ (((out_1.length + ([(v6, r_3, 2, 0, (false, (default : Ba 16)), false, 0, 0, (.slice none 0 0, []), (.slice none 0 0, []))] : List T_api_Talk).length) * 120 ≤ 140737488355328) ∧ (host_pack_j1 l n_1 K_1 r_2 (out_1 ++ ([(v6, r_3, 2, 0, (false, (default : Ba 16)), false, 0, 0, (.slice none 0 0, []), (.slice none 0 0, []))] : List T_api_Talk)) (.slice none 0 0) [] 1392 r_18_2)))) ∧ (b_2 = false → host_pack_j1 l n_1 K_1 r_2 out_1 v_3 hot_3 room_1 r_18_2)
def host_pack_l1 (v6 : Bool) (l : List T_api_Record) (Q : (List T_api_Talk) → Prop) (K_1 : (List T_api_Talk) → Value → (List T_api_Record) → Int → Int → Prop) (out_1 : List T_api_Talk) (v_1 : Value) (hot_1 : List T_api_Record) (room_1 : Int) (n_1 : Int) : Prop :=
 (n_1 < (l.length : Int) → ((0 : Int) ≤ n_1 ∧ n_1 < (l.length : Int)) ∧ (host_size_W v6 ((gi l n_1).1) ((gi l n_1).2.1) (((gi l n_1).2.2).2) (fun r_2 => ((out_1.length : Int) = 0 → host_pack_j2 v6 l out_1 room_1 n_1 K_1 r_2 v_1 hot_1 (((gi l n_1).2.2).2) true) ∧ (¬ ((out_1.length : Int) = 0) → (room_1 < r_2 → host_pack_j2 v6 l out_1 room_1 n_1 K_1 r_2 v_1 hot_1 (((gi l n_1).2.2).2) true) ∧ (¬ (room_1 < r_2) → (I64 ((out_1.length : Int) - 1)) ∧ (((0 : Int) ≤ (out_1.length : Int) - 1 ∧ (out_1.length : Int) - 1 < (out_1.length : Int)) ∧ ((((gi out_1 ((out_1.length : Int) - 1)).2.2.2.2.2.2.2.2.2) = (v_1, hot_1)) ∧ (host_pack_j2 v6 l out_1 room_1 n_1 K_1 r_2 v_1 hot_1 (((gi l n_1).2.2).2) (decide ((hot_1.length : Int) = 64)))))))))) ∧ (¬ (n_1 < (l.length : Int)) → (∀ x, out_1.getLast? = some x → x.2.2.2.2.2.2.2.2.2 = (v_1, hot_1)) ∧ (Q out_1))
def host_pack_W (v6 : Bool) (l : List T_api_Record) (Q : (List T_api_Talk) → Prop) : Prop :=
 loopW (fun (K_1 : (List T_api_Talk × Value × List T_api_Record × Int × Int) → Prop) (s : List T_api_Talk × Value × List T_api_Record × Int × Int) => host_pack_l1 v6 l Q (fun out_1 v_1 hot_1 room_1 n_1 => K_1 (out_1, v_1, hot_1, room_1, n_1)) s.1 s.2.1 s.2.2.1 s.2.2.2.1 s.2.2.2.2) ([], .slice none 0 0, [], 0, 0)
theorem host_pack_walk {F : Fz} {fr : List Ow} {h0 : Heap} (v6 : Bool) (l : List T_api_Record) (vl : Value) (hS : St F (fr) h0) (hN_l : NfL nf_api_Record F h0 l) (hL_l : SliceF F h0 19 e_api_Record vl l) {Q : (List T_api_Talk) → Prop} (hM : host_pack_W v6 l Q) :
  HC Try.prog 32 #[.bool v6, vl] h0 fun u h' => ∃ (F' : Fz) (r_1 : List T_api_Talk) (vr_1 : Value), u = vr_1 ∧ Kp F h0 F' h' ∧ St F' (Ow.own 39 26 e_api_Talk vr_1 r_1 :: fr) h' ∧ (NfL nf_api_Record F' h' l) ∧ (SliceF F' h' 19 e_api_Record vl l) ∧ (NfL nf_api_Talk F' h' r_1) ∧ Q r_1 := by
 unfold host_pack_W at hM
 have hK := Kp.refl F h0
 refine HC.of_HW (n := 70) Try.func32 rfl rfl (Nat.le_of_ble_eq_true rfl) ?_
 refine HW.seq ?_
 refine HW.region ?_
 refine oA (.slice none 0 0) rfl rfl ?_
 refine HO.nil (thenQ_normal (?_))
 refine HW.seq ?_
 refine HW.region ?_
 refine oA (.slice none 0 0) rfl rfl ?_
 refine HO.nil (thenQ_normal (?_))
 refine HW.seq ?_
 refine HW.region ?_
 refine oA (.int .i64 0) rfl rfl ?_
 refine HO.nil (thenQ_normal (?_))
 refine HW.seq ?_
 refine HW.seq ?_
 refine HW.region ?_
 refine oM (vl) rfl rfl ?_
 refine oV (.int .i64 (l.length : Int)) (q_len ts_37 (shp hL_l.is) rfl rfl) rfl ?_
 refine oM (.int .i64 0) rfl rfl ?_
 refine HO.nil (thenQ_normal (?_))
 refine HW.block ?_
 obtain ⟨I_1, m_1, hI_1, hR_1⟩ := hM
 replace hS := hS.nilOwn 39 26 e_api_Talk
 have hN_4 : NfL nf_api_Talk F h0 ([] : List T_api_Talk) := NfL.nil _ _ _
 replace hS := hS.nilOwn 60 19 e_api_Record
 have hN_5 : NfL nf_api_Record F h0 ([] : List T_api_Record) := NfL.nil _ _ _
 have hN_6 : NfL nf_api_Talk F h0 (hotL hz_api_Talk ([] : List T_api_Talk)) := NfL.hot (fun x hp => nfm_api_Talk (hz_api_Talk x) (nff_api_Talk_24 (x := x) hp) (SliceF.nil _ _ _ _) (NfL.nil _ _ _)) hN_4
 replace hS : St F (Ow.own 39 26 e_api_Talk (.slice none 0 0) ([] : List T_api_Talk) :: Ow.own 60 19 e_api_Record (.slice none 0 0) ([] : List T_api_Record) :: fr) h0 := hS.perm2 [1, 0] 2 rfl rfl
 refine HW.loop (S := List T_api_Talk × Value × List T_api_Record × Int × Int) (fun s f h => match s with | (out_1, v_1, hot_1, room_1, n_1) => ∃ (F' : Fz) (vout_1 : Value), f 0 = .bool v6 ∧ f 4 = .slice none 0 0 ∧ f 5 = vout_1 ∧ f 6 = .int .i64 room_1 ∧ f 11 = vl ∧ f 12 = .int .i64 (l.length : Int) ∧ f 13 = .int .i64 n_1 ∧ Kp F h0 F' h ∧ St F' (Ow.own 39 26 e_api_Talk vout_1 out_1 :: Ow.own 60 19 e_api_Record v_1 hot_1 :: fr) h ∧ (NfL nf_api_Record F' h l) ∧ (SliceF F' h 19 e_api_Record vl l) ∧ (NfL nf_api_Record F' h hot_1) ∧ (NfL nf_api_Talk F' h (hotL hz_api_Talk out_1)) ∧ I_1 (out_1, v_1, hot_1, room_1, n_1)) m_1 ([], .slice none 0 0, [], 0, 0) ⟨F, .slice none 0 0, rfl, rfl, rfl, rfl, rfl, rfl, rfl, hK, hS, hN_l, hL_l, hN_5, hN_6, hI_1⟩ ?_
 rintro ⟨out_1, v_1, hot_1, room_1, n_1⟩ f_1 h_1 ⟨F_1, vout_1, e0, e4, e5, e6, e11, e12, e13, hK, hS, hN_l, hL_l, hN_2, hN_3, hI0⟩
 obtain ⟨K_1, hKe_1⟩ : ∃ K : (List T_api_Talk) → Value → (List T_api_Record) → Int → Int → Prop, K = fun out_1' v_1' hot_1' room_1' n_1' => I_1 (out_1', v_1', hot_1', room_1', n_1') ∧ m_1 (out_1', v_1', hot_1', room_1', n_1') < m_1 (out_1, v_1, hot_1, room_1, n_1) := ⟨_, rfl⟩
 have hM : host_pack_l1 v6 l Q K_1 out_1 v_1 hot_1 room_1 n_1 := by rw [hKe_1]; exact hR_1 (out_1, v_1, hot_1, room_1, n_1) hI0
 unfold host_pack_l1 at hM
 refine HW.fr [(0, .bool v6), (4, .slice none 0 0), (5, vout_1), (6, .int .i64 room_1), (11, vl), (12, .int .i64 (l.length : Int)), (13, .int .i64 n_1)] ⟨e0, e4, e5, e6, e11, e12, e13, trivial⟩ ?_
 refine HW.seq ?_
 refine HW.region ?_
 refine oV (.bool (decide (n_1 < (l.length : Int)))) (q_lss rfl rfl) rfl ?_
 refine HO.nil (thenQ_normal (?_))
 refine HW.seq ?_
 refine HW.cond (decide (n_1 < (l.length : Int))) rfl (fun c_1 => ?_) (fun c_1 => ?_)
 ·
  replace hM := hM.1 (of_decide_eq_true c_1)
  refine HW.skip (thenQ_normal (?_))
  refine HW.seq ?_
  refine HW.block ?_
  refine HW.seq ?_
  refine HW.region ?_
  obtain ⟨ho_1, hM⟩ := hM
  refine oV (elemPtr 19 vl (n_1).toNat) (q_idx ts_37 hL_l.is rfl rfl ho_1) rfl ?_
  refine oV (.agg (c_api_Record (.int .i64 ((gi l n_1).1)) ((gi l n_1).2.1) (((gi l n_1).2.2).1)).toArray) (q_ldElemAgg (cs := (c_api_Record (.int .i64 ((gi l n_1).1)) ((gi l n_1).2.1) (((gi l n_1).2.2).1))) ta_60 hL_l.is rfl ho_1 rfl) rfl ?_
  refine HO.eff (want_none) rfl (st_alloc (c := (c_api_Record (.int .i64 0) (false, (default : Ba 16)) (.slice none 0 0)).toArray) hS tz_60 rfl) ?_
  rintro _ h_2 ⟨b_1, rfl, hS, hk⟩
  replace hK := hK.trans hk
  replace hN_l := hN_l.kp hk
  replace hL_l := hL_l.kp hk
  replace hN_2 := hN_2.kp hk
  replace hN_3 := hN_3.kp hk
  refine HO.sto (want_none) rfl (st_storeAgg (c' := (c_api_Record (.int .i64 ((gi l n_1).1)) ((gi l n_1).2.1) (((gi l n_1).2.2).1)).toArray) hS (i := 0) rfl ta_60 rfl rfl rfl (List.forall_mem_cons.2 ⟨rfl, (List.forall_mem_cons.2 ⟨rfl, (List.forall_mem_cons.2 ⟨rfl, (List.forall_mem_cons.2 ⟨rfl, (List.forall_mem_cons.2 ⟨rfl, (List.forall_mem_cons.2 ⟨rfl, (List.forall_mem_cons.2 ⟨rfl, (List.forall_mem_cons.2 ⟨rfl, (List.forall_mem_cons.2 ⟨rfl, (List.forall_mem_cons.2 ⟨rfl, (List.forall_mem_cons.2 ⟨rfl, (List.forall_mem_cons.2 ⟨rfl, (List.forall_mem_cons.2 ⟨rfl, (List.forall_mem_cons.2 ⟨rfl, (List.forall_mem_cons.2 ⟨rfl, (List.forall_mem_cons.2 ⟨rfl, (List.forall_mem_cons.2 ⟨rfl, (List.forall_mem_cons.2 ⟨rfl, (List.forall_mem_cons.2 ⟨(shp (nfi_api_Record_18 (NfI.at hN_l.is ho_1))).one, (fun _ h => by cases h)⟩)⟩)⟩)⟩)⟩)⟩)⟩)⟩)⟩)⟩)⟩)⟩)⟩)⟩)⟩)⟩)⟩)⟩)⟩) (Nat.le_of_ble_eq_true rfl) rfl) ?_
  rintro h_3 ⟨hS, hk⟩
  replace hK := hK.trans hk
  replace hN_l := hN_l.kp hk
  replace hL_l := hL_l.kp hk
  replace hN_2 := hN_2.kp hk
  replace hN_3 := hN_3.kp hk
  refine HO.nil (thenQ_normal (?_))
  refine HW.seq ?_
  refine HW.region ?_
  refine oM (.bool v6) rfl rfl ?_
  refine oV (.agg (c_api_Record (.int .i64 ((gi l n_1).1)) ((gi l n_1).2.1) (((gi l n_1).2.2).1)).toArray) (q_loadAgg (cs := (c_api_Record (.int .i64 ((gi l n_1).1)) ((gi l n_1).2.1) (((gi l n_1).2.2).1))) ta_60 rfl rfl (Blk.cells (k := 19) (hS.box 0 rfl) rfl)) rfl ?_
  refine HO.call (want_none) rfl (ec en_51 rfl rfl) (host_size_walk (fr := (Ow.box b_1 60 (c_api_Record (.int .i64 ((gi l n_1).1)) ((gi l n_1).2.1) (((gi l n_1).2.2).1)).toArray :: Ow.own 39 26 e_api_Talk vout_1 out_1 :: Ow.own 60 19 e_api_Record v_1 hot_1 :: fr)) v6 ((gi l n_1).1) ((gi l n_1).2.1) (((gi l n_1).2.2).2) (((gi l n_1).2.2).1) hS (nff_api_Record_18 (NfL.at hN_l ho_1)) hM) ?_
  rintro _ h_4 ⟨F_2, r_2, rfl, hk, hS, _, hM⟩
  replace hK := hK.trans hk
  replace hN_l := hN_l.kp hk
  replace hL_l := hL_l.kp hk
  replace hN_2 := hN_2.kp hk
  replace hN_3 := hN_3.kp hk
  refine oA (.int .i64 r_2) rfl rfl ?_
  refine HO.nil (thenQ_normal (?_))
  refine HW.seq_mid (fun f h => ∃ (F' : Fz) (out_2 : List T_api_Talk) (v_2 : Value) (hot_2 : List T_api_Record) (room_2 : Int) (r_18_1 : List T_api_Addr) (vout_2 : Value) (vr_18_1 : Value), f 0 = .bool v6 ∧ f 4 = .slice none 0 0 ∧ f 5 = vout_2 ∧ f 6 = .int .i64 room_2 ∧ f 8 = .pointer (some ⟨b_1, 0, none⟩) ∧ f 9 = .int .i64 r_2 ∧ f 11 = vl ∧ f 12 = .int .i64 (l.length : Int) ∧ f 13 = .int .i64 n_1 ∧ Kp F h0 F' h ∧ St F' (Ow.own 39 26 e_api_Talk vout_2 out_2 :: Ow.own 60 19 e_api_Record v_2 hot_2 :: Ow.box b_1 60 (c_api_Record (.int .i64 ((gi l n_1).1)) ((gi l n_1).2.1) vr_18_1).toArray :: fr) h ∧ (NfL nf_api_Record F' h l) ∧ (SliceF F' h 19 e_api_Record vl l) ∧ (NfL nf_api_Record F' h hot_1) ∧ (NfL nf_api_Talk F' h (hotL hz_api_Talk out_1)) ∧ (NfL nf_api_Record F' h hot_2) ∧ (NfL nf_api_Talk F' h (hotL hz_api_Talk out_2)) ∧ (SliceF F' h 17 e_api_Addr vr_18_1 r_18_1) ∧ host_pack_j1 l n_1 K_1 r_2 out_2 v_2 hot_2 room_2 r_18_1) ?_ ?_
  ·
   refine HW.seq_mid (fun f h => ∃ (F' : Fz) (v_3 : Value) (hot_3 : List T_api_Record) (r_18_2 : List T_api_Addr) (b_2 : Bool) (vr_18_2 : Value), f 0 = .bool v6 ∧ f 4 = .slice none 0 0 ∧ f 5 = vout_1 ∧ f 6 = .int .i64 room_1 ∧ f 8 = .pointer (some ⟨b_1, 0, none⟩) ∧ f 9 = .int .i64 r_2 ∧ f 11 = vl ∧ f 12 = .int .i64 (l.length : Int) ∧ f 13 = .int .i64 n_1 ∧ f 38 = .bool b_2 ∧ Kp F h0 F' h ∧ St F' (Ow.own 39 26 e_api_Talk vout_1 out_1 :: Ow.own 60 19 e_api_Record v_3 hot_3 :: Ow.box b_1 60 (c_api_Record (.int .i64 ((gi l n_1).1)) ((gi l n_1).2.1) vr_18_2).toArray :: fr) h ∧ (NfL nf_api_Record F' h l) ∧ (SliceF F' h 19 e_api_Record vl l) ∧ (NfL nf_api_Record F' h hot_1) ∧ (NfL nf_api_Talk F' h (hotL hz_api_Talk out_1)) ∧ (NfL nf_api_Record F' h hot_3) ∧ (SliceF F' h 17 e_api_Addr vr_18_2 r_18_2) ∧ host_pack_j2 v6 l out_1 room_1 n_1 K_1 r_2 v_3 hot_3 r_18_2 b_2) ?_ ?_
   ·
    refine HW.region ?_
    refine oM (vout_1) rfl rfl ?_
    refine oV (.int .i64 (out_1.length : Int)) (q_len ts_24 (shp (hS.own 1 rfl).slice) rfl rfl) rfl ?_
    refine oV (.bool (decide ((out_1.length : Int) = 0))) (q_eql rfl rfl) rfl ?_
    refine oM (.bool (decide ((out_1.length : Int) = 0))) rfl rfl ?_
    rcases Bool.eq_false_or_eq_true (decide ((out_1.length : Int) = 0)) with c_2 | c_2
    ·
     replace hM := hM.1 (of_decide_eq_true c_2)
     refine HO.past (past_by rfl rfl c_2) rfl ?_
     refine HO.past (past_by rfl rfl c_2) rfl ?_
     refine HO.past (past_by rfl rfl c_2) rfl ?_
     refine oV (.bool true) (q_pickK true rfl c_2 rfl) rfl ?_
     refine oM (.bool true) rfl rfl ?_
     refine HO.past (past_some rfl rfl) rfl ?_
     refine HO.past (past_some rfl rfl) rfl ?_
     refine HO.past (past_some rfl rfl) rfl ?_
     refine HO.past (past_some rfl rfl) rfl ?_
     refine HO.past (past_some rfl rfl) rfl ?_
     refine HO.past (past_some rfl rfl) rfl ?_
     refine HO.past (past_some rfl rfl) rfl ?_
     refine HO.past (past_some rfl rfl) rfl ?_
     refine HO.past (past_some rfl rfl) rfl ?_
     refine oV (.bool true) (q_pick rfl rfl) rfl ?_
     refine HO.nil (thenQ_normal (?_))
     replace hS : St F_2 (Ow.own 39 26 e_api_Talk vout_1 out_1 :: Ow.own 60 19 e_api_Record v_1 hot_1 :: Ow.box b_1 60 (c_api_Record (.int .i64 ((gi l n_1).1)) ((gi l n_1).2.1) (((gi l n_1).2.2).1)).toArray :: fr) h_4 := hS.perm2 [1, 2, 0] 3 rfl rfl
     exact ⟨F_2, v_1, hot_1, ((gi l n_1).2.2).2, true, ((gi l n_1).2.2).1, rfl, rfl, rfl, rfl, rfl, rfl, rfl, rfl, rfl, rfl, hK, hS, hN_l, hL_l, hN_2, hN_3, hN_2, (nff_api_Record_18 (NfL.at hN_l ho_1)), hM⟩
    ·
     replace hM := hM.2 (of_decide_eq_false c_2)
     refine HO.val (v := .int .i64 r_2) (want_by rfl rfl c_2) rfl (q_move rfl) ?_
     refine HO.val (v := .int .i64 room_1) (want_by rfl rfl c_2) rfl (q_move rfl) ?_
     refine HO.val (v := .bool (decide (room_1 < r_2))) (want_by rfl rfl c_2) rfl (q_gtr rfl rfl) ?_
     refine oV (.bool (decide (room_1 < r_2))) (q_pickK false rfl c_2 rfl) rfl ?_
     refine oM (.bool (decide (room_1 < r_2))) rfl rfl ?_
     rcases Bool.eq_false_or_eq_true (decide (room_1 < r_2)) with c_3 | c_3
     ·
      replace hM := hM.1 (of_decide_eq_true c_3)
      refine HO.past (past_by rfl rfl c_3) rfl ?_
      refine HO.past (past_by rfl rfl c_3) rfl ?_
      refine HO.past (past_by rfl rfl c_3) rfl ?_
      refine HO.past (past_by rfl rfl c_3) rfl ?_
      refine HO.past (past_by rfl rfl c_3) rfl ?_
      refine HO.past (past_by rfl rfl c_3) rfl ?_
      refine HO.past (past_by rfl rfl c_3) rfl ?_
      refine HO.past (past_by rfl rfl c_3) rfl ?_
      refine HO.past (past_by rfl rfl c_3) rfl ?_
      refine oV (.bool true) (q_pickK true rfl c_3 rfl) rfl ?_
      refine HO.nil (thenQ_normal (?_))
      replace hS : St F_2 (Ow.own 39 26 e_api_Talk vout_1 out_1 :: Ow.own 60 19 e_api_Record v_1 hot_1 :: Ow.box b_1 60 (c_api_Record (.int .i64 ((gi l n_1).1)) ((gi l n_1).2.1) (((gi l n_1).2.2).1)).toArray :: fr) h_4 := hS.perm2 [1, 2, 0] 3 rfl rfl
      exact ⟨F_2, v_1, hot_1, ((gi l n_1).2.2).2, true, ((gi l n_1).2.2).1, rfl, rfl, rfl, rfl, rfl, rfl, rfl, rfl, rfl, rfl, hK, hS, hN_l, hL_l, hN_2, hN_3, hN_2, (nff_api_Record_18 (NfL.at hN_l ho_1)), hM⟩
     ·
      replace hM := hM.2 (of_decide_eq_false c_3)
      refine HO.val (v := vout_1) (want_by rfl rfl c_3) rfl (q_move rfl) ?_
      refine HO.val (v := vout_1) (want_by rfl rfl c_3) rfl (q_move rfl) ?_
      refine HO.val (v := .int .i64 (out_1.length : Int)) (want_by rfl rfl c_3) rfl (q_len ts_24 (shp (hS.own 1 rfl).slice) rfl rfl) ?_
      obtain ⟨ho_2, hM⟩ := hM
      refine HO.val (v := .int .i64 ((out_1.length : Int) - 1)) (want_by rfl rfl c_3) rfl (q_subN _ rfl rfl rfl ho_2.1 ho_2.2) ?_
      obtain ⟨ho_3, hM⟩ := hM
      refine HO.val (v := elemPtr 26 vout_1 ((out_1.length : Int) - 1).toNat) (want_by rfl rfl c_3) rfl (q_idx ts_24 (hS.own 1 rfl).slice rfl rfl ho_3) ?_
      refine HO.val (v := fieldPtr 26 vout_1 ((out_1.length : Int) - 1).toNat 25) (want_by rfl rfl c_3) rfl (q_fldElem fa_39_9 (hS.own 1 rfl).slice rfl ho_3) ?_
      obtain ⟨ho_4, hM⟩ := hM
      refine HO.val (v := v_1) (want_by rfl rfl c_3) rfl ((q_ldField to_37 (hS.own 1 rfl).slice rfl ho_3 (by decide) rfl).of_eq (congrArg Prod.fst ho_4)) ?_
      refine HO.val (v := .int .i64 (hot_1.length : Int)) (want_by rfl rfl c_3) rfl (q_len ts_37 (shp (hS.own 2 rfl).slice) rfl rfl) ?_
      refine HO.val (v := .bool (decide ((hot_1.length : Int) = 64))) (want_by rfl rfl c_3) rfl (q_eql rfl rfl) ?_
      refine oV (.bool (decide ((hot_1.length : Int) = 64))) (q_pickK false rfl c_3 rfl) rfl ?_
      refine HO.nil (thenQ_normal (?_))
      replace hS : St F_2 (Ow.own 39 26 e_api_Talk vout_1 out_1 :: Ow.own 60 19 e_api_Record v_1 hot_1 :: Ow.box b_1 60 (c_api_Record (.int .i64 ((gi l n_1).1)) ((gi l n_1).2.1) (((gi l n_1).2.2).1)).toArray :: fr) h_4 := hS.perm2 [1, 2, 0] 3 rfl rfl
      exact ⟨F_2, v_1, hot_1, ((gi l n_1).2.2).2, decide ((hot_1.length : Int) = 64), ((gi l n_1).2.2).1, rfl, rfl, rfl, rfl, rfl, rfl, rfl, rfl, rfl, rfl, hK, hS, hN_l, hL_l, hN_2, hN_3, hN_2, (nff_api_Record_18 (NfL.at hN_l ho_1)), hM⟩
   ·
    rintro f_2 h_5 ⟨F_3, v_3, hot_3, r_18_2, b_2, vr_18_2, e0, e4, e5, e6, e8, e9, e11, e12, e13, e38, hK, hS, hN_l, hL_l, hN_2, hN_3, hN_9, hL_2, hM⟩
    unfold host_pack_j2 at hM
    refine HW.fr [(0, .bool v6), (4, .slice none 0 0), (5, vout_1), (6, .int .i64 room_1), (8, .pointer (some ⟨b_1, 0, none⟩)), (9, .int .i64 r_2), (11, vl), (12, .int .i64 (l.length : Int)), (13, .int .i64 n_1), (38, .bool b_2)] ⟨e0, e4, e5, e6, e8, e9, e11, e12, e13, e38, trivial⟩ ?_
    refine HW.cond b_2 rfl (fun c_4 => ?_) (fun c_4 => ?_)
    ·
     replace hM := hM.1 c_4
     refine HW.seq ?_
     refine HW.region ?_
     refine oM (vout_1) rfl rfl ?_
     refine oM (.bool v6) rfl rfl ?_
     refine oM (.bool v6) rfl rfl ?_
     refine HO.call (want_none) rfl (ec en_29 rfl rfl) (compat_Last_walk (fr := (Ow.own 39 26 e_api_Talk vout_1 out_1 :: Ow.own 60 19 e_api_Record v_3 hot_3 :: Ow.box b_1 60 (c_api_Record (.int .i64 ((gi l n_1).1)) ((gi l n_1).2.1) vr_18_2).toArray :: fr)) v6 hS hM) ?_
     rintro _ h_6 ⟨F_4, r_3, rfl, hk, hS, hM⟩
     replace hK := hK.trans hk
     replace hN_l := hN_l.kp hk
     replace hL_l := hL_l.kp hk
     replace hN_2 := hN_2.kp hk
     replace hN_3 := hN_3.kp hk
     replace hN_9 := hN_9.kp hk
     replace hL_2 := hL_2.kp hk
     refine oV (.agg (c_api_Talk (.bool v6) (.int .i64 r_3) (.int .i64 2) (.int .i64 0) (false, (default : Ba 16)) (.bool false) (.int .i64 0) (.int .i64 0) (.slice none 0 0) (.slice none 0 0)).toArray) (q_build tp_39 rfl) rfl ?_
     refine HO.eff (want_none) rfl (st_lit (enc := e_api_Talk) (cells := #[.bool v6, .int .i64 r_3, .int .i64 2, .int .i64 0, .bool false, .int .u8 (b8 (default : Ba 16) 0), .int .u8 (b8 (default : Ba 16) 1), .int .u8 (b8 (default : Ba 16) 2), .int .u8 (b8 (default : Ba 16) 3), .int .u8 (b8 (default : Ba 16) 4), .int .u8 (b8 (default : Ba 16) 5), .int .u8 (b8 (default : Ba 16) 6), .int .u8 (b8 (default : Ba 16) 7), .int .u8 (b8 (default : Ba 16) 8), .int .u8 (b8 (default : Ba 16) 9), .int .u8 (b8 (default : Ba 16) 10), .int .u8 (b8 (default : Ba 16) 11), .int .u8 (b8 (default : Ba 16) 12), .int .u8 (b8 (default : Ba 16) 13), .int .u8 (b8 (default : Ba 16) 14), .int .u8 (b8 (default : Ba 16) 15), .bool false, .int .i64 0, .int .i64 0, .slice none 0 0, .slice none 0 0]) #[.bool false, .int .i64 0, .int .i64 0, .int .i64 0, .bool false, .int .u8 0, .int .u8 0, .int .u8 0, .int .u8 0, .int .u8 0, .int .u8 0, .int .u8 0, .int .u8 0, .int .u8 0, .int .u8 0, .int .u8 0, .int .u8 0, .int .u8 0, .int .u8 0, .int .u8 0, .int .u8 0, .bool false, .int .i64 0, .int .i64 0, .slice none 0 0, .slice none 0 0] ([(v6, r_3, 2, 0, (false, (default : Ba 16)), false, 0, 0, (.slice none 0 0, []), (.slice none 0 0, []))] : List T_api_Talk) hS tl_24 (by decide) (by decide) (by kernel_rfl) (by kernel_rfl) rfl (by intro x hx; rfl) rfl) ?_
     rintro _ h_7 ⟨b_3, rfl, hS, hk⟩
     replace hK := hK.trans hk
     replace hN_l := hN_l.kp hk
     replace hL_l := hL_l.kp hk
     replace hN_2 := hN_2.kp hk
     replace hN_3 := hN_3.kp hk
     replace hN_9 := hN_9.kp hk
     replace hL_2 := hL_2.kp hk
     have hN_10 : NfL nf_api_Talk F_4 h_7 ([(v6, r_3, 2, 0, (false, (default : Ba 16)), false, 0, 0, (.slice none 0 0, []), (.slice none 0 0, []))] : List T_api_Talk) := (NfL.cons (nfm_api_Talk (v6, r_3, 2, 0, (false, (default : Ba 16)), false, 0, 0, (.slice none 0 0, []), (.slice none 0 0, [])) (SliceF.nil _ _ _ _) (SliceF.nil _ _ _ _) (NfL.nil _ _ _)) (NfL.nil _ _ _))
     obtain ⟨ho_5, hM⟩ := hM
     replace hS : St F_4 (Ow.own 60 19 e_api_Record v_3 hot_3 :: Ow.own 39 26 e_api_Talk (.slice (some ⟨b_3, 0, none⟩) 1 1) ([(v6, r_3, 2, 0, (false, (default : Ba 16)), false, 0, 0, (.slice none 0 0, []), (.slice none 0 0, []))] : List T_api_Talk) :: Ow.own 39 26 e_api_Talk vout_1 out_1 :: Ow.box b_1 60 (c_api_Record (.int .i64 ((gi l n_1).1)) ((gi l n_1).2.1) vr_18_2).toArray :: fr) h_7 := hS.perm2 [2, 0, 1, 3] 4 rfl rfl
     obtain ⟨F_5, hS, hk, hL_3⟩ := hS.freezeOwn
     replace hK := hK.trans hk
     replace hN_l := hN_l.kp hk
     replace hL_l := hL_l.kp hk
     replace hN_2 := hN_2.kp hk
     replace hN_3 := hN_3.kp hk
     replace hN_9 := hN_9.kp hk
     replace hL_2 := hL_2.kp hk
     replace hN_10 := hN_10.kp hk
     have hN_11 : NfL nf_api_Talk F_5 h_7 out_1 := NfL.unhot (z := hz_api_Talk) (fun x hx hp => nfm_api_Talk x (nff_api_Talk_24 (x := hz_api_Talk x) hp) (by rw [ho_5 x hx]; exact hL_3) (by rw [ho_5 x hx]; exact hN_9)) hN_3
     obtain ⟨ho_6, hM⟩ := hM
     refine HO.eff (want_none) rfl (st_append te_24 hS (i := 1) rfl (hS.own 0 rfl).slice rfl rfl rfl (fun a_ ha_ => nfo_api_Talk (hN_10.is.all a_ ha_)) ho_6 (by omega)) ?_
     rintro v_4 h_8 ⟨hS, hk⟩
     replace hK := hK.trans hk
     replace hN_l := hN_l.kp hk
     replace hL_l := hL_l.kp hk
     replace hN_2 := hN_2.kp hk
     replace hN_3 := hN_3.kp hk
     replace hL_2 := hL_2.kp hk
     replace hN_10 := hN_10.kp hk
     replace hN_11 := hN_11.kp hk
     have hN_12 : NfL nf_api_Talk F_5 h_8 (out_1 ++ ([(v6, r_3, 2, 0, (false, (default : Ba 16)), false, 0, 0, (.slice none 0 0, []), (.slice none 0 0, []))] : List T_api_Talk)) := NfL.app hN_11 hN_10
     replace hS := hS.nilOwn 60 19 e_api_Record
     have hN_13 : NfL nf_api_Record F_5 h_8 ([] : List T_api_Record) := NfL.nil _ _ _
     have hN_14 : NfL nf_api_Talk F_5 h_8 (hotL hz_api_Talk (out_1 ++ ([(v6, r_3, 2, 0, (false, (default : Ba 16)), false, 0, 0, (.slice none 0 0, []), (.slice none 0 0, []))] : List T_api_Talk))) := NfL.hot (fun x hp => nfm_api_Talk (hz_api_Talk x) (nff_api_Talk_24 (x := x) hp) (SliceF.nil _ _ _ _) (NfL.nil _ _ _)) hN_12
     refine oA (v_4) rfl rfl ?_
     refine HO.nil (thenQ_normal (?_))
     refine HW.region ?_
     refine oA (.int .i64 1392) rfl rfl ?_
     refine HO.nil (thenQ_normal (?_))
     replace hS : St F_5 (Ow.own 39 26 e_api_Talk v_4 (out_1 ++ ([(v6, r_3, 2, 0, (false, (default : Ba 16)), false, 0, 0, (.slice none 0 0, []), (.slice none 0 0, []))] : List T_api_Talk)) :: Ow.own 60 19 e_api_Record (.slice none 0 0) ([] : List T_api_Record) :: Ow.box b_1 60 (c_api_Record (.int .i64 ((gi l n_1).1)) ((gi l n_1).2.1) vr_18_2).toArray :: fr) h_8 := hS.perm2 [2, 0, 3] 4 rfl rfl
     exact ⟨F_5, out_1 ++ ([(v6, r_3, 2, 0, (false, (default : Ba 16)), false, 0, 0, (.slice none 0 0, []), (.slice none 0 0, []))] : List T_api_Talk), .slice none 0 0, [], 1392, r_18_2, v_4, vr_18_2, rfl, rfl, rfl, rfl, rfl, rfl, rfl, rfl, rfl, hK, hS, hN_l, hL_l, hN_2, hN_3, hN_13, hN_14, hL_2, hM⟩
    ·
     replace hM := hM.2 c_4
     refine HW.skip (thenQ_normal (?_))
     exact ⟨F_3, out_1, v_3, hot_3, room_1, r_18_2, vout_1, vr_18_2, rfl, rfl, rfl, rfl, rfl, rfl, rfl, rfl, rfl, hK, hS, hN_l, hL_l, hN_2, hN_3, hN_9, hN_3, hL_2, hM⟩
  ·
   rintro f_3 h_9 ⟨F_6, out_2, v_2, hot_2, room_2, r_18_1, vout_2, vr_18_1, e0, e4, e5, e6, e8, e9, e11, e12, e13, hK, hS, hN_l, hL_l, hN_2, hN_3, hN_7, hN_8, hL_1, hM⟩
   unfold host_pack_j1 at hM
   refine HW.fr [(0, .bool v6), (4, .slice none 0 0), (5, vout_2), (6, .int .i64 room_2), (8, .pointer (some ⟨b_1, 0, none⟩)), (9, .int .i64 r_2), (11, vl), (12, .int .i64 (l.length : Int)), (13, .int .i64 n_1)] ⟨e0, e4, e5, e6, e8, e9, e11, e12, e13, trivial⟩ ?_
   refine HW.seq ?_
   refine HW.region ?_
   refine oM (.int .i64 room_2) rfl rfl ?_
   refine oM (.int .i64 r_2) rfl rfl ?_
   obtain ⟨ho_7, hM⟩ := hM
   refine oV (.int .i64 (room_2 - r_2)) (q_subN _ rfl rfl rfl ho_7.1 ho_7.2) rfl ?_
   refine oA (.int .i64 (room_2 - r_2)) rfl rfl ?_
   refine HO.nil (thenQ_normal (?_))
   refine HW.seq ?_
   refine HW.region ?_
   refine oV (.pointer (some ⟨b_1, 18, none⟩)) (q_fieldAddr fa_60_2 rfl rfl) rfl ?_
   refine oV (vr_18_1) (q_load to_32 rfl (Blk.cell (hS.box 2 rfl) rfl)) rfl ?_
   refine HO.call (want_none) rfl (ec en_42 rfl rfl) (slices_Clone_s_api_Addr_api_Addr_walk (fr := (Ow.own 39 26 e_api_Talk vout_2 out_2 :: Ow.own 60 19 e_api_Record v_2 hot_2 :: Ow.box b_1 60 (c_api_Record (.int .i64 ((gi l n_1).1)) ((gi l n_1).2.1) vr_18_1).toArray :: fr)) r_18_1 vr_18_1 hS hL_1 hM) ?_
   rintro vr_2 h_10 ⟨F_7, r_4, _, rfl, hk, hS, _, hM⟩
   replace hK := hK.trans hk
   replace hN_l := hN_l.kp hk
   replace hL_l := hL_l.kp hk
   replace hN_7 := hN_7.kp hk
   replace hN_8 := hN_8.kp hk
   refine oV (.pointer (some ⟨b_1, 18, none⟩)) (q_fieldAddr fa_60_2 rfl rfl) rfl ?_
   refine HO.sto (want_none) rfl (st_store (c' := (c_api_Record (.int .i64 ((gi l n_1).1)) ((gi l n_1).2.1) vr_2).toArray) hS (i := 3) rfl to_32 rfl rfl (shp (hS.own 0 rfl).slice).cells (shp (hS.own 0 rfl).slice).one (Nat.le_of_ble_eq_true rfl) rfl) ?_
   rintro h_11 ⟨hS, hk⟩
   replace hK := hK.trans hk
   replace hN_l := hN_l.kp hk
   replace hL_l := hL_l.kp hk
   replace hN_7 := hN_7.kp hk
   replace hN_8 := hN_8.kp hk
   refine HO.nil (thenQ_normal (?_))
   refine HW.seq ?_
   refine HW.region ?_
   refine oM (vout_2) rfl rfl ?_
   refine oM (vout_2) rfl rfl ?_
   refine oV (.int .i64 (out_2.length : Int)) (q_len ts_24 (shp (hS.own 1 rfl).slice) rfl rfl) rfl ?_
   obtain ⟨ho_8, hM⟩ := hM
   refine oV (.int .i64 ((out_2.length : Int) - 1)) (q_subN _ rfl rfl rfl ho_8.1 ho_8.2) rfl ?_
   obtain ⟨ho_9, hM⟩ := hM
   refine oV (elemPtr 26 vout_2 ((out_2.length : Int) - 1).toNat) (q_idx ts_24 (hS.own 1 rfl).slice rfl rfl ho_9) rfl ?_
   refine oA (elemPtr 26 vout_2 ((out_2.length : Int) - 1).toNat) rfl rfl ?_
   refine HO.nil (thenQ_normal (?_))
   refine HW.regionA 11 mixed (fun h => (Blk h b_1 (.cells (c_api_Record (.int .i64 ((gi l n_1).1)) ((gi l n_1).2.1) vr_2).toArray 60 (0, 0)))) [(10, fun h => (OwnIs h 0 39 26 e_api_Talk vout_2 out_2))] (by kernel_rfl) ?_
   refine HA.val (k := 0) (v := elemPtr 26 vout_2 ((out_2.length : Int) - 1).toNat) rfl rfl (by kernel_rfl) (by kernel_rfl) (want_none) rfl (fun _ c309 => q_move rfl) ?_
   refine HA.val (k := 1) (v := elemPtr 26 vout_2 ((out_2.length : Int) - 1).toNat) rfl rfl (by kernel_rfl) (by kernel_rfl) (want_none) rfl (fun _ c309 => q_move rfl) ?_
   refine Go.Wk.HA.valN (k := 2) (v := elemPtr 26 vout_2 ((out_2.length : Int) - 1).toNat) 0 10 (fun h => (OwnIs h 0 39 26 e_api_Talk vout_2 out_2)) rfl rfl (by kernel_rfl) (by kernel_rfl) (want_none) rfl rfl (by kernel_rfl) (fun _ c309 c307 => q_nilElem c307.slice rfl ho_9) ?_
   refine Go.Wk.HA.valN (k := 3) (v := fieldPtr 26 vout_2 ((out_2.length : Int) - 1).toNat 25) 0 10 (fun h => (OwnIs h 0 39 26 e_api_Talk vout_2 out_2)) rfl rfl (by kernel_rfl) (by kernel_rfl) (want_none) rfl rfl (by kernel_rfl) (fun _ c309 c307 => q_fldElem fa_39_9 c307.slice rfl ho_9) ?_
   obtain ⟨ho_10, hM⟩ := hM
   refine Go.Wk.HA.valN (k := 4) (v := v_2) 0 10 (fun h => (OwnIs h 0 39 26 e_api_Talk vout_2 out_2)) rfl rfl (by kernel_rfl) (by kernel_rfl) (want_none) rfl rfl (by kernel_rfl) (fun _ c309 c307 => (q_ldField to_37 c307.slice rfl ho_9 (by decide) rfl).of_eq (congrArg Prod.fst ho_10)) ?_
   refine HA.val (k := 5) (v := .agg (c_api_Record (.int .i64 ((gi l n_1).1)) ((gi l n_1).2.1) vr_2).toArray) rfl rfl (by kernel_rfl) (by kernel_rfl) (want_none) rfl (fun _ c309 => q_loadAgg (cs := (c_api_Record (.int .i64 ((gi l n_1).1)) ((gi l n_1).2.1) vr_2)) ta_60 rfl rfl (Blk.cells (k := 19) c309 rfl)) ?_
   refine HA.one (k := 6) ⟨(hS.box 3 rfl), (at_now (hS.own 1 rfl) (Go.Wk.at_nil _ _))⟩ (by kernel_rfl) ?_
   obtain ⟨F_8, hS, hk, hL_4⟩ := hS.freezeOwn
   replace hK := hK.trans hk
   replace hN_l := hN_l.kp hk
   replace hL_l := hL_l.kp hk
   replace hN_7 := hN_7.kp hk
   replace hN_8 := hN_8.kp hk
   replace hM := hM vr_2
   refine HS.eff rfl (want_none) rfl (st_lit (enc := e_api_Record) (cells := #[.int .i64 ((gi l n_1).1), .bool (((gi l n_1).2.1).1), .int .u8 (b8 (((gi l n_1).2.1).2) 0), .int .u8 (b8 (((gi l n_1).2.1).2) 1), .int .u8 (b8 (((gi l n_1).2.1).2) 2), .int .u8 (b8 (((gi l n_1).2.1).2) 3), .int .u8 (b8 (((gi l n_1).2.1).2) 4), .int .u8 (b8 (((gi l n_1).2.1).2) 5), .int .u8 (b8 (((gi l n_1).2.1).2) 6), .int .u8 (b8 (((gi l n_1).2.1).2) 7), .int .u8 (b8 (((gi l n_1).2.1).2) 8), .int .u8 (b8 (((gi l n_1).2.1).2) 9), .int .u8 (b8 (((gi l n_1).2.1).2) 10), .int .u8 (b8 (((gi l n_1).2.1).2) 11), .int .u8 (b8 (((gi l n_1).2.1).2) 12), .int .u8 (b8 (((gi l n_1).2.1).2) 13), .int .u8 (b8 (((gi l n_1).2.1).2) 14), .int .u8 (b8 (((gi l n_1).2.1).2) 15), vr_2]) #[.int .i64 0, .bool false, .int .u8 0, .int .u8 0, .int .u8 0, .int .u8 0, .int .u8 0, .int .u8 0, .int .u8 0, .int .u8 0, .int .u8 0, .int .u8 0, .int .u8 0, .int .u8 0, .int .u8 0, .int .u8 0, .int .u8 0, .int .u8 0, .slice none 0 0] ([((gi l n_1).1, ((gi l n_1).2.1), (vr_2, r_4))] : List T_api_Record) hS tl_37 (by decide) (by decide) (by kernel_rfl) (by kernel_rfl) rfl (by intro x hx; rfl) rfl) ?_
   rintro _ h_12 ⟨b_4, rfl, hS, hk⟩
   replace hK := hK.trans hk
   replace hN_l := hN_l.kp hk
   replace hL_l := hL_l.kp hk
   replace hN_7 := hN_7.kp hk
   replace hN_8 := hN_8.kp hk
   replace hL_4 := hL_4.kp hk
   have hN_15 : NfL nf_api_Record F_8 h_12 ([((gi l n_1).1, ((gi l n_1).2.1), (vr_2, r_4))] : List T_api_Record) := (NfL.cons (nfm_api_Record ((gi l n_1).1, ((gi l n_1).2.1), (vr_2, r_4)) hL_4) (NfL.nil _ _ _))
   refine HA.one (k := 7) ⟨(hS.box 3 rfl), (at_now (hS.own 1 rfl) (Go.Wk.at_nil _ _))⟩ (by kernel_rfl) ?_
   obtain ⟨ho_11, hM⟩ := hM
   refine HS.eff rfl (want_none) rfl (st_append te_37 hS (i := 2) rfl (hS.own 0 rfl).slice rfl rfl rfl (fun a_ ha_ => nfo_api_Record (hN_15.is.all a_ ha_)) ho_11 (by omega)) ?_
   rintro v_5 h_13 ⟨hS, hk⟩
   replace hK := hK.trans hk
   replace hN_l := hN_l.kp hk
   replace hL_l := hL_l.kp hk
   replace hN_7 := hN_7.kp hk
   replace hN_8 := hN_8.kp hk
   replace hN_15 := hN_15.kp hk
   have hN_16 : NfL nf_api_Record F_8 h_13 (hot_2 ++ ([((gi l n_1).1, ((gi l n_1).2.1), (vr_2, r_4))] : List T_api_Record)) := NfL.app hN_7 hN_15
   refine Go.Wk.HA.valN (k := 8) (v := elemPtr 26 vout_2 ((out_2.length : Int) - 1).toNat) 0 10 (fun h => (OwnIs h 0 39 26 e_api_Talk vout_2 out_2)) rfl rfl (by kernel_rfl) (by kernel_rfl) (want_none) rfl rfl (by kernel_rfl) (fun _ c309 c307 => q_nilElem c307.slice rfl ho_9) ?_
   refine Go.Wk.HA.valN (k := 9) (v := fieldPtr 26 vout_2 ((out_2.length : Int) - 1).toNat 25) 0 10 (fun h => (OwnIs h 0 39 26 e_api_Talk vout_2 out_2)) rfl rfl (by kernel_rfl) (by kernel_rfl) (want_none) rfl rfl (by kernel_rfl) (fun _ c309 c307 => q_fldElem fa_39_9 c307.slice rfl ho_9) ?_
   refine HA.one (k := 10) ⟨(hS.box 3 rfl), (at_now (hS.own 1 rfl) (Go.Wk.at_nil _ _))⟩ (by kernel_rfl) ?_
   replace hM := hM v_5
   obtain ⟨ho_12, hM⟩ := hM
   refine HS.sto rfl (want_none) rfl (st_storeField (a := ((gi out_2 ((out_2.length : Int) - 1)).1, (gi out_2 ((out_2.length : Int) - 1)).2.1, (gi out_2 ((out_2.length : Int) - 1)).2.2.1, (gi out_2 ((out_2.length : Int) - 1)).2.2.2.1, (((gi out_2 ((out_2.length : Int) - 1)).2.2.2.2.1).1, (((gi out_2 ((out_2.length : Int) - 1)).2.2.2.2.1).2)), (gi out_2 ((out_2.length : Int) - 1)).2.2.2.2.2.1, (gi out_2 ((out_2.length : Int) - 1)).2.2.2.2.2.2.1, (gi out_2 ((out_2.length : Int) - 1)).2.2.2.2.2.2.2.1, ((gi out_2 ((out_2.length : Int) - 1)).2.2.2.2.2.2.2.2.1), (v_5, hot_2 ++ ([((gi l n_1).1, ((gi l n_1).2.1), (vr_2, r_4))] : List T_api_Record)))) (n := ((out_2.length : Int) - 1).toNat) (j := 25) hS (i := 1) rfl to_37 rfl (by omega) (by decide) rfl (by rw [← gi_lt ho_9.1 ho_9.2]; rfl) (shp (hS.own 2 rfl).slice).cells (shp (hS.own 2 rfl).slice).one) ?_
   rintro h_14 ⟨hS, hk⟩
   have hN_17 : NfL nf_api_Talk F_8 h_13 (hotL hz_api_Talk (out_2.set ((out_2.length : Int) - 1).toNat ((gi out_2 ((out_2.length : Int) - 1)).1, (gi out_2 ((out_2.length : Int) - 1)).2.1, (gi out_2 ((out_2.length : Int) - 1)).2.2.1, (gi out_2 ((out_2.length : Int) - 1)).2.2.2.1, (((gi out_2 ((out_2.length : Int) - 1)).2.2.2.2.1).1, (((gi out_2 ((out_2.length : Int) - 1)).2.2.2.2.1).2)), (gi out_2 ((out_2.length : Int) - 1)).2.2.2.2.2.1, (gi out_2 ((out_2.length : Int) - 1)).2.2.2.2.2.2.1, (gi out_2 ((out_2.length : Int) - 1)).2.2.2.2.2.2.2.1, ((gi out_2 ((out_2.length : Int) - 1)).2.2.2.2.2.2.2.2.1), (v_5, hot_2 ++ ([((gi l n_1).1, ((gi l n_1).2.1), (vr_2, r_4))] : List T_api_Record))))) := NfL.hotSet hN_8 ho_12 rfl
   replace hK := hK.trans hk
   replace hN_l := hN_l.kp hk
   replace hL_l := hL_l.kp hk
   replace hN_16 := hN_16.kp hk
   replace hN_17 := hN_17.kp hk
   refine HA.nil ⟨(hS.box 3 rfl), (at_done (by kernel_rfl) (Go.Wk.at_nil _ _))⟩ (by kernel_rfl) (blockQ_normal (thenQ_normal (?_)))
   refine HW.region ?_
   obtain ⟨ho_13, hM⟩ := hM
   refine oV (.int .i64 (n_1 + 1)) (q_addN _ rfl rfl rfl ho_13.1 ho_13.2) rfl ?_
   refine oM (.int .i64 (n_1 + 1)) rfl rfl ?_
   refine HO.nil (thenQ_normal (?_))
   replace hS : St F_8 (Ow.own 39 26 e_api_Talk vout_2 (out_2.set ((out_2.length : Int) - 1).toNat ((gi out_2 ((out_2.length : Int) - 1)).1, (gi out_2 ((out_2.length : Int) - 1)).2.1, (gi out_2 ((out_2.length : Int) - 1)).2.2.1, (gi out_2 ((out_2.length : Int) - 1)).2.2.2.1, (((gi out_2 ((out_2.length : Int) - 1)).2.2.2.2.1).1, (((gi out_2 ((out_2.length : Int) - 1)).2.2.2.2.1).2)), (gi out_2 ((out_2.length : Int) - 1)).2.2.2.2.2.1, (gi out_2 ((out_2.length : Int) - 1)).2.2.2.2.2.2.1, (gi out_2 ((out_2.length : Int) - 1)).2.2.2.2.2.2.2.1, ((gi out_2 ((out_2.length : Int) - 1)).2.2.2.2.2.2.2.2.1), (v_5, hot_2 ++ ([((gi l n_1).1, ((gi l n_1).2.1), (vr_2, r_4))] : List T_api_Record)))) :: Ow.own 60 19 e_api_Record v_5 (hot_2 ++ ([((gi l n_1).1, ((gi l n_1).2.1), (vr_2, r_4))] : List T_api_Record)) :: fr) h_14 := hS.perm2 [1, 2] 4 rfl rfl
   rw [hKe_1] at hM
   exact ⟨(out_2.set ((out_2.length : Int) - 1).toNat ((gi out_2 ((out_2.length : Int) - 1)).1, (gi out_2 ((out_2.length : Int) - 1)).2.1, (gi out_2 ((out_2.length : Int) - 1)).2.2.1, (gi out_2 ((out_2.length : Int) - 1)).2.2.2.1, (((gi out_2 ((out_2.length : Int) - 1)).2.2.2.2.1).1, (((gi out_2 ((out_2.length : Int) - 1)).2.2.2.2.1).2)), (gi out_2 ((out_2.length : Int) - 1)).2.2.2.2.2.1, (gi out_2 ((out_2.length : Int) - 1)).2.2.2.2.2.2.1, (gi out_2 ((out_2.length : Int) - 1)).2.2.2.2.2.2.2.1, ((gi out_2 ((out_2.length : Int) - 1)).2.2.2.2.2.2.2.2.1), (v_5, hot_2 ++ ([((gi l n_1).1, ((gi l n_1).2.1), (vr_2, r_4))] : List T_api_Record))), v_5, hot_2 ++ ([((gi l n_1).1, ((gi l n_1).2.1), (vr_2, r_4))] : List T_api_Record), room_2 - r_2, n_1 + 1), ⟨F_8, vout_2, rfl, rfl, rfl, rfl, rfl, rfl, rfl, hK, hS, hN_l, hL_l, hN_16, hN_17, hM.1⟩, hM.2⟩
 ·
  replace hM := hM.2 (of_decide_eq_false c_1)
  refine HW.exit (thenQ_exit (thenQ_exit (blockQ_exit (thenQ_normal (?_)))))
  refine HW.seq ?_
  refine HW.region ?_
  refine oM (vout_1) rfl rfl ?_
  refine oA (vout_1) rfl rfl ?_
  refine HO.nil (thenQ_normal (?_))
  refine HW.ret (?_)
  obtain ⟨ho_14, hM⟩ := hM
  replace hS : St F_1 (Ow.own 60 19 e_api_Record v_1 hot_1 :: Ow.own 39 26 e_api_Talk vout_1 out_1 :: fr) h_1 := hS.perm2 [1, 0] 2 rfl rfl
  obtain ⟨F_9, hS, hk, hL_5⟩ := hS.freezeOwn
  replace hK := hK.trans hk
  replace hN_l := hN_l.kp hk
  replace hL_l := hL_l.kp hk
  replace hN_2 := hN_2.kp hk
  replace hN_3 := hN_3.kp hk
  have hN_18 : NfL nf_api_Talk F_9 h_1 out_1 := NfL.unhot (z := hz_api_Talk) (fun x hx hp => nfm_api_Talk x (nff_api_Talk_24 (x := hz_api_Talk x) hp) (by rw [ho_14 x hx]; exact hL_5) (by rw [ho_14 x hx]; exact hN_2)) hN_3
  refine ⟨.inr rfl, vout_1, res1 rfl (rt rfl), ?_⟩
  exact ⟨F_9, out_1, vout_1, rfl, hK, hS, hN_l, hL_l, hN_18, hM⟩
end Go.Wk
