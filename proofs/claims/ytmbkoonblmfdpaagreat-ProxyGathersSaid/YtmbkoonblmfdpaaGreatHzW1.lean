/- Walks of Host and Proxy. -/
import Derived.Test.YtmbkoonblmfdpaaGreatTxt
import Derived.Test.YtmbkoonblmfdpaaGreatNest
import Derived.Test.YtmbkoonblmfdpaaGreatTight
import Derived.Test.YtmbkoonblmfdpaaGreatKy
import Derived.Test.YtmbkoonblmfdpaaGreatNm
import Derived.Test.YtmbkoonblmfdpaaGreatLayHz
import Derived.Test.YtmbkoonblmfdpaaGreatProg
import Derived.Test.YtmbkoonblmfdpaaGreatGrw
import Derived.Test.YtmbkoonblmfdpaaGreatIfs
set_option linter.unusedSimpArgs false
set_option linter.unusedVariables false
set_option linter.unusedSectionVars false
set_option maxHeartbeats 40000000
set_option maxRecDepth 100000
namespace Go.Wk
open Go.HL
open Go.Proofs hiding encI
variable [DM]
abbrev T_api_Addr := Bool × Ba 16
abbrev T_api_Filter := Bool × (Value × List T_api_Addr)
abbrev T_api_Record := Int × T_api_Addr × (Value × List T_api_Addr)
abbrev T_api_Talk := Bool × Int × Int × Int × T_api_Addr × Bool × Int × Int × (Value × List T_api_Addr) × (Value × List T_api_Record)
abbrev T_api_Tune := Int × Int × Int × Int × Int
abbrev T_api_Want := T_api_Addr × T_api_Filter
abbrev T_s_api_Want := Value × List T_api_Want
abbrev T_acequialaw24_Ask := T_api_Addr × T_api_Addr
def e_api_Addr (x : T_api_Addr) : List Value := [.bool x.1, .int .u8 (b8 x.2 0), .int .u8 (b8 x.2 1), .int .u8 (b8 x.2 2), .int .u8 (b8 x.2 3), .int .u8 (b8 x.2 4), .int .u8 (b8 x.2 5), .int .u8 (b8 x.2 6), .int .u8 (b8 x.2 7), .int .u8 (b8 x.2 8), .int .u8 (b8 x.2 9), .int .u8 (b8 x.2 10), .int .u8 (b8 x.2 11), .int .u8 (b8 x.2 12), .int .u8 (b8 x.2 13), .int .u8 (b8 x.2 14), .int .u8 (b8 x.2 15)]
def e_api_Filter (x : T_api_Filter) : List Value := [.bool x.1, x.2.1]
def nf_api_Filter : Nf T_api_Filter := ((Nf.sl 17 e_api_Addr).on fun x : T_api_Filter => x.2)
def z_api_Filter : T_api_Filter := (false, (.slice none 0 0, []))
def e_api_Record (x : T_api_Record) : List Value := [.int .i64 x.1, .bool x.2.1.1, .int .u8 (b8 x.2.1.2 0), .int .u8 (b8 x.2.1.2 1), .int .u8 (b8 x.2.1.2 2), .int .u8 (b8 x.2.1.2 3), .int .u8 (b8 x.2.1.2 4), .int .u8 (b8 x.2.1.2 5), .int .u8 (b8 x.2.1.2 6), .int .u8 (b8 x.2.1.2 7), .int .u8 (b8 x.2.1.2 8), .int .u8 (b8 x.2.1.2 9), .int .u8 (b8 x.2.1.2 10), .int .u8 (b8 x.2.1.2 11), .int .u8 (b8 x.2.1.2 12), .int .u8 (b8 x.2.1.2 13), .int .u8 (b8 x.2.1.2 14), .int .u8 (b8 x.2.1.2 15), x.2.2.1]
def nf_api_Record : Nf T_api_Record := ((Nf.sl 17 e_api_Addr).on fun x : T_api_Record => x.2.2)
def c_api_Record (a0 : Value) (a1 : T_api_Addr) (a2 : Value) : List Value := [a0, .bool a1.1, .int .u8 (b8 a1.2 0), .int .u8 (b8 a1.2 1), .int .u8 (b8 a1.2 2), .int .u8 (b8 a1.2 3), .int .u8 (b8 a1.2 4), .int .u8 (b8 a1.2 5), .int .u8 (b8 a1.2 6), .int .u8 (b8 a1.2 7), .int .u8 (b8 a1.2 8), .int .u8 (b8 a1.2 9), .int .u8 (b8 a1.2 10), .int .u8 (b8 a1.2 11), .int .u8 (b8 a1.2 12), .int .u8 (b8 a1.2 13), .int .u8 (b8 a1.2 14), .int .u8 (b8 a1.2 15), a2]
def c_api_Talk (a0 : Value) (a1 : Value) (a2 : Value) (a3 : Value) (a4 : T_api_Addr) (a5 : Value) (a6 : Value) (a7 : Value) (a8 : Value) (a9 : Value) : List Value := [a0, a1, a2, a3, .bool a4.1, .int .u8 (b8 a4.2 0), .int .u8 (b8 a4.2 1), .int .u8 (b8 a4.2 2), .int .u8 (b8 a4.2 3), .int .u8 (b8 a4.2 4), .int .u8 (b8 a4.2 5), .int .u8 (b8 a4.2 6), .int .u8 (b8 a4.2 7), .int .u8 (b8 a4.2 8), .int .u8 (b8 a4.2 9), .int .u8 (b8 a4.2 10), .int .u8 (b8 a4.2 11), .int .u8 (b8 a4.2 12), .int .u8 (b8 a4.2 13), .int .u8 (b8 a4.2 14), .int .u8 (b8 a4.2 15), a5, a6, a7, a8, a9]
def e_api_Talk (x : T_api_Talk) : List Value := [.bool x.1, .int .i64 x.2.1, .int .i64 x.2.2.1, .int .i64 x.2.2.2.1, .bool x.2.2.2.2.1.1, .int .u8 (b8 x.2.2.2.2.1.2 0), .int .u8 (b8 x.2.2.2.2.1.2 1), .int .u8 (b8 x.2.2.2.2.1.2 2), .int .u8 (b8 x.2.2.2.2.1.2 3), .int .u8 (b8 x.2.2.2.2.1.2 4), .int .u8 (b8 x.2.2.2.2.1.2 5), .int .u8 (b8 x.2.2.2.2.1.2 6), .int .u8 (b8 x.2.2.2.2.1.2 7), .int .u8 (b8 x.2.2.2.2.1.2 8), .int .u8 (b8 x.2.2.2.2.1.2 9), .int .u8 (b8 x.2.2.2.2.1.2 10), .int .u8 (b8 x.2.2.2.2.1.2 11), .int .u8 (b8 x.2.2.2.2.1.2 12), .int .u8 (b8 x.2.2.2.2.1.2 13), .int .u8 (b8 x.2.2.2.2.1.2 14), .int .u8 (b8 x.2.2.2.2.1.2 15), .bool x.2.2.2.2.2.1, .int .i64 x.2.2.2.2.2.2.1, .int .i64 x.2.2.2.2.2.2.2.1, x.2.2.2.2.2.2.2.2.1.1, x.2.2.2.2.2.2.2.2.2.1]
def nf_api_Talk : Nf T_api_Talk := (((Nf.sl 17 e_api_Addr).on fun x : T_api_Talk => x.2.2.2.2.2.2.2.2.1).and (((Nf.sl 19 e_api_Record).on fun x : T_api_Talk => x.2.2.2.2.2.2.2.2.2).and ((Nf.all nf_api_Record).on fun x : T_api_Talk => x.2.2.2.2.2.2.2.2.2.2)))
def hz_api_Talk (x : T_api_Talk) : T_api_Talk := (x.1, x.2.1, x.2.2.1, x.2.2.2.1, x.2.2.2.2.1, x.2.2.2.2.2.1, x.2.2.2.2.2.2.1, x.2.2.2.2.2.2.2.1, x.2.2.2.2.2.2.2.2.1, (.slice none 0 0, []))
def e_api_Tune (x : T_api_Tune) : List Value := [.int .i64 x.1, .int .i64 x.2.1, .int .i64 x.2.2.1, .int .i64 x.2.2.2.1, .int .i64 x.2.2.2.2]
def e_api_Want (x : T_api_Want) : List Value := [.bool x.1.1, .int .u8 (b8 x.1.2 0), .int .u8 (b8 x.1.2 1), .int .u8 (b8 x.1.2 2), .int .u8 (b8 x.1.2 3), .int .u8 (b8 x.1.2 4), .int .u8 (b8 x.1.2 5), .int .u8 (b8 x.1.2 6), .int .u8 (b8 x.1.2 7), .int .u8 (b8 x.1.2 8), .int .u8 (b8 x.1.2 9), .int .u8 (b8 x.1.2 10), .int .u8 (b8 x.1.2 11), .int .u8 (b8 x.1.2 12), .int .u8 (b8 x.1.2 13), .int .u8 (b8 x.1.2 14), .int .u8 (b8 x.1.2 15), .bool x.2.1, x.2.2.1]
def nf_api_Want : Nf T_api_Want := ((Nf.sl 17 e_api_Addr).on fun x : T_api_Want => x.2.2)
def e_s_api_Want (x : T_s_api_Want) : List Value := [x.1]
def nf_s_api_Want : Nf T_s_api_Want := Nf.and (Nf.sl 19 e_api_Want) ((Nf.all nf_api_Want).on fun x : T_s_api_Want => x.2)
def c_api_Want (a0 : T_api_Addr) (a1 : Value) (a2 : Value) : List Value := [.bool a0.1, .int .u8 (b8 a0.2 0), .int .u8 (b8 a0.2 1), .int .u8 (b8 a0.2 2), .int .u8 (b8 a0.2 3), .int .u8 (b8 a0.2 4), .int .u8 (b8 a0.2 5), .int .u8 (b8 a0.2 6), .int .u8 (b8 a0.2 7), .int .u8 (b8 a0.2 8), .int .u8 (b8 a0.2 9), .int .u8 (b8 a0.2 10), .int .u8 (b8 a0.2 11), .int .u8 (b8 a0.2 12), .int .u8 (b8 a0.2 13), .int .u8 (b8 a0.2 14), .int .u8 (b8 a0.2 15), a1, a2]
def e_acequialaw24_Ask (x : T_acequialaw24_Ask) : List Value := [.bool x.1.1, .int .u8 (b8 x.1.2 0), .int .u8 (b8 x.1.2 1), .int .u8 (b8 x.1.2 2), .int .u8 (b8 x.1.2 3), .int .u8 (b8 x.1.2 4), .int .u8 (b8 x.1.2 5), .int .u8 (b8 x.1.2 6), .int .u8 (b8 x.1.2 7), .int .u8 (b8 x.1.2 8), .int .u8 (b8 x.1.2 9), .int .u8 (b8 x.1.2 10), .int .u8 (b8 x.1.2 11), .int .u8 (b8 x.1.2 12), .int .u8 (b8 x.1.2 13), .int .u8 (b8 x.1.2 14), .int .u8 (b8 x.1.2 15), .bool x.2.1, .int .u8 (b8 x.2.2 0), .int .u8 (b8 x.2.2 1), .int .u8 (b8 x.2.2 2), .int .u8 (b8 x.2.2 3), .int .u8 (b8 x.2.2 4), .int .u8 (b8 x.2.2 5), .int .u8 (b8 x.2.2 6), .int .u8 (b8 x.2.2 7), .int .u8 (b8 x.2.2 8), .int .u8 (b8 x.2.2 9), .int .u8 (b8 x.2.2 10), .int .u8 (b8 x.2.2 11), .int .u8 (b8 x.2.2 12), .int .u8 (b8 x.2.2 13), .int .u8 (b8 x.2.2 14), .int .u8 (b8 x.2.2 15)]
theorem one_e_api_Addr (x : T_api_Addr) : ∀ v ∈ e_api_Addr x, v.oneCell' = true := by intro v hv; simp [e_api_Addr] at hv; rcases hv with rfl | rfl | rfl | rfl | rfl | rfl | rfl | rfl | rfl | rfl | rfl | rfl | rfl | rfl | rfl | rfl | rfl <;> rfl
theorem nfm_api_Filter {F : Fz} {h : Heap} (x : T_api_Filter) (s0 : SliceF F h 17 e_api_Addr x.2.1 x.2.2) : (nf_api_Filter).p F h x := s0
theorem nff_api_Filter_1 {F : Fz} {h : Heap} {x : T_api_Filter} (s : (nf_api_Filter).p F h x) : SliceF F h 17 e_api_Addr x.2.1 x.2.2 := s
theorem nfi_api_Filter_1 {h : Heap} {x : T_api_Filter} (s : (nf_api_Filter).q h x) : SliceIs h 17 e_api_Addr x.2.1 x.2.2 := s
theorem nfo_api_Filter {h : Heap} {x : T_api_Filter} (s : (nf_api_Filter).q h x) : ∀ u ∈ e_api_Filter x, u.oneCell' = true := by
  intro u hu; simp [e_api_Filter] at hu; rcases hu with rfl | rfl
  · rfl
  · exact (shp (nfi_api_Filter_1 s)).one
theorem tz_28 : TZero Tryz.prog 28 (.agg #[.bool false, .int .u8 0, .int .u8 0, .int .u8 0, .int .u8 0, .int .u8 0, .int .u8 0, .int .u8 0, .int .u8 0, .int .u8 0, .int .u8 0, .int .u8 0, .int .u8 0, .int .u8 0, .int .u8 0, .int .u8 0, .int .u8 0]) := Tryz.zeroValue28
theorem ts_29 : TSlice Tryz.prog 29 28 17 := ⟨Tryz.underlying29, Tryz.sizeOf28⟩
theorem tl_29 : TLit Tryz.prog 29 28 17 #[.bool false, .int .u8 0, .int .u8 0, .int .u8 0, .int .u8 0, .int .u8 0, .int .u8 0, .int .u8 0, .int .u8 0, .int .u8 0, .int .u8 0, .int .u8 0, .int .u8 0, .int .u8 0, .int .u8 0, .int .u8 0, .int .u8 0] := tlit ts_29 tz_28 rfl
theorem ta_28 : TAgg Tryz.prog 28 17 := ⟨Tryz.isAgg28, Tryz.sizeOf28⟩
theorem te_29 : TElem Tryz.prog 29 28 17 17 := ⟨Tryz.underlying29, ⟨Tryz.t28, .agg #[.bool false, .int .u8 0, .int .u8 0, .int .u8 0, .int .u8 0, .int .u8 0, .int .u8 0, .int .u8 0, .int .u8 0, .int .u8 0, .int .u8 0, .int .u8 0, .int .u8 0, .int .u8 0, .int .u8 0, .int .u8 0, .int .u8 0], by kernel_rfl, by kernel_rfl, by kernel_rfl, by kernel_rfl, by kernel_rfl⟩, by decide⟩
theorem nfm_api_Record {F : Fz} {h : Heap} (x : T_api_Record) (s0 : SliceF F h 17 e_api_Addr x.2.2.1 x.2.2.2) : (nf_api_Record).p F h x := s0
theorem nff_api_Record_18 {F : Fz} {h : Heap} {x : T_api_Record} (s : (nf_api_Record).p F h x) : SliceF F h 17 e_api_Addr x.2.2.1 x.2.2.2 := s
theorem nfi_api_Record_18 {h : Heap} {x : T_api_Record} (s : (nf_api_Record).q h x) : SliceIs h 17 e_api_Addr x.2.2.1 x.2.2.2 := s
theorem nfo_api_Record {h : Heap} {x : T_api_Record} (s : (nf_api_Record).q h x) : ∀ u ∈ e_api_Record x, u.oneCell' = true := by
  intro u hu; simp [e_api_Record] at hu; rcases hu with rfl | rfl | rfl | rfl | rfl | rfl | rfl | rfl | rfl | rfl | rfl | rfl | rfl | rfl | rfl | rfl | rfl | rfl | rfl
  · rfl
  · rfl
  · rfl
  · rfl
  · rfl
  · rfl
  · rfl
  · rfl
  · rfl
  · rfl
  · rfl
  · rfl
  · rfl
  · rfl
  · rfl
  · rfl
  · rfl
  · rfl
  · exact (shp (nfi_api_Record_18 s)).one
theorem tz_89 : TZero Tryz.prog 89 (.agg #[.int .i64 0, .bool false, .int .u8 0, .int .u8 0, .int .u8 0, .int .u8 0, .int .u8 0, .int .u8 0, .int .u8 0, .int .u8 0, .int .u8 0, .int .u8 0, .int .u8 0, .int .u8 0, .int .u8 0, .int .u8 0, .int .u8 0, .int .u8 0, .slice none 0 0]) := Tryz.zeroValue89
theorem ts_22 : TSlice Tryz.prog 22 89 19 := ⟨Tryz.underlying22, Tryz.sizeOf89⟩
theorem tl_22 : TLit Tryz.prog 22 89 19 #[.int .i64 0, .bool false, .int .u8 0, .int .u8 0, .int .u8 0, .int .u8 0, .int .u8 0, .int .u8 0, .int .u8 0, .int .u8 0, .int .u8 0, .int .u8 0, .int .u8 0, .int .u8 0, .int .u8 0, .int .u8 0, .int .u8 0, .int .u8 0, .slice none 0 0] := tlit ts_22 tz_89 rfl
theorem fa_89_0 : FieldAt Tryz.prog 89 0 0 := fun a w => by kernel_rfl
theorem to_3 : TOne Tryz.prog 3 := ⟨Tryz.isAgg3, Tryz.sizeOf3⟩
theorem fa_89_1 : FieldAt Tryz.prog 89 1 1 := fun a w => by kernel_rfl
theorem fa_89_2 : FieldAt Tryz.prog 89 2 18 := fun a w => by kernel_rfl
theorem to_29 : TOne Tryz.prog 29 := ⟨Tryz.isAgg29, Tryz.sizeOf29⟩
theorem en_38 (args : Array Value) (w : World) : (callFunc 38 args).run Tryz.prog w = .ok (.enter 38 args) w := by kernel_rfl
theorem tp_89 : TPlaces Tryz.prog 89 #[(0, 1), (1, 17), (18, 1)] #[.int .i64 0, .bool false, .int .u8 0, .int .u8 0, .int .u8 0, .int .u8 0, .int .u8 0, .int .u8 0, .int .u8 0, .int .u8 0, .int .u8 0, .int .u8 0, .int .u8 0, .int .u8 0, .int .u8 0, .int .u8 0, .int .u8 0, .int .u8 0, .slice none 0 0] := tplaces Tryz.runUnderlying89 Tryz.zeroValue89 rfl (fun w => by kernel_rfl)
theorem te_22 : TElem Tryz.prog 22 89 19 56 := ⟨Tryz.underlying22, ⟨Tryz.t89, .agg #[.int .i64 0, .bool false, .int .u8 0, .int .u8 0, .int .u8 0, .int .u8 0, .int .u8 0, .int .u8 0, .int .u8 0, .int .u8 0, .int .u8 0, .int .u8 0, .int .u8 0, .int .u8 0, .int .u8 0, .int .u8 0, .int .u8 0, .int .u8 0, .slice none 0 0], by kernel_rfl, by kernel_rfl, by kernel_rfl, by kernel_rfl, by kernel_rfl⟩, by decide⟩
theorem mixed : Tryz.prog.follows .mixedOrders = true := by kernel_rfl
theorem fa_28_0 : FieldAt Tryz.prog 28 0 0 := fun a w => by kernel_rfl
theorem to_4 : TOne Tryz.prog 4 := ⟨Tryz.isAgg4, Tryz.sizeOf4⟩
theorem fa_28_1 : FieldAt Tryz.prog 28 1 1 := fun a w => by kernel_rfl
theorem to_5 : TOne Tryz.prog 5 := ⟨Tryz.isAgg5, Tryz.sizeOf5⟩
theorem tr_26 : TArr Tryz.prog 26 16 5 := ⟨Tryz.underlying26, to_5, Tryz.underlying5, ⟨Tryz.t5, by kernel_rfl⟩, by kernel_rfl⟩
theorem fa_31_1 : FieldAt Tryz.prog 31 1 1 := fun a w => by kernel_rfl
theorem fa_31_2 : FieldAt Tryz.prog 31 2 2 := fun a w => by kernel_rfl
theorem fa_31_8 : FieldAt Tryz.prog 31 8 24 := fun a w => by kernel_rfl
theorem fa_31_9 : FieldAt Tryz.prog 31 9 25 := fun a w => by kernel_rfl
theorem to_22 : TOne Tryz.prog 22 := ⟨Tryz.isAgg22, Tryz.sizeOf22⟩
theorem ta_89 : TAgg Tryz.prog 89 19 := ⟨Tryz.isAgg89, Tryz.sizeOf89⟩
theorem en_66 (args : Array Value) (w : World) : (callFunc 66 args).run Tryz.prog w = .ok (.enter 66 args) w := by kernel_rfl
theorem tp_28 : TPlaces Tryz.prog 28 #[(0, 1), (1, 16)] #[.bool false, .int .u8 0, .int .u8 0, .int .u8 0, .int .u8 0, .int .u8 0, .int .u8 0, .int .u8 0, .int .u8 0, .int .u8 0, .int .u8 0, .int .u8 0, .int .u8 0, .int .u8 0, .int .u8 0, .int .u8 0, .int .u8 0] := tplaces Tryz.runUnderlying28 Tryz.zeroValue28 rfl (fun w => by kernel_rfl)
theorem teq_26 (d : Nat) (a b : Ba 16) (w : World) : (Op.equalIn (d + 2) 26 (.agg (arrCells a).toArray) (.agg (arrCells b).toArray)).run Tryz.prog w = .ok (decide (a = b)) w := teqArr tr_26 d a b w
theorem teq_28 (d : Nat) (a b : T_api_Addr) (w : World) : (Op.equalIn (d + 3) 28 (.agg (e_api_Addr a).toArray) (.agg (e_api_Addr b).toArray)).run Tryz.prog w = .ok (decide (a = b)) w := by
  refine (eqs w (d + 2) 28 _ _ Tryz.underlying28 (by kernel_rfl) (eqf_cons w (a := .bool a.1) (b := .bool b.1) (by decide) (by kernel_rfl) (by kernel_rfl) (run_equalIn_bool' w _ _ _ _ Tryz.underlying4) (eqf_cons w (a := .agg (arrCells a.2).toArray) (b := .agg (arrCells b.2).toArray) (by decide) (by kernel_rfl) (by kernel_rfl) (teq_26 (d + 0) _ _ w) (eqf_nil w)))).trans ?_
  congr 1; rw [Bool.eq_iff_iff]; simp [Prod.ext_iff]
theorem ta_31 : TAgg Tryz.prog 31 26 := ⟨Tryz.isAgg31, Tryz.sizeOf31⟩
theorem tp_97 : TPlaces Tryz.prog 97 #[(0, 1), (1, 1), (2, 1), (3, 1), (4, 1)] #[.bool false, .int .i64 0, .map none, .int .i64 0, .int .i64 0] := tplaces Tryz.runUnderlying97 Tryz.zeroValue97 rfl (fun w => by kernel_rfl)
theorem tz_26 : TZero Tryz.prog 26 (.agg #[.int .u8 0, .int .u8 0, .int .u8 0, .int .u8 0, .int .u8 0, .int .u8 0, .int .u8 0, .int .u8 0, .int .u8 0, .int .u8 0, .int .u8 0, .int .u8 0, .int .u8 0, .int .u8 0, .int .u8 0, .int .u8 0]) := Tryz.zeroValue26
theorem tb_26 : TBuildA Tryz.prog 26 #[.int .u8 0, .int .u8 0, .int .u8 0, .int .u8 0, .int .u8 0, .int .u8 0, .int .u8 0, .int .u8 0, .int .u8 0, .int .u8 0, .int .u8 0, .int .u8 0, .int .u8 0, .int .u8 0, .int .u8 0, .int .u8 0] := tbuildA tr_26 tz_26 rfl
theorem fa_97_1 : FieldAt Tryz.prog 97 1 1 := fun a w => by kernel_rfl
theorem en_101 (args : Array Value) (w : World) : (callFunc 101 args).run Tryz.prog w = .ok (.enter 101 args) w := by kernel_rfl
theorem en_102 (args : Array Value) (w : World) : (callFunc 102 args).run Tryz.prog w = .ok (.enter 102 args) w := by kernel_rfl
theorem en_166 (args : Array Value) (w : World) : (callFunc 166 args).run Tryz.prog w = .ok (.enter 166 args) w := by kernel_rfl
theorem ts_184 : TSlice Tryz.prog 184 5 1 := ⟨Tryz.underlying184, Tryz.sizeOf5⟩
theorem en_156 (args : Array Value) (w : World) : (callFunc 156 args).run Tryz.prog w = .ok (.enter 156 args) w := by kernel_rfl
theorem tz_5 : TZero Tryz.prog 5 (.int .u8 0) := Tryz.zeroValue5
theorem tl_184 : TLit Tryz.prog 184 5 1 #[.int .u8 0] := tlit ts_184 tz_5 rfl
theorem en_138 (args : Array Value) (w : World) : (callFunc 138 args).run Tryz.prog w = .ok (.enter 138 args) w := by kernel_rfl
theorem en_103 (args : Array Value) (w : World) : (callFunc 103 args).run Tryz.prog w = .ok (.enter 103 args) w := by kernel_rfl
theorem to_42 : TOne Tryz.prog 42 := ⟨Tryz.isAgg42, Tryz.sizeOf42⟩
theorem fa_97_0 : FieldAt Tryz.prog 97 0 0 := fun a w => by kernel_rfl
theorem en_139 (args : Array Value) (w : World) : (callFunc 139 args).run Tryz.prog w = .ok (.enter 139 args) w := by kernel_rfl
theorem en_105 (args : Array Value) (w : World) : (callFunc 105 args).run Tryz.prog w = .ok (.enter 105 args) w := by kernel_rfl
theorem en_104 (args : Array Value) (w : World) : (callFunc 104 args).run Tryz.prog w = .ok (.enter 104 args) w := by kernel_rfl
theorem en_141 (args : Array Value) (w : World) : (callFunc 141 args).run Tryz.prog w = .ok (.enter 141 args) w := by kernel_rfl
theorem en_140 (args : Array Value) (w : World) : (callFunc 140 args).run Tryz.prog w = .ok (.enter 140 args) w := by kernel_rfl
theorem en_48 (args : Array Value) (w : World) : (callFunc 48 args).run Tryz.prog w = .ok (.enter 48 args) w := by kernel_rfl
theorem en_106 (args : Array Value) (w : World) : (callFunc 106 args).run Tryz.prog w = .ok (.enter 106 args) w := by kernel_rfl
theorem fa_50_0 : FieldAt Tryz.prog 50 0 0 := fun a w => by kernel_rfl
theorem fa_50_1 : FieldAt Tryz.prog 50 1 1 := fun a w => by kernel_rfl
theorem ta_50 : TAgg Tryz.prog 50 2 := ⟨Tryz.isAgg50, Tryz.sizeOf50⟩
theorem en_107 (args : Array Value) (w : World) : (callFunc 107 args).run Tryz.prog w = .ok (.enter 107 args) w := by kernel_rfl
theorem tz_50 : TZero Tryz.prog 50 (.agg #[.bool false, .slice none 0 0]) := Tryz.zeroValue50
theorem en_100 (args : Array Value) (w : World) : (callFunc 100 args).run Tryz.prog w = .ok (.enter 100 args) w := by kernel_rfl
theorem tp_50 : TPlaces Tryz.prog 50 #[(0, 1), (1, 1)] #[.bool false, .slice none 0 0] := tplaces Tryz.runUnderlying50 Tryz.zeroValue50 rfl (fun w => by kernel_rfl)
theorem en_114 (args : Array Value) (w : World) : (callFunc 114 args).run Tryz.prog w = .ok (.enter 114 args) w := by kernel_rfl
theorem fa_97_3 : FieldAt Tryz.prog 97 3 3 := fun a w => by kernel_rfl
theorem fa_97_4 : FieldAt Tryz.prog 97 4 4 := fun a w => by kernel_rfl
theorem en_113 (args : Array Value) (w : World) : (callFunc 113 args).run Tryz.prog w = .ok (.enter 113 args) w := by kernel_rfl
theorem tz_29 : TZero Tryz.prog 29 (.slice none 0 0) := Tryz.zeroValue29
theorem en_178 (args : Array Value) (w : World) : (callFunc 178 args).run Tryz.prog w = .ok (.enter 178 args) w := by kernel_rfl
theorem en_165 (args : Array Value) (w : World) : (callFunc 165 args).run Tryz.prog w = .ok (.enter 165 args) w := by kernel_rfl
theorem en_158 (args : Array Value) (w : World) : (callFunc 158 args).run Tryz.prog w = .ok (.enter 158 args) w := by kernel_rfl
theorem en_142 (args : Array Value) (w : World) : (callFunc 142 args).run Tryz.prog w = .ok (.enter 142 args) w := by kernel_rfl
theorem nfn_api_Talk_25 {F : Fz} {h : Heap} {x : T_api_Talk} (s : (nf_api_Talk).p F h x) : NfL nf_api_Record F h x.2.2.2.2.2.2.2.2.2.2 := (show _ ∧ _ from s).2.2
theorem nfm_api_Talk {F : Fz} {h : Heap} (x : T_api_Talk) (s0 : SliceF F h 17 e_api_Addr x.2.2.2.2.2.2.2.2.1.1 x.2.2.2.2.2.2.2.2.1.2) (s1 : SliceF F h 19 e_api_Record x.2.2.2.2.2.2.2.2.2.1 x.2.2.2.2.2.2.2.2.2.2) (s2 : NfL nf_api_Record F h x.2.2.2.2.2.2.2.2.2.2) : (nf_api_Talk).p F h x := ⟨s0, s1, s2⟩
theorem nff_api_Talk_24 {F : Fz} {h : Heap} {x : T_api_Talk} (s : (nf_api_Talk).p F h x) : SliceF F h 17 e_api_Addr x.2.2.2.2.2.2.2.2.1.1 x.2.2.2.2.2.2.2.2.1.2 := (show _ ∧ _ from s).1
theorem nfi_api_Talk_24 {h : Heap} {x : T_api_Talk} (s : (nf_api_Talk).q h x) : SliceIs h 17 e_api_Addr x.2.2.2.2.2.2.2.2.1.1 x.2.2.2.2.2.2.2.2.1.2 := (show _ ∧ _ from s).1
theorem nff_api_Talk_25 {F : Fz} {h : Heap} {x : T_api_Talk} (s : (nf_api_Talk).p F h x) : SliceF F h 19 e_api_Record x.2.2.2.2.2.2.2.2.2.1 x.2.2.2.2.2.2.2.2.2.2 := (show _ ∧ _ from s).2.1
theorem nfi_api_Talk_25 {h : Heap} {x : T_api_Talk} (s : (nf_api_Talk).q h x) : SliceIs h 19 e_api_Record x.2.2.2.2.2.2.2.2.2.1 x.2.2.2.2.2.2.2.2.2.2 := (show _ ∧ _ from s).2.1
theorem nfo_api_Talk {h : Heap} {x : T_api_Talk} (s : (nf_api_Talk).q h x) : ∀ u ∈ e_api_Talk x, u.oneCell' = true := by
  intro u hu; simp [e_api_Talk] at hu; rcases hu with rfl | rfl | rfl | rfl | rfl | rfl | rfl | rfl | rfl | rfl | rfl | rfl | rfl | rfl | rfl | rfl | rfl | rfl | rfl | rfl | rfl | rfl | rfl | rfl | rfl | rfl
  · rfl
  · rfl
  · rfl
  · rfl
  · rfl
  · rfl
  · rfl
  · rfl
  · rfl
  · rfl
  · rfl
  · rfl
  · rfl
  · rfl
  · rfl
  · rfl
  · rfl
  · rfl
  · rfl
  · rfl
  · rfl
  · rfl
  · rfl
  · rfl
  · exact (shp (nfi_api_Talk_24 s)).one
  · exact (shp (nfi_api_Talk_25 s)).one
theorem en_99 (args : Array Value) (w : World) : (callFunc 99 args).run Tryz.prog w = .ok (.enter 99 args) w := by kernel_rfl
theorem ts_33 : TSlice Tryz.prog 33 31 26 := ⟨Tryz.underlying33, Tryz.sizeOf31⟩
theorem en_61 (args : Array Value) (w : World) : (callFunc 61 args).run Tryz.prog w = .ok (.enter 61 args) w := by kernel_rfl
theorem tp_31 : TPlaces Tryz.prog 31 #[(0, 1), (1, 1), (2, 1), (3, 1), (4, 17), (21, 1), (22, 1), (23, 1), (24, 1), (25, 1)] #[.bool false, .int .i64 0, .int .i64 0, .int .i64 0, .bool false, .int .u8 0, .int .u8 0, .int .u8 0, .int .u8 0, .int .u8 0, .int .u8 0, .int .u8 0, .int .u8 0, .int .u8 0, .int .u8 0, .int .u8 0, .int .u8 0, .int .u8 0, .int .u8 0, .int .u8 0, .int .u8 0, .bool false, .int .i64 0, .int .i64 0, .slice none 0 0, .slice none 0 0] := tplaces Tryz.runUnderlying31 Tryz.zeroValue31 rfl (fun w => by kernel_rfl)
theorem tz_31 : TZero Tryz.prog 31 (.agg #[.bool false, .int .i64 0, .int .i64 0, .int .i64 0, .bool false, .int .u8 0, .int .u8 0, .int .u8 0, .int .u8 0, .int .u8 0, .int .u8 0, .int .u8 0, .int .u8 0, .int .u8 0, .int .u8 0, .int .u8 0, .int .u8 0, .int .u8 0, .int .u8 0, .int .u8 0, .int .u8 0, .bool false, .int .i64 0, .int .i64 0, .slice none 0 0, .slice none 0 0]) := Tryz.zeroValue31
theorem tl_33 : TLit Tryz.prog 33 31 26 #[.bool false, .int .i64 0, .int .i64 0, .int .i64 0, .bool false, .int .u8 0, .int .u8 0, .int .u8 0, .int .u8 0, .int .u8 0, .int .u8 0, .int .u8 0, .int .u8 0, .int .u8 0, .int .u8 0, .int .u8 0, .int .u8 0, .int .u8 0, .int .u8 0, .int .u8 0, .int .u8 0, .bool false, .int .i64 0, .int .i64 0, .slice none 0 0, .slice none 0 0] := tlit ts_33 tz_31 rfl
theorem te_33 : TElem Tryz.prog 33 31 26 120 := ⟨Tryz.underlying33, ⟨Tryz.t31, .agg #[.bool false, .int .i64 0, .int .i64 0, .int .i64 0, .bool false, .int .u8 0, .int .u8 0, .int .u8 0, .int .u8 0, .int .u8 0, .int .u8 0, .int .u8 0, .int .u8 0, .int .u8 0, .int .u8 0, .int .u8 0, .int .u8 0, .int .u8 0, .int .u8 0, .int .u8 0, .int .u8 0, .bool false, .int .i64 0, .int .i64 0, .slice none 0 0, .slice none 0 0], by kernel_rfl, by kernel_rfl, by kernel_rfl, by kernel_rfl, by kernel_rfl⟩, by decide⟩
theorem en_60 (args : Array Value) (w : World) : (callFunc 60 args).run Tryz.prog w = .ok (.enter 60 args) w := by kernel_rfl
theorem en_108 (args : Array Value) (w : World) : (callFunc 108 args).run Tryz.prog w = .ok (.enter 108 args) w := by kernel_rfl
theorem en_42 (args : Array Value) (w : World) : (callFunc 42 args).run Tryz.prog w = .ok (.enter 42 args) w := by kernel_rfl
theorem en_53 (args : Array Value) (w : World) : (callFunc 53 args).run Tryz.prog w = .ok (.enter 53 args) w := by kernel_rfl
theorem en_62 (args : Array Value) (w : World) : (callFunc 62 args).run Tryz.prog w = .ok (.enter 62 args) w := by kernel_rfl
theorem en_47 (args : Array Value) (w : World) : (callFunc 47 args).run Tryz.prog w = .ok (.enter 47 args) w := by kernel_rfl
theorem en_49 (args : Array Value) (w : World) : (callFunc 49 args).run Tryz.prog w = .ok (.enter 49 args) w := by kernel_rfl
theorem en_50 (args : Array Value) (w : World) : (callFunc 50 args).run Tryz.prog w = .ok (.enter 50 args) w := by kernel_rfl
theorem en_51 (args : Array Value) (w : World) : (callFunc 51 args).run Tryz.prog w = .ok (.enter 51 args) w := by kernel_rfl
theorem en_52 (args : Array Value) (w : World) : (callFunc 52 args).run Tryz.prog w = .ok (.enter 52 args) w := by kernel_rfl
theorem fa_97_2 : FieldAt Tryz.prog 97 2 2 := fun a w => by kernel_rfl
theorem to_95 : TOne Tryz.prog 95 := ⟨Tryz.isAgg95, Tryz.sizeOf95⟩
theorem tmk_95 : TMapK Tryz.prog 95 28 50 (.agg #[.bool false, .slice none 0 0]) := ⟨Tryz.underlying95, tz_50⟩
theorem ka_28 : KeyAt Tryz.prog 28 (fun x : T_api_Addr => .agg (e_api_Addr x).toArray) := keyAt_struct Tryz.underlying28 (fun a => ⟨_, rfl⟩) (fun a b w => teq_28 9997 a b w) (fun e a w => by kernel_rfl) (fun a => sameBits_agg 9999 [.bool a.1, .int .u8 (b8 a.2 0), .int .u8 (b8 a.2 1), .int .u8 (b8 a.2 2), .int .u8 (b8 a.2 3), .int .u8 (b8 a.2 4), .int .u8 (b8 a.2 5), .int .u8 (b8 a.2 6), .int .u8 (b8 a.2 7), .int .u8 (b8 a.2 8), .int .u8 (b8 a.2 9), .int .u8 (b8 a.2 10), .int .u8 (b8 a.2 11), .int .u8 (b8 a.2 12), .int .u8 (b8 a.2 13), .int .u8 (b8 a.2 14), .int .u8 (b8 a.2 15)] (by intro c hc; simp at hc; rcases hc with rfl | rfl | rfl | rfl | rfl | rfl | rfl | rfl | rfl | rfl | rfl | rfl | rfl | rfl | rfl | rfl | rfl <;> first | exact sameBits_int _ _ _ | exact sameBits_bool _ _ | exact sameBits_str _ _))
theorem en_54 (args : Array Value) (w : World) : (callFunc 54 args).run Tryz.prog w = .ok (.enter 54 args) w := by kernel_rfl
theorem en_55 (args : Array Value) (w : World) : (callFunc 55 args).run Tryz.prog w = .ok (.enter 55 args) w := by kernel_rfl
theorem tz_56 : TZero Tryz.prog 56 (.agg #[.int .i64 0, .int .i64 0, .int .i64 0, .int .i64 0, .int .i64 0]) := Tryz.zeroValue56
theorem tp_56 : TPlaces Tryz.prog 56 #[(0, 1), (1, 1), (2, 1), (3, 1), (4, 1)] #[.int .i64 0, .int .i64 0, .int .i64 0, .int .i64 0, .int .i64 0] := tplaces Tryz.runUnderlying56 Tryz.zeroValue56 rfl (fun w => by kernel_rfl)
theorem ta_56 : TAgg Tryz.prog 56 5 := ⟨Tryz.isAgg56, Tryz.sizeOf56⟩
theorem one_e_api_Tune (x : T_api_Tune) : ∀ v ∈ e_api_Tune x, v.oneCell' = true := by intro v hv; simp [e_api_Tune] at hv; rcases hv with rfl | rfl | rfl | rfl | rfl <;> rfl
theorem en_146 (args : Array Value) (w : World) : (callFunc 146 args).run Tryz.prog w = .ok (.enter 146 args) w := by kernel_rfl
theorem apk_159_146 {F : Fz} {os : List Ow} {h : Heap} {b r : Nat} {ν : Type} {en : ν → Value} {m : List (T_api_Addr × ν)} (hS : St F os h) (hB : Blk h b (.cells #[.map (some r)] 95 (0, 0))) (hM : MapIs h r (fun x => .agg (e_api_Addr x).toArray) en m) (hN : m.length * 17 ≤ 140737488355328) :
    HC Tryz.prog 159 #[.slice none 0 0, .func (.func 146) #[] #[.pointer (some ⟨b, 0, none⟩)]] h fun u h' => ∃ xs : List T_api_Addr, xs.Perm (m.map Prod.fst) ∧ St F (Ow.own 28 17 e_api_Addr u xs :: os) h' ∧ Kp F h F h' :=
  appendK_hc (enc := e_api_Addr) Tryz.func159 rfl rfl rfl Tryz.func146 rfl rfl rfl en_146 te_29 Tryz.underlying95 ta_28 to_29 to_95 tz_28 rfl tl_29 (by decide) (fun _ => rfl) (by intro a u hu; simp [e_api_Addr, encI, encN, encB, encT] at hu; rcases hu with rfl | rfl | rfl | rfl | rfl | rfl | rfl | rfl | rfl | rfl | rfl | rfl | rfl | rfl | rfl | rfl | rfl <;> rfl) hS hB hM hN (by omega)
theorem en_159 (args : Array Value) (w : World) : (callFunc 159 args).run Tryz.prog w = .ok (.enter 159 args) w := by kernel_rfl
theorem en_154 (args : Array Value) (w : World) : (callFunc 154 args).run Tryz.prog w = .ok (.enter 154 args) w := by kernel_rfl
theorem to_165 : TOne Tryz.prog 165 := ⟨Tryz.isAgg165, Tryz.sizeOf165⟩
theorem apk_159_154 {F : Fz} {os : List Ow} {h : Heap} {b r : Nat} {ν : Type} {en : ν → Value} {m : List (T_api_Addr × ν)} (hS : St F os h) (hB : Blk h b (.cells #[.map (some r)] 165 (0, 0))) (hM : MapIs h r (fun x => .agg (e_api_Addr x).toArray) en m) (hN : m.length * 17 ≤ 140737488355328) :
    HC Tryz.prog 159 #[.slice none 0 0, .func (.func 154) #[] #[.pointer (some ⟨b, 0, none⟩)]] h fun u h' => ∃ xs : List T_api_Addr, xs.Perm (m.map Prod.fst) ∧ St F (Ow.own 28 17 e_api_Addr u xs :: os) h' ∧ Kp F h F h' :=
  appendK_hc (enc := e_api_Addr) Tryz.func159 rfl rfl rfl Tryz.func154 rfl rfl rfl en_154 te_29 Tryz.underlying165 ta_28 to_29 to_165 tz_28 rfl tl_29 (by decide) (fun _ => rfl) (by intro a u hu; simp [e_api_Addr, encI, encN, encB, encT] at hu; rcases hu with rfl | rfl | rfl | rfl | rfl | rfl | rfl | rfl | rfl | rfl | rfl | rfl | rfl | rfl | rfl | rfl | rfl <;> rfl) hS hB hM hN (by omega)
theorem en_144 (args : Array Value) (w : World) : (callFunc 144 args).run Tryz.prog w = .ok (.enter 144 args) w := by kernel_rfl
theorem en_145 (args : Array Value) (w : World) : (callFunc 145 args).run Tryz.prog w = .ok (.enter 145 args) w := by kernel_rfl
theorem en_112 (args : Array Value) (w : World) : (callFunc 112 args).run Tryz.prog w = .ok (.enter 112 args) w := by kernel_rfl
theorem en_111 (args : Array Value) (w : World) : (callFunc 111 args).run Tryz.prog w = .ok (.enter 111 args) w := by kernel_rfl
theorem en_148 (args : Array Value) (w : World) : (callFunc 148 args).run Tryz.prog w = .ok (.enter 148 args) w := by kernel_rfl
theorem en_58 (args : Array Value) (w : World) : (callFunc 58 args).run Tryz.prog w = .ok (.enter 58 args) w := by kernel_rfl
theorem en_15 (args : Array Value) (w : World) : (callFunc 15 args).run Tryz.prog w = .ok (.enter 15 args) w := by kernel_rfl
theorem en_17 (args : Array Value) (w : World) : (callFunc 17 args).run Tryz.prog w = .ok (.enter 17 args) w := by kernel_rfl
theorem en_20 (args : Array Value) (w : World) : (callFunc 20 args).run Tryz.prog w = .ok (.enter 20 args) w := by kernel_rfl
theorem en_7 (args : Array Value) (w : World) : (callFunc 7 args).run Tryz.prog w = .ok (.enter 7 args) w := by kernel_rfl
theorem en_11 (args : Array Value) (w : World) : (callFunc 11 args).run Tryz.prog w = .ok (.enter 11 args) w := by kernel_rfl
theorem en_75 (args : Array Value) (w : World) : (callFunc 75 args).run Tryz.prog w = .ok (.enter 75 args) w := by kernel_rfl
theorem en_80 (args : Array Value) (w : World) : (callFunc 80 args).run Tryz.prog w = .ok (.enter 80 args) w := by kernel_rfl
theorem en_143 (args : Array Value) (w : World) : (callFunc 143 args).run Tryz.prog w = .ok (.enter 143 args) w := by kernel_rfl
theorem en_109 (args : Array Value) (w : World) : (callFunc 109 args).run Tryz.prog w = .ok (.enter 109 args) w := by kernel_rfl
theorem en_56 (args : Array Value) (w : World) : (callFunc 56 args).run Tryz.prog w = .ok (.enter 56 args) w := by kernel_rfl
theorem nfm_api_Want {F : Fz} {h : Heap} (x : T_api_Want) (s0 : SliceF F h 17 e_api_Addr x.2.2.1 x.2.2.2) : (nf_api_Want).p F h x := s0
theorem nff_api_Want_18 {F : Fz} {h : Heap} {x : T_api_Want} (s : (nf_api_Want).p F h x) : SliceF F h 17 e_api_Addr x.2.2.1 x.2.2.2 := s
theorem nfi_api_Want_18 {h : Heap} {x : T_api_Want} (s : (nf_api_Want).q h x) : SliceIs h 17 e_api_Addr x.2.2.1 x.2.2.2 := s
theorem nfo_api_Want {h : Heap} {x : T_api_Want} (s : (nf_api_Want).q h x) : ∀ u ∈ e_api_Want x, u.oneCell' = true := by
  intro u hu; simp [e_api_Want] at hu; rcases hu with rfl | rfl | rfl | rfl | rfl | rfl | rfl | rfl | rfl | rfl | rfl | rfl | rfl | rfl | rfl | rfl | rfl | rfl | rfl
  · rfl
  · rfl
  · rfl
  · rfl
  · rfl
  · rfl
  · rfl
  · rfl
  · rfl
  · rfl
  · rfl
  · rfl
  · rfl
  · rfl
  · rfl
  · rfl
  · rfl
  · rfl
  · exact (shp (nfi_api_Want_18 s)).one
theorem tz_77 : TZero Tryz.prog 77 (.agg #[.bool false, .int .u8 0, .int .u8 0, .int .u8 0, .int .u8 0, .int .u8 0, .int .u8 0, .int .u8 0, .int .u8 0, .int .u8 0, .int .u8 0, .int .u8 0, .int .u8 0, .int .u8 0, .int .u8 0, .int .u8 0, .int .u8 0, .bool false, .slice none 0 0]) := Tryz.zeroValue77
theorem ts_71 : TSlice Tryz.prog 71 77 19 := ⟨Tryz.underlying71, Tryz.sizeOf77⟩
theorem tl_71 : TLit Tryz.prog 71 77 19 #[.bool false, .int .u8 0, .int .u8 0, .int .u8 0, .int .u8 0, .int .u8 0, .int .u8 0, .int .u8 0, .int .u8 0, .int .u8 0, .int .u8 0, .int .u8 0, .int .u8 0, .int .u8 0, .int .u8 0, .int .u8 0, .int .u8 0, .bool false, .slice none 0 0] := tlit ts_71 tz_77 rfl
theorem fa_77_0 : FieldAt Tryz.prog 77 0 0 := fun a w => by kernel_rfl
theorem fa_77_1 : FieldAt Tryz.prog 77 1 17 := fun a w => by kernel_rfl
theorem en_18 (args : Array Value) (w : World) : (callFunc 18 args).run Tryz.prog w = .ok (.enter 18 args) w := by kernel_rfl
theorem tp_77 : TPlaces Tryz.prog 77 #[(0, 17), (17, 2)] #[.bool false, .int .u8 0, .int .u8 0, .int .u8 0, .int .u8 0, .int .u8 0, .int .u8 0, .int .u8 0, .int .u8 0, .int .u8 0, .int .u8 0, .int .u8 0, .int .u8 0, .int .u8 0, .int .u8 0, .int .u8 0, .int .u8 0, .bool false, .slice none 0 0] := tplaces Tryz.runUnderlying77 Tryz.zeroValue77 rfl (fun w => by kernel_rfl)
theorem te_71 : TElem Tryz.prog 71 77 19 56 := ⟨Tryz.underlying71, ⟨Tryz.t77, .agg #[.bool false, .int .u8 0, .int .u8 0, .int .u8 0, .int .u8 0, .int .u8 0, .int .u8 0, .int .u8 0, .int .u8 0, .int .u8 0, .int .u8 0, .int .u8 0, .int .u8 0, .int .u8 0, .int .u8 0, .int .u8 0, .int .u8 0, .bool false, .slice none 0 0], by kernel_rfl, by kernel_rfl, by kernel_rfl, by kernel_rfl, by kernel_rfl⟩, by decide⟩
theorem nfm_s_api_Want {F : Fz} {h : Heap} (x : T_s_api_Want) (s : SliceF F h 19 e_api_Want x.1 x.2) (t : NfL nf_api_Want F h x.2) : (nf_s_api_Want).p F h x := ⟨s, t⟩
theorem nfi_s_api_Want_0 {h : Heap} {x : T_s_api_Want} (s : (nf_s_api_Want).q h x) : SliceIs h 19 e_api_Want x.1 x.2 := (show _ ∧ _ from s).1
theorem nfn_s_api_Want_0 {F : Fz} {h : Heap} {x : T_s_api_Want} (s : (nf_s_api_Want).p F h x) : NfL nf_api_Want F h x.2 := (show _ ∧ _ from s).2
theorem nfj_s_api_Want_0 {h : Heap} {x : T_s_api_Want} (s : (nf_s_api_Want).q h x) : NfI nf_api_Want h x.2 := (show _ ∧ _ from s).2
theorem ts_129 : TSlice Tryz.prog 129 71 1 := ⟨Tryz.underlying129, Tryz.sizeOf71⟩
theorem to_71 : TOne Tryz.prog 71 := ⟨Tryz.isAgg71, Tryz.sizeOf71⟩
theorem en_153 (args : Array Value) (w : World) : (callFunc 153 args).run Tryz.prog w = .ok (.enter 153 args) w := by kernel_rfl
theorem ts_133 : TSlice Tryz.prog 133 50 2 := ⟨Tryz.underlying133, Tryz.sizeOf50⟩
theorem en_155 (args : Array Value) (w : World) : (callFunc 155 args).run Tryz.prog w = .ok (.enter 155 args) w := by kernel_rfl
theorem en_129 (args : Array Value) (w : World) : (callFunc 129 args).run Tryz.prog w = .ok (.enter 129 args) w := by kernel_rfl
theorem ta_77 : TAgg Tryz.prog 77 19 := ⟨Tryz.isAgg77, Tryz.sizeOf77⟩
theorem tl_133 : TLit Tryz.prog 133 50 2 #[.bool false, .slice none 0 0] := tlit ts_133 tz_50 rfl
theorem tz_133 : TZero Tryz.prog 133 (.slice none 0 0) := Tryz.zeroValue133
theorem tmk_165 : TMapK Tryz.prog 165 28 133 (.slice none 0 0) := ⟨Tryz.underlying165, tz_133⟩
theorem te_133 : TElem Tryz.prog 133 50 2 32 := ⟨Tryz.underlying133, ⟨Tryz.t50, .agg #[.bool false, .slice none 0 0], by kernel_rfl, by kernel_rfl, by kernel_rfl, by kernel_rfl, by kernel_rfl⟩, by decide⟩
theorem en_130 (args : Array Value) (w : World) : (callFunc 130 args).run Tryz.prog w = .ok (.enter 130 args) w := by kernel_rfl
theorem en_131 (args : Array Value) (w : World) : (callFunc 131 args).run Tryz.prog w = .ok (.enter 131 args) w := by kernel_rfl
theorem en_135 (args : Array Value) (w : World) : (callFunc 135 args).run Tryz.prog w = .ok (.enter 135 args) w := by kernel_rfl
theorem en_86 (args : Array Value) (w : World) : (callFunc 86 args).run Tryz.prog w = .ok (.enter 86 args) w := by kernel_rfl
theorem en_85 (args : Array Value) (w : World) : (callFunc 85 args).run Tryz.prog w = .ok (.enter 85 args) w := by kernel_rfl
theorem fa_141_0 : FieldAt Tryz.prog 141 0 0 := fun a w => by kernel_rfl
theorem tz_71 : TZero Tryz.prog 71 (.slice none 0 0) := Tryz.zeroValue71
theorem tl_129 : TLit Tryz.prog 129 71 1 #[.slice none 0 0] := tlit ts_129 tz_71 rfl
theorem en_76 (args : Array Value) (w : World) : (callFunc 76 args).run Tryz.prog w = .ok (.enter 76 args) w := by kernel_rfl
theorem fa_141_1 : FieldAt Tryz.prog 141 1 1 := fun a w => by kernel_rfl
theorem en_26 (args : Array Value) (w : World) : (callFunc 26 args).run Tryz.prog w = .ok (.enter 26 args) w := by kernel_rfl
theorem en_84 (args : Array Value) (w : World) : (callFunc 84 args).run Tryz.prog w = .ok (.enter 84 args) w := by kernel_rfl
theorem fa_141_2 : FieldAt Tryz.prog 141 2 2 := fun a w => by kernel_rfl
theorem en_87 (args : Array Value) (w : World) : (callFunc 87 args).run Tryz.prog w = .ok (.enter 87 args) w := by kernel_rfl
theorem en_25 (args : Array Value) (w : World) : (callFunc 25 args).run Tryz.prog w = .ok (.enter 25 args) w := by kernel_rfl
theorem tp_141 : TPlaces Tryz.prog 141 #[(0, 1), (1, 1), (2, 1)] #[.bool false, .pointer none, .int .i64 0] := tplaces Tryz.runUnderlying141 Tryz.zeroValue141 rfl (fun w => by kernel_rfl)
theorem en_134 (args : Array Value) (w : World) : (callFunc 134 args).run Tryz.prog w = .ok (.enter 134 args) w := by kernel_rfl
theorem en_82 (args : Array Value) (w : World) : (callFunc 82 args).run Tryz.prog w = .ok (.enter 82 args) w := by kernel_rfl
theorem en_83 (args : Array Value) (w : World) : (callFunc 83 args).run Tryz.prog w = .ok (.enter 83 args) w := by kernel_rfl
theorem en_33 (args : Array Value) (w : World) : (callFunc 33 args).run Tryz.prog w = .ok (.enter 33 args) w := by kernel_rfl
theorem en_36 (args : Array Value) (w : World) : (callFunc 36 args).run Tryz.prog w = .ok (.enter 36 args) w := by kernel_rfl
theorem en_27 (args : Array Value) (w : World) : (callFunc 27 args).run Tryz.prog w = .ok (.enter 27 args) w := by kernel_rfl
theorem en_35 (args : Array Value) (w : World) : (callFunc 35 args).run Tryz.prog w = .ok (.enter 35 args) w := by kernel_rfl
theorem en_34 (args : Array Value) (w : World) : (callFunc 34 args).run Tryz.prog w = .ok (.enter 34 args) w := by kernel_rfl
theorem en_37 (args : Array Value) (w : World) : (callFunc 37 args).run Tryz.prog w = .ok (.enter 37 args) w := by kernel_rfl
theorem en_32 (args : Array Value) (w : World) : (callFunc 32 args).run Tryz.prog w = .ok (.enter 32 args) w := by kernel_rfl
theorem en_133 (args : Array Value) (w : World) : (callFunc 133 args).run Tryz.prog w = .ok (.enter 133 args) w := by kernel_rfl
theorem en_24 (args : Array Value) (w : World) : (callFunc 24 args).run Tryz.prog w = .ok (.enter 24 args) w := by kernel_rfl
theorem en_78 (args : Array Value) (w : World) : (callFunc 78 args).run Tryz.prog w = .ok (.enter 78 args) w := by kernel_rfl
theorem en_79 (args : Array Value) (w : World) : (callFunc 79 args).run Tryz.prog w = .ok (.enter 79 args) w := by kernel_rfl
theorem en_81 (args : Array Value) (w : World) : (callFunc 81 args).run Tryz.prog w = .ok (.enter 81 args) w := by kernel_rfl
theorem en_132 (args : Array Value) (w : World) : (callFunc 132 args).run Tryz.prog w = .ok (.enter 132 args) w := by kernel_rfl
theorem en_77 (args : Array Value) (w : World) : (callFunc 77 args).run Tryz.prog w = .ok (.enter 77 args) w := by kernel_rfl
theorem en_28 (args : Array Value) (w : World) : (callFunc 28 args).run Tryz.prog w = .ok (.enter 28 args) w := by kernel_rfl
theorem en_29 (args : Array Value) (w : World) : (callFunc 29 args).run Tryz.prog w = .ok (.enter 29 args) w := by kernel_rfl
theorem fa_73_0 : FieldAt Tryz.prog 73 0 0 := fun a w => by kernel_rfl
theorem fa_73_1 : FieldAt Tryz.prog 73 1 17 := fun a w => by kernel_rfl
theorem en_31 (args : Array Value) (w : World) : (callFunc 31 args).run Tryz.prog w = .ok (.enter 31 args) w := by kernel_rfl
theorem en_30 (args : Array Value) (w : World) : (callFunc 30 args).run Tryz.prog w = .ok (.enter 30 args) w := by kernel_rfl
def law08_Addrs_j1 (l : List T_api_Addr) (Q : (List T_api_Addr) → Prop) (out_1 : List T_api_Addr) (i_1 : Int) (K_1 : (List T_api_Addr) → Int → Prop) (b_2 : Bool) : Prop :=
 (b_2 = true → ((0 : Int) ≤ i_1 ∧ i_1 < (l.length : Int)) ∧ (((out_1.length + ([(gi l i_1)] : List T_api_Addr).length) * 17 ≤ 140737488355328) ∧ ((I64 (i_1 + 1)) ∧ (K_1 (out_1 ++ ([(gi l i_1)] : List T_api_Addr)) (i_1 + 1))))) ∧ (b_2 = false → Q out_1)
def law08_Addrs_l1 (l : List T_api_Addr) (most : Int) (Q : (List T_api_Addr) → Prop) (K_1 : (List T_api_Addr) → Int → Prop) (out_1 : List T_api_Addr) (i_1 : Int) : Prop :=
 (i_1 < (l.length : Int) → law08_Addrs_j1 l Q out_1 i_1 K_1 (decide (i_1 < most))) ∧ (¬ (i_1 < (l.length : Int)) → law08_Addrs_j1 l Q out_1 i_1 K_1 false)
def law08_Addrs_W (l : List T_api_Addr) (most : Int) (Q : (List T_api_Addr) → Prop) : Prop :=
 loopW (fun (K_1 : (List T_api_Addr × Int) → Prop) (s : List T_api_Addr × Int) => law08_Addrs_l1 l most Q (fun out_1 i_1 => K_1 (out_1, i_1)) s.1 s.2) ([], 0)
theorem law08_Addrs_walk {F : Fz} {fr : List Ow} {h0 : Heap} (l : List T_api_Addr) (most : Int) (vl : Value) (hS : St F (fr) h0) (hL_l : SliceF F h0 17 e_api_Addr vl l) {Q : (List T_api_Addr) → Prop} (hM : law08_Addrs_W l most Q) :
  HC Tryz.prog 38 #[vl, .int .i64 most] h0 fun u h' => ∃ (F' : Fz) (r_1 : List T_api_Addr) (vr_1 : Value), u = vr_1 ∧ Kp F h0 F' h' ∧ St F' (Ow.own 28 17 e_api_Addr vr_1 r_1 :: fr) h' ∧ (SliceF F' h' 17 e_api_Addr vl l) ∧ Q r_1 := by
 unfold law08_Addrs_W at hM
 have hK := Kp.refl F h0
 refine HC.of_HW (n := 27) Tryz.func38 rfl rfl (Nat.le_of_ble_eq_true rfl) ?_
 refine HW.seq ?_
 refine HW.region ?_
 refine oA (.slice none 0 0) rfl rfl ?_
 refine HO.nil (thenQ_normal (?_))
 refine HW.seq ?_
 refine HW.region ?_
 refine HO.eff (want_none) rfl (st_litEmpty (α := T_api_Addr) e_api_Addr hS tl_29) ?_
 rintro _ h_1 ⟨b_1, rfl, hS, hk⟩
 replace hK := hK.trans hk
 replace hL_l := hL_l.kp hk
 refine oA (.slice (some ⟨b_1, 0, none⟩) 0 0) rfl rfl ?_
 refine HO.nil (thenQ_normal (?_))
 refine HW.seq ?_
 refine HW.seq ?_
 refine HW.region ?_
 refine oA (.int .i64 0) rfl rfl ?_
 refine HO.nil (thenQ_normal (?_))
 refine HW.block ?_
 obtain ⟨I_1, m_1, hI_1, hR_1⟩ := hM
 refine HW.loop (S := List T_api_Addr × Int) (fun s f h => match s with | (out_1, i_1) => ∃ (F' : Fz) (vout_1 : Value), f 0 = vl ∧ f 1 = .int .i64 most ∧ f 4 = .slice none 0 0 ∧ f 5 = vout_1 ∧ f 6 = .int .i64 i_1 ∧ Kp F h0 F' h ∧ St F' (Ow.own 28 17 e_api_Addr vout_1 out_1 :: fr) h ∧ (SliceF F' h 17 e_api_Addr vl l) ∧ I_1 (out_1, i_1)) m_1 ([], 0) ⟨F, .slice (some ⟨b_1, 0, none⟩) 0 0, rfl, rfl, rfl, rfl, rfl, hK, hS, hL_l, hI_1⟩ ?_
 rintro ⟨out_1, i_1⟩ f_1 h_2 ⟨F_1, vout_1, e0, e1, e4, e5, e6, hK, hS, hL_l, hI0⟩
 obtain ⟨K_1, hKe_1⟩ : ∃ K : (List T_api_Addr) → Int → Prop, K = fun out_1' i_1' => I_1 (out_1', i_1') ∧ m_1 (out_1', i_1') < m_1 (out_1, i_1) := ⟨_, rfl⟩
 have hM : law08_Addrs_l1 l most Q K_1 out_1 i_1 := by rw [hKe_1]; exact hR_1 (out_1, i_1) hI0
 unfold law08_Addrs_l1 at hM
 refine HW.fr [(0, vl), (1, .int .i64 most), (4, .slice none 0 0), (5, vout_1), (6, .int .i64 i_1)] ⟨e0, e1, e4, e5, e6, trivial⟩ ?_
 refine HW.seq ?_
 refine HW.seq_mid (fun f h => ∃ (F' : Fz) (b_2 : Bool), f 0 = vl ∧ f 1 = .int .i64 most ∧ f 4 = .slice none 0 0 ∧ f 5 = vout_1 ∧ f 6 = .int .i64 i_1 ∧ f 16 = .bool b_2 ∧ Kp F h0 F' h ∧ St F' (Ow.own 28 17 e_api_Addr vout_1 out_1 :: fr) h ∧ (SliceF F' h 17 e_api_Addr vl l) ∧ law08_Addrs_j1 l Q out_1 i_1 K_1 b_2) ?_ ?_
 ·
  refine HW.region ?_
  refine oM (.int .i64 i_1) rfl rfl ?_
  refine oM (vl) rfl rfl ?_
  refine oV (.int .i64 (l.length : Int)) (q_len ts_29 (shp hL_l.is) rfl rfl) rfl ?_
  refine oV (.bool (decide (i_1 < (l.length : Int)))) (q_lss rfl rfl) rfl ?_
  refine oM (.bool (decide (i_1 < (l.length : Int)))) rfl rfl ?_
  rcases Bool.eq_false_or_eq_true (decide (i_1 < (l.length : Int))) with c_1 | c_1
  ·
   replace hM := hM.1 (of_decide_eq_true c_1)
   refine HO.val (v := .int .i64 i_1) (want_by rfl rfl c_1) rfl (q_move rfl) ?_
   refine HO.val (v := .int .i64 most) (want_by rfl rfl c_1) rfl (q_move rfl) ?_
   refine HO.val (v := .bool (decide (i_1 < most))) (want_by rfl rfl c_1) rfl (q_lss rfl rfl) ?_
   refine oV (.bool (decide (i_1 < most))) (q_pickK true rfl c_1 rfl) rfl ?_
   refine HO.nil (thenQ_normal (?_))
   exact ⟨F_1, decide (i_1 < most), rfl, rfl, rfl, rfl, rfl, rfl, hK, hS, hL_l, hM⟩
  ·
   replace hM := hM.2 (of_decide_eq_false c_1)
   refine HO.past (past_by rfl rfl c_1) rfl ?_
   refine HO.past (past_by rfl rfl c_1) rfl ?_
   refine HO.past (past_by rfl rfl c_1) rfl ?_
   refine oV (.bool false) (q_pickK false rfl c_1 rfl) rfl ?_
   refine HO.nil (thenQ_normal (?_))
   exact ⟨F_1, false, rfl, rfl, rfl, rfl, rfl, rfl, hK, hS, hL_l, hM⟩
 ·
  rintro f_2 h_3 ⟨F_2, b_2, e0, e1, e4, e5, e6, e16, hK, hS, hL_l, hM⟩
  unfold law08_Addrs_j1 at hM
  refine HW.fr [(0, vl), (1, .int .i64 most), (4, .slice none 0 0), (5, vout_1), (6, .int .i64 i_1), (16, .bool b_2)] ⟨e0, e1, e4, e5, e6, e16, trivial⟩ ?_
  refine HW.cond b_2 rfl (fun c_2 => ?_) (fun c_2 => ?_)
  ·
   replace hM := hM.1 c_2
   refine HW.skip (thenQ_normal (?_))
   refine HW.seq ?_
   refine HW.block ?_
   refine HW.region ?_
   refine oM (vout_1) rfl rfl ?_
   refine oM (vl) rfl rfl ?_
   refine oM (.int .i64 i_1) rfl rfl ?_
   obtain ⟨ho_1, hM⟩ := hM
   refine oV (elemPtr 17 vl (i_1).toNat) (q_idx ts_29 hL_l.is rfl rfl ho_1) rfl ?_
   refine oV (.agg (e_api_Addr (gi l i_1)).toArray) (q_ldElemAgg (cs := (e_api_Addr (gi l i_1))) ta_28 hL_l.is rfl ho_1 rfl) rfl ?_
   refine HO.eff (want_none) rfl (st_lit (enc := e_api_Addr) (cells := #[.bool ((gi l i_1).1), .int .u8 (b8 ((gi l i_1).2) 0), .int .u8 (b8 ((gi l i_1).2) 1), .int .u8 (b8 ((gi l i_1).2) 2), .int .u8 (b8 ((gi l i_1).2) 3), .int .u8 (b8 ((gi l i_1).2) 4), .int .u8 (b8 ((gi l i_1).2) 5), .int .u8 (b8 ((gi l i_1).2) 6), .int .u8 (b8 ((gi l i_1).2) 7), .int .u8 (b8 ((gi l i_1).2) 8), .int .u8 (b8 ((gi l i_1).2) 9), .int .u8 (b8 ((gi l i_1).2) 10), .int .u8 (b8 ((gi l i_1).2) 11), .int .u8 (b8 ((gi l i_1).2) 12), .int .u8 (b8 ((gi l i_1).2) 13), .int .u8 (b8 ((gi l i_1).2) 14), .int .u8 (b8 ((gi l i_1).2) 15)]) #[.bool false, .int .u8 0, .int .u8 0, .int .u8 0, .int .u8 0, .int .u8 0, .int .u8 0, .int .u8 0, .int .u8 0, .int .u8 0, .int .u8 0, .int .u8 0, .int .u8 0, .int .u8 0, .int .u8 0, .int .u8 0, .int .u8 0] ([(gi l i_1)] : List T_api_Addr) hS tl_29 (by decide) (by decide) (by kernel_rfl) (by kernel_rfl) rfl (by intro x hx; rfl) rfl) ?_
   rintro _ h_4 ⟨b_3, rfl, hS, hk⟩
   replace hK := hK.trans hk
   replace hL_l := hL_l.kp hk
   obtain ⟨ho_2, hM⟩ := hM
   refine HO.eff (want_none) rfl (st_append te_29 hS (i := 1) rfl (hS.own 0 rfl).slice rfl rfl rfl (by intro a _ u hu; simp [e_api_Addr, encI, encN, encB, encT] at hu; rcases hu with rfl | rfl | rfl | rfl | rfl | rfl | rfl | rfl | rfl | rfl | rfl | rfl | rfl | rfl | rfl | rfl | rfl <;> rfl) ho_2 (by omega)) ?_
   rintro v_1 h_5 ⟨hS, hk⟩
   replace hK := hK.trans hk
   replace hL_l := hL_l.kp hk
   refine oA (v_1) rfl rfl ?_
   refine HO.nil (blockQ_normal (thenQ_normal (?_)))
   refine HW.region ?_
   refine oM (.int .i64 i_1) rfl rfl ?_
   obtain ⟨ho_3, hM⟩ := hM
   refine oV (.int .i64 (i_1 + 1)) (q_addN _ rfl rfl rfl ho_3.1 ho_3.2) rfl ?_
   refine oA (.int .i64 (i_1 + 1)) rfl rfl ?_
   refine HO.nil (thenQ_normal (?_))
   replace hS : St F_2 (Ow.own 28 17 e_api_Addr v_1 (out_1 ++ ([(gi l i_1)] : List T_api_Addr)) :: fr) h_5 := hS.perm2 [1] 2 rfl rfl
   rw [hKe_1] at hM
   exact ⟨(out_1 ++ ([(gi l i_1)] : List T_api_Addr), i_1 + 1), ⟨F_2, v_1, rfl, rfl, rfl, rfl, rfl, hK, hS, hL_l, hM.1⟩, hM.2⟩
  ·
   replace hM := hM.2 c_2
   refine HW.exit (thenQ_exit (thenQ_exit (blockQ_exit (thenQ_normal (?_)))))
   refine HW.seq ?_
   refine HW.region ?_
   refine oM (vout_1) rfl rfl ?_
   refine oA (vout_1) rfl rfl ?_
   refine HO.nil (thenQ_normal (?_))
   refine HW.ret (?_)
   refine ⟨.inr rfl, vout_1, res1 rfl (rt rfl), ?_⟩
   exact ⟨F_2, out_1, vout_1, rfl, hK, hS, hL_l, hM⟩
def law08_Records_j1 (l : List T_api_Record) (Q : (List T_api_Record) → Prop) (out_1 : List T_api_Record) (i_1 : Int) (K_1 : (List T_api_Record) → Int → Prop) (b_2 : Bool) : Prop :=
 (b_2 = true → ((0 : Int) ≤ i_1 ∧ i_1 < (l.length : Int)) ∧ (law08_Addrs_W (((gi l i_1).2.2).2) 6 (fun r_2 => ∀ vr_2 : Value, (((out_1.length + ([((gi l i_1).1, ((gi l i_1).2.1), (vr_2, r_2))] : List T_api_Record).length) * 56 ≤ 140737488355328) ∧ ((I64 (i_1 + 1)) ∧ (K_1 (out_1 ++ ([((gi l i_1).1, ((gi l i_1).2.1), (vr_2, r_2))] : List T_api_Record)) (i_1 + 1))))))) ∧ (b_2 = false → Q out_1)
def law08_Records_l1 (l : List T_api_Record) (most : Int) (Q : (List T_api_Record) → Prop) (K_1 : (List T_api_Record) → Int → Prop) (out_1 : List T_api_Record) (i_1 : Int) : Prop :=
 (i_1 < (l.length : Int) → law08_Records_j1 l Q out_1 i_1 K_1 (decide (i_1 < most))) ∧ (¬ (i_1 < (l.length : Int)) → law08_Records_j1 l Q out_1 i_1 K_1 false)
def law08_Records_W (l : List T_api_Record) (most : Int) (Q : (List T_api_Record) → Prop) : Prop :=
 loopW (fun (K_1 : (List T_api_Record × Int) → Prop) (s : List T_api_Record × Int) => law08_Records_l1 l most Q (fun out_1 i_1 => K_1 (out_1, i_1)) s.1 s.2) ([], 0)
theorem law08_Records_walk {F : Fz} {fr : List Ow} {h0 : Heap} (l : List T_api_Record) (most : Int) (vl : Value) (hS : St F (fr) h0) (hN_l : NfL nf_api_Record F h0 l) (hL_l : SliceF F h0 19 e_api_Record vl l) {Q : (List T_api_Record) → Prop} (hM : law08_Records_W l most Q) :
  HC Tryz.prog 7 #[vl, .int .i64 most] h0 fun u h' => ∃ (F' : Fz) (r_1 : List T_api_Record) (vr_1 : Value), u = vr_1 ∧ Kp F h0 F' h' ∧ St F' (Ow.own 89 19 e_api_Record vr_1 r_1 :: fr) h' ∧ (NfL nf_api_Record F' h' l) ∧ (SliceF F' h' 19 e_api_Record vl l) ∧ (NfL nf_api_Record F' h' r_1) ∧ Q r_1 := by
 unfold law08_Records_W at hM
 have hK := Kp.refl F h0
 refine HC.of_HW (n := 40) Tryz.func7 rfl rfl (Nat.le_of_ble_eq_true rfl) ?_
 refine HW.seq ?_
 refine HW.region ?_
 refine oA (.slice none 0 0) rfl rfl ?_
 refine HO.nil (thenQ_normal (?_))
 refine HW.seq ?_
 refine HW.region ?_
 refine HO.eff (want_none) rfl (st_litEmpty (α := T_api_Record) e_api_Record hS tl_22) ?_
 rintro _ h_1 ⟨b_1, rfl, hS, hk⟩
 replace hK := hK.trans hk
 replace hN_l := hN_l.kp hk
 replace hL_l := hL_l.kp hk
 have hN_2 : NfL nf_api_Record F h_1 ([] : List T_api_Record) := NfL.nil _ _ _
 refine oA (.slice (some ⟨b_1, 0, none⟩) 0 0) rfl rfl ?_
 refine HO.nil (thenQ_normal (?_))
 refine HW.seq ?_
 refine HW.seq ?_
 refine HW.region ?_
 refine oA (.int .i64 0) rfl rfl ?_
 refine HO.nil (thenQ_normal (?_))
 refine HW.block ?_
 obtain ⟨I_1, m_1, hI_1, hR_1⟩ := hM
 refine HW.loop (S := List T_api_Record × Int) (fun s f h => match s with | (out_1, i_1) => ∃ (F' : Fz) (vout_1 : Value), f 0 = vl ∧ f 1 = .int .i64 most ∧ f 4 = .slice none 0 0 ∧ f 5 = vout_1 ∧ f 6 = .int .i64 i_1 ∧ Kp F h0 F' h ∧ St F' (Ow.own 89 19 e_api_Record vout_1 out_1 :: fr) h ∧ (NfL nf_api_Record F' h l) ∧ (SliceF F' h 19 e_api_Record vl l) ∧ (NfL nf_api_Record F' h ([] : List T_api_Record)) ∧ (NfL nf_api_Record F' h out_1) ∧ I_1 (out_1, i_1)) m_1 ([], 0) ⟨F, .slice (some ⟨b_1, 0, none⟩) 0 0, rfl, rfl, rfl, rfl, rfl, hK, hS, hN_l, hL_l, hN_2, hN_2, hI_1⟩ ?_
 rintro ⟨out_1, i_1⟩ f_1 h_2 ⟨F_1, vout_1, e0, e1, e4, e5, e6, hK, hS, hN_l, hL_l, hN_2, hN_3, hI0⟩
 obtain ⟨K_1, hKe_1⟩ : ∃ K : (List T_api_Record) → Int → Prop, K = fun out_1' i_1' => I_1 (out_1', i_1') ∧ m_1 (out_1', i_1') < m_1 (out_1, i_1) := ⟨_, rfl⟩
 have hM : law08_Records_l1 l most Q K_1 out_1 i_1 := by rw [hKe_1]; exact hR_1 (out_1, i_1) hI0
 unfold law08_Records_l1 at hM
 refine HW.fr [(0, vl), (1, .int .i64 most), (4, .slice none 0 0), (5, vout_1), (6, .int .i64 i_1)] ⟨e0, e1, e4, e5, e6, trivial⟩ ?_
 refine HW.seq ?_
 refine HW.seq_mid (fun f h => ∃ (F' : Fz) (b_2 : Bool), f 0 = vl ∧ f 1 = .int .i64 most ∧ f 4 = .slice none 0 0 ∧ f 5 = vout_1 ∧ f 6 = .int .i64 i_1 ∧ f 16 = .bool b_2 ∧ Kp F h0 F' h ∧ St F' (Ow.own 89 19 e_api_Record vout_1 out_1 :: fr) h ∧ (NfL nf_api_Record F' h l) ∧ (SliceF F' h 19 e_api_Record vl l) ∧ (NfL nf_api_Record F' h ([] : List T_api_Record)) ∧ (NfL nf_api_Record F' h out_1) ∧ law08_Records_j1 l Q out_1 i_1 K_1 b_2) ?_ ?_
 ·
  refine HW.region ?_
  refine oM (.int .i64 i_1) rfl rfl ?_
  refine oM (vl) rfl rfl ?_
  refine oV (.int .i64 (l.length : Int)) (q_len ts_22 (shp hL_l.is) rfl rfl) rfl ?_
  refine oV (.bool (decide (i_1 < (l.length : Int)))) (q_lss rfl rfl) rfl ?_
  refine oM (.bool (decide (i_1 < (l.length : Int)))) rfl rfl ?_
  rcases Bool.eq_false_or_eq_true (decide (i_1 < (l.length : Int))) with c_1 | c_1
  ·
   replace hM := hM.1 (of_decide_eq_true c_1)
   refine HO.val (v := .int .i64 i_1) (want_by rfl rfl c_1) rfl (q_move rfl) ?_
   refine HO.val (v := .int .i64 most) (want_by rfl rfl c_1) rfl (q_move rfl) ?_
   refine HO.val (v := .bool (decide (i_1 < most))) (want_by rfl rfl c_1) rfl (q_lss rfl rfl) ?_
   refine oV (.bool (decide (i_1 < most))) (q_pickK true rfl c_1 rfl) rfl ?_
   refine HO.nil (thenQ_normal (?_))
   exact ⟨F_1, decide (i_1 < most), rfl, rfl, rfl, rfl, rfl, rfl, hK, hS, hN_l, hL_l, hN_2, hN_3, hM⟩
  ·
   replace hM := hM.2 (of_decide_eq_false c_1)
   refine HO.past (past_by rfl rfl c_1) rfl ?_
   refine HO.past (past_by rfl rfl c_1) rfl ?_
   refine HO.past (past_by rfl rfl c_1) rfl ?_
   refine oV (.bool false) (q_pickK false rfl c_1 rfl) rfl ?_
   refine HO.nil (thenQ_normal (?_))
   exact ⟨F_1, false, rfl, rfl, rfl, rfl, rfl, rfl, hK, hS, hN_l, hL_l, hN_2, hN_3, hM⟩
 ·
  rintro f_2 h_3 ⟨F_2, b_2, e0, e1, e4, e5, e6, e16, hK, hS, hN_l, hL_l, hN_2, hN_3, hM⟩
  unfold law08_Records_j1 at hM
  refine HW.fr [(0, vl), (1, .int .i64 most), (4, .slice none 0 0), (5, vout_1), (6, .int .i64 i_1), (16, .bool b_2)] ⟨e0, e1, e4, e5, e6, e16, trivial⟩ ?_
  refine HW.cond b_2 rfl (fun c_2 => ?_) (fun c_2 => ?_)
  ·
   replace hM := hM.1 c_2
   refine HW.skip (thenQ_normal (?_))
   refine HW.seq ?_
   refine HW.block ?_
   refine HW.regionA 21 mixed (fun h => (SliceIs h 19 e_api_Record vl l)) [] (by kernel_rfl) ?_
   refine HA.val (k := 0) (v := vout_1) rfl rfl (by kernel_rfl) (by kernel_rfl) (want_none) rfl (fun _ hL_l => q_move rfl) ?_
   refine HA.val (k := 1) (v := vl) rfl rfl (by kernel_rfl) (by kernel_rfl) (want_none) rfl (fun _ hL_l => q_move rfl) ?_
   refine HA.val (k := 2) (v := .int .i64 i_1) rfl rfl (by kernel_rfl) (by kernel_rfl) (want_none) rfl (fun _ hL_l => q_move rfl) ?_
   obtain ⟨ho_1, hM⟩ := hM
   refine HA.val (k := 3) (v := elemPtr 19 vl (i_1).toNat) rfl rfl (by kernel_rfl) (by kernel_rfl) (want_none) rfl (fun _ hL_l => q_idx ts_22 hL_l rfl rfl ho_1) ?_
   refine HA.val (k := 4) (v := fieldPtr 19 vl (i_1).toNat 0) rfl rfl (by kernel_rfl) (by kernel_rfl) (want_none) rfl (fun _ hL_l => q_fldElem fa_89_0 hL_l rfl ho_1) ?_
   refine HA.val (k := 5) (v := .int .i64 ((gi l i_1).1)) rfl rfl (by kernel_rfl) (by kernel_rfl) (want_none) rfl (fun _ hL_l => q_ldField to_3 hL_l rfl ho_1 (by decide) rfl) ?_
   refine HA.val (k := 6) (v := vl) rfl rfl (by kernel_rfl) (by kernel_rfl) (want_none) rfl (fun _ hL_l => q_move rfl) ?_
   refine HA.val (k := 7) (v := .int .i64 i_1) rfl rfl (by kernel_rfl) (by kernel_rfl) (want_none) rfl (fun _ hL_l => q_move rfl) ?_
   refine HA.val (k := 8) (v := elemPtr 19 vl (i_1).toNat) rfl rfl (by kernel_rfl) (by kernel_rfl) (want_none) rfl (fun _ hL_l => q_idx ts_22 hL_l rfl rfl ho_1) ?_
   refine HA.val (k := 9) (v := fieldPtr 19 vl (i_1).toNat 1) rfl rfl (by kernel_rfl) (by kernel_rfl) (want_none) rfl (fun _ hL_l => q_fldElem fa_89_1 hL_l rfl ho_1) ?_
   refine HA.val (k := 10) (v := .agg (e_api_Addr ((gi l i_1).2.1)).toArray) rfl rfl (by kernel_rfl) (by kernel_rfl) (want_none) rfl (fun _ hL_l => q_ldFieldAgg (n := 17) (cs := (e_api_Addr ((gi l i_1).2.1))) ta_28 hL_l rfl ho_1 (by decide) rfl) ?_
   refine HA.val (k := 11) (v := vl) rfl rfl (by kernel_rfl) (by kernel_rfl) (want_none) rfl (fun _ hL_l => q_move rfl) ?_
   refine HA.val (k := 12) (v := .int .i64 i_1) rfl rfl (by kernel_rfl) (by kernel_rfl) (want_none) rfl (fun _ hL_l => q_move rfl) ?_
   refine HA.val (k := 13) (v := elemPtr 19 vl (i_1).toNat) rfl rfl (by kernel_rfl) (by kernel_rfl) (want_none) rfl (fun _ hL_l => q_idx ts_22 hL_l rfl rfl ho_1) ?_
   refine HA.val (k := 14) (v := fieldPtr 19 vl (i_1).toNat 18) rfl rfl (by kernel_rfl) (by kernel_rfl) (want_none) rfl (fun _ hL_l => q_fldElem fa_89_2 hL_l rfl ho_1) ?_
   refine HA.val (k := 15) (v := ((gi l i_1).2.2).1) rfl rfl (by kernel_rfl) (by kernel_rfl) (want_none) rfl (fun _ hL_l => q_ldField to_29 hL_l rfl ho_1 (by decide) rfl) ?_
   refine HA.one (k := 16) ⟨hL_l.is, (Go.Wk.at_nil _ _)⟩ (by kernel_rfl) ?_
   refine HS.call rfl (want_none) rfl (ec en_38 rfl rfl) (law08_Addrs_walk (fr := (Ow.own 89 19 e_api_Record vout_1 out_1 :: fr)) (((gi l i_1).2.2).2) 6 (((gi l i_1).2.2).1) hS (nff_api_Record_18 (NfL.at hN_l ho_1)) hM) ?_
   rintro vr_2 h_4 ⟨F_3, r_2, _, rfl, hk, hS, _, hM⟩
   replace hK := hK.trans hk
   replace hN_l := hN_l.kp hk
   replace hL_l := hL_l.kp hk
   replace hN_2 := hN_2.kp hk
   replace hN_3 := hN_3.kp hk
   refine Go.Wk.HA.re (fun h => (SliceIs h 19 e_api_Record vl l)) [(18, fun h => (OwnIs h 0 28 17 e_api_Addr vr_2 r_2))] (fun L_ h_ hL_ hL_l hs_ => ⟨hL_l, (Go.Wk.at_nil _ _)⟩) ?_
   refine Go.Wk.HA.valN (k := 17) (v := .agg #[.int .i64 ((gi l i_1).1), .bool (((gi l i_1).2.1).1), .int .u8 (b8 (((gi l i_1).2.1).2) 0), .int .u8 (b8 (((gi l i_1).2.1).2) 1), .int .u8 (b8 (((gi l i_1).2.1).2) 2), .int .u8 (b8 (((gi l i_1).2.1).2) 3), .int .u8 (b8 (((gi l i_1).2.1).2) 4), .int .u8 (b8 (((gi l i_1).2.1).2) 5), .int .u8 (b8 (((gi l i_1).2.1).2) 6), .int .u8 (b8 (((gi l i_1).2.1).2) 7), .int .u8 (b8 (((gi l i_1).2.1).2) 8), .int .u8 (b8 (((gi l i_1).2.1).2) 9), .int .u8 (b8 (((gi l i_1).2.1).2) 10), .int .u8 (b8 (((gi l i_1).2.1).2) 11), .int .u8 (b8 (((gi l i_1).2.1).2) 12), .int .u8 (b8 (((gi l i_1).2.1).2) 13), .int .u8 (b8 (((gi l i_1).2.1).2) 14), .int .u8 (b8 (((gi l i_1).2.1).2) 15), vr_2]) 0 18 (fun h => (OwnIs h 0 28 17 e_api_Addr vr_2 r_2)) rfl rfl (by kernel_rfl) (by kernel_rfl) (want_none) rfl rfl (by kernel_rfl) (fun _ hL_l c401 => q_build tp_89 (fill_cons (cs' := #[.int .i64 ((gi l i_1).1), .bool false, .int .u8 (b8 (default : Ba 16) 0), .int .u8 (b8 (default : Ba 16) 1), .int .u8 (b8 (default : Ba 16) 2), .int .u8 (b8 (default : Ba 16) 3), .int .u8 (b8 (default : Ba 16) 4), .int .u8 (b8 (default : Ba 16) 5), .int .u8 (b8 (default : Ba 16) 6), .int .u8 (b8 (default : Ba 16) 7), .int .u8 (b8 (default : Ba 16) 8), .int .u8 (b8 (default : Ba 16) 9), .int .u8 (b8 (default : Ba 16) 10), .int .u8 (b8 (default : Ba 16) 11), .int .u8 (b8 (default : Ba 16) 12), .int .u8 (b8 (default : Ba 16) 13), .int .u8 (b8 (default : Ba 16) 14), .int .u8 (b8 (default : Ba 16) 15), .slice none 0 0]) (vc := #[.int .i64 ((gi l i_1).1)]) rfl rfl rfl (Nat.le_of_ble_eq_true rfl) rfl (fill_cons (cs' := #[.int .i64 ((gi l i_1).1), .bool (((gi l i_1).2.1).1), .int .u8 (b8 (((gi l i_1).2.1).2) 0), .int .u8 (b8 (((gi l i_1).2.1).2) 1), .int .u8 (b8 (((gi l i_1).2.1).2) 2), .int .u8 (b8 (((gi l i_1).2.1).2) 3), .int .u8 (b8 (((gi l i_1).2.1).2) 4), .int .u8 (b8 (((gi l i_1).2.1).2) 5), .int .u8 (b8 (((gi l i_1).2.1).2) 6), .int .u8 (b8 (((gi l i_1).2.1).2) 7), .int .u8 (b8 (((gi l i_1).2.1).2) 8), .int .u8 (b8 (((gi l i_1).2.1).2) 9), .int .u8 (b8 (((gi l i_1).2.1).2) 10), .int .u8 (b8 (((gi l i_1).2.1).2) 11), .int .u8 (b8 (((gi l i_1).2.1).2) 12), .int .u8 (b8 (((gi l i_1).2.1).2) 13), .int .u8 (b8 (((gi l i_1).2.1).2) 14), .int .u8 (b8 (((gi l i_1).2.1).2) 15), .slice none 0 0]) (vc := (e_api_Addr ((gi l i_1).2.1)).toArray) rfl rfl rfl (Nat.le_of_ble_eq_true rfl) rfl (fill_cons (cs' := #[.int .i64 ((gi l i_1).1), .bool (((gi l i_1).2.1).1), .int .u8 (b8 (((gi l i_1).2.1).2) 0), .int .u8 (b8 (((gi l i_1).2.1).2) 1), .int .u8 (b8 (((gi l i_1).2.1).2) 2), .int .u8 (b8 (((gi l i_1).2.1).2) 3), .int .u8 (b8 (((gi l i_1).2.1).2) 4), .int .u8 (b8 (((gi l i_1).2.1).2) 5), .int .u8 (b8 (((gi l i_1).2.1).2) 6), .int .u8 (b8 (((gi l i_1).2.1).2) 7), .int .u8 (b8 (((gi l i_1).2.1).2) 8), .int .u8 (b8 (((gi l i_1).2.1).2) 9), .int .u8 (b8 (((gi l i_1).2.1).2) 10), .int .u8 (b8 (((gi l i_1).2.1).2) 11), .int .u8 (b8 (((gi l i_1).2.1).2) 12), .int .u8 (b8 (((gi l i_1).2.1).2) 13), .int .u8 (b8 (((gi l i_1).2.1).2) 14), .int .u8 (b8 (((gi l i_1).2.1).2) 15), vr_2]) (vc := #[vr_2]) rfl (shp c401.slice).cells rfl (Nat.le_of_ble_eq_true rfl) rfl rfl)))) ?_
   refine HA.one (k := 18) ⟨hL_l.is, (at_now (hS.own 0 rfl) (Go.Wk.at_nil _ _))⟩ (by kernel_rfl) ?_
   obtain ⟨F_4, hS, hk, hL_1⟩ := hS.freezeOwn
   replace hK := hK.trans hk
   replace hN_l := hN_l.kp hk
   replace hL_l := hL_l.kp hk
   replace hN_2 := hN_2.kp hk
   replace hN_3 := hN_3.kp hk
   replace hM := hM vr_2
   refine HS.eff rfl (want_none) rfl (st_lit (enc := e_api_Record) (cells := #[.int .i64 ((gi l i_1).1), .bool (((gi l i_1).2.1).1), .int .u8 (b8 (((gi l i_1).2.1).2) 0), .int .u8 (b8 (((gi l i_1).2.1).2) 1), .int .u8 (b8 (((gi l i_1).2.1).2) 2), .int .u8 (b8 (((gi l i_1).2.1).2) 3), .int .u8 (b8 (((gi l i_1).2.1).2) 4), .int .u8 (b8 (((gi l i_1).2.1).2) 5), .int .u8 (b8 (((gi l i_1).2.1).2) 6), .int .u8 (b8 (((gi l i_1).2.1).2) 7), .int .u8 (b8 (((gi l i_1).2.1).2) 8), .int .u8 (b8 (((gi l i_1).2.1).2) 9), .int .u8 (b8 (((gi l i_1).2.1).2) 10), .int .u8 (b8 (((gi l i_1).2.1).2) 11), .int .u8 (b8 (((gi l i_1).2.1).2) 12), .int .u8 (b8 (((gi l i_1).2.1).2) 13), .int .u8 (b8 (((gi l i_1).2.1).2) 14), .int .u8 (b8 (((gi l i_1).2.1).2) 15), vr_2]) #[.int .i64 0, .bool false, .int .u8 0, .int .u8 0, .int .u8 0, .int .u8 0, .int .u8 0, .int .u8 0, .int .u8 0, .int .u8 0, .int .u8 0, .int .u8 0, .int .u8 0, .int .u8 0, .int .u8 0, .int .u8 0, .int .u8 0, .int .u8 0, .slice none 0 0] ([((gi l i_1).1, ((gi l i_1).2.1), (vr_2, r_2))] : List T_api_Record) hS tl_22 (by decide) (by decide) (by kernel_rfl) (by kernel_rfl) rfl (by intro x hx; rfl) rfl) ?_
   rintro _ h_5 ⟨b_3, rfl, hS, hk⟩
   replace hK := hK.trans hk
   replace hN_l := hN_l.kp hk
   replace hL_l := hL_l.kp hk
   replace hN_2 := hN_2.kp hk
   replace hN_3 := hN_3.kp hk
   replace hL_1 := hL_1.kp hk
   have hN_4 : NfL nf_api_Record F_4 h_5 ([((gi l i_1).1, ((gi l i_1).2.1), (vr_2, r_2))] : List T_api_Record) := (NfL.cons (nfm_api_Record ((gi l i_1).1, ((gi l i_1).2.1), (vr_2, r_2)) hL_1) (NfL.nil _ _ _))
   refine HA.one (k := 19) ⟨hL_l.is, (at_done (by kernel_rfl) (Go.Wk.at_nil _ _))⟩ (by kernel_rfl) ?_
   obtain ⟨ho_2, hM⟩ := hM
   refine HS.eff rfl (want_none) rfl (st_append te_22 hS (i := 1) rfl (hS.own 0 rfl).slice rfl rfl rfl (fun a_ ha_ => nfo_api_Record (hN_4.is.all a_ ha_)) ho_2 (by omega)) ?_
   rintro v_1 h_6 ⟨hS, hk⟩
   replace hK := hK.trans hk
   replace hN_l := hN_l.kp hk
   replace hL_l := hL_l.kp hk
   replace hN_2 := hN_2.kp hk
   replace hN_3 := hN_3.kp hk
   replace hN_4 := hN_4.kp hk
   have hN_5 : NfL nf_api_Record F_4 h_6 (out_1 ++ ([((gi l i_1).1, ((gi l i_1).2.1), (vr_2, r_2))] : List T_api_Record)) := NfL.app hN_3 hN_4
   refine HA.val (k := 20) (v := v_1) rfl rfl (by kernel_rfl) (by kernel_rfl) (want_none) rfl (fun _ hL_l => q_assign rfl) ?_
   refine HA.nil ⟨hL_l.is, (at_done (by kernel_rfl) (Go.Wk.at_nil _ _))⟩ (by kernel_rfl) (blockQ_normal (thenQ_normal (?_)))
   refine HW.region ?_
   refine oM (.int .i64 i_1) rfl rfl ?_
   obtain ⟨ho_3, hM⟩ := hM
   refine oV (.int .i64 (i_1 + 1)) (q_addN _ rfl rfl rfl ho_3.1 ho_3.2) rfl ?_
   refine oA (.int .i64 (i_1 + 1)) rfl rfl ?_
   refine HO.nil (thenQ_normal (?_))
   replace hS : St F_4 (Ow.own 89 19 e_api_Record v_1 (out_1 ++ ([((gi l i_1).1, ((gi l i_1).2.1), (vr_2, r_2))] : List T_api_Record)) :: fr) h_6 := hS.perm2 [1] 2 rfl rfl
   rw [hKe_1] at hM
   exact ⟨(out_1 ++ ([((gi l i_1).1, ((gi l i_1).2.1), (vr_2, r_2))] : List T_api_Record), i_1 + 1), ⟨F_4, v_1, rfl, rfl, rfl, rfl, rfl, hK, hS, hN_l, hL_l, hN_2, hN_5, hM.1⟩, hM.2⟩
  ·
   replace hM := hM.2 c_2
   refine HW.exit (thenQ_exit (thenQ_exit (blockQ_exit (thenQ_normal (?_)))))
   refine HW.seq ?_
   refine HW.region ?_
   refine oM (vout_1) rfl rfl ?_
   refine oA (vout_1) rfl rfl ?_
   refine HO.nil (thenQ_normal (?_))
   refine HW.ret (?_)
   refine ⟨.inr rfl, vout_1, res1 rfl (rt rfl), ?_⟩
   exact ⟨F_2, out_1, vout_1, rfl, hK, hS, hN_l, hL_l, hN_3, hM⟩
def ref03_Good_l1 (a : T_api_Addr) (Q : Bool → Prop) (K_1 : Int → Prop) (i_1 : Int) : Prop :=
 (i_1 < 16 → ((!a.1) = true → ((0 : Int) ≤ i_1 ∧ i_1 < 16) ∧ ((¬ ((b8 a.2 i_1) = 0) → Q false) ∧ ((b8 a.2 i_1) = 0 → (I64 (i_1 + 1)) ∧ (K_1 (i_1 + 1))))) ∧ ((!a.1) = false → (I64 (i_1 + 1)) ∧ (K_1 (i_1 + 1)))) ∧ (¬ (i_1 < 16) → Q true)
def ref03_Good_W (a : T_api_Addr) (Q : Bool → Prop) : Prop :=
 loopW (fun (K_1 : Int → Prop) (s : Int) => ref03_Good_l1 a Q K_1 s) 4
theorem ref03_Good_walk {F : Fz} {fr : List Ow} {h0 : Heap} (a : T_api_Addr) (hS : St F (fr) h0)  {Q : Bool → Prop} (hM : ref03_Good_W a Q) :
  HC Tryz.prog 66 #[.agg (e_api_Addr a).toArray] h0 fun u h' => ∃ (F' : Fz) (r_1 : Bool), u = .bool r_1 ∧ Kp F h0 F' h' ∧ St F' (fr) h' ∧ Q r_1 := by
 unfold ref03_Good_W at hM
 have hK := Kp.refl F h0
 refine HC.of_HW (n := 18) Tryz.func66 rfl rfl (Nat.le_of_ble_eq_true rfl) ?_
 refine HW.seq ?_
 refine HW.region ?_
 refine HO.eff (want_none) rfl (st_box (c := (e_api_Addr a).toArray) (k' := 17) hS rfl rfl) ?_
 rintro _ h_1 ⟨b_1, rfl, hS, hk⟩
 replace hK := hK.trans hk
 refine oA (.bool false) rfl rfl ?_
 refine HO.nil (thenQ_normal (?_))
 refine HW.seq ?_
 refine HW.seq ?_
 refine HW.region ?_
 refine oA (.int .i64 4) rfl rfl ?_
 refine HO.nil (thenQ_normal (?_))
 refine HW.block ?_
 obtain ⟨I_1, m_1, hI_1, hR_1⟩ := hM
 refine HW.loop (S := Int) (fun i_1 f h => ∃ (F' : Fz), f 1 = .pointer (some ⟨b_1, 0, none⟩) ∧ f 2 = .bool false ∧ f 3 = .int .i64 i_1 ∧ Kp F h0 F' h ∧ St F' (Ow.box b_1 28 (e_api_Addr a).toArray :: fr) h ∧ I_1 i_1) m_1 4 ⟨F, rfl, rfl, rfl, hK, hS, hI_1⟩ ?_
 rintro i_1 f_1 h_2 ⟨F_1, e1, e2, e3, hK, hS, hI0⟩
 obtain ⟨K_1, hKe_1⟩ : ∃ K : Int → Prop, K = fun i_1' => I_1 i_1' ∧ m_1 i_1' < m_1 i_1 := ⟨_, rfl⟩
 have hM : ref03_Good_l1 a Q K_1 i_1 := by rw [hKe_1]; exact hR_1 i_1 hI0
 unfold ref03_Good_l1 at hM
 refine HW.fr [(1, .pointer (some ⟨b_1, 0, none⟩)), (2, .bool false), (3, .int .i64 i_1)] ⟨e1, e2, e3, trivial⟩ ?_
 refine HW.seq ?_
 refine HW.seq ?_
 refine HW.region ?_
 refine oM (.int .i64 i_1) rfl rfl ?_
 refine oV (.bool (decide (i_1 < 16))) (q_lss rfl rfl) rfl ?_
 refine HO.nil (thenQ_normal (?_))
 refine HW.cond (decide (i_1 < 16)) rfl (fun c_1 => ?_) (fun c_1 => ?_)
 ·
  replace hM := hM.1 (of_decide_eq_true c_1)
  refine HW.skip (thenQ_normal (?_))
  refine HW.seq ?_
  refine HW.block ?_
  refine HW.seq ?_
  refine HW.region ?_
  refine oV (.pointer (some ⟨b_1, 0, none⟩)) (q_fieldAddr fa_28_0 rfl rfl) rfl ?_
  refine oV (.bool a.1) (q_load to_4 rfl (Blk.cell (hS.box 0 rfl) rfl)) rfl ?_
  refine oV (.bool (!a.1)) (q_not rfl) rfl ?_
  refine oM (.bool (!a.1)) rfl rfl ?_
  rcases Bool.eq_false_or_eq_true (!a.1) with c_2 | c_2
  ·
   replace hM := hM.1 c_2
   refine HO.val (v := .int .i64 i_1) (want_by rfl rfl c_2) rfl (q_move rfl) ?_
   refine HO.val (v := .pointer (some ⟨b_1, 1, none⟩)) (want_by rfl rfl c_2) rfl (q_fieldAddr fa_28_1 rfl rfl) ?_
   obtain ⟨ho_1, hM⟩ := hM
   refine HO.val (v := .pointer (some ⟨b_1, 1 + (i_1).toNat, none⟩)) (want_by rfl rfl c_2) rfl (q_idxA (o := 1) (t := i_1) tr_26 rfl rfl ho_1) ?_
   refine HO.val (v := .int .u8 (b8 a.2 i_1)) (want_by rfl rfl c_2) rfl (q_ldArr (o := 1) (t := i_1) (X := a.2) to_5 rfl (hS.box 0 rfl) rfl ho_1) ?_
   refine HO.val (v := .bool (!decide ((b8 a.2 i_1) = 0))) (want_by rfl rfl c_2) rfl (q_neq rfl rfl) ?_
   refine oV (.bool (!decide ((b8 a.2 i_1) = 0))) (q_pickK true rfl c_2 rfl) rfl ?_
   refine HO.nil (thenQ_normal (?_))
   refine HW.cond (!decide ((b8 a.2 i_1) = 0)) rfl (fun c_3 => ?_) (fun c_3 => ?_)
   ·
    replace hM := hM.1 (nd_true c_3)
    refine HW.seq ?_
    refine HW.region ?_
    refine oA (.bool false) rfl rfl ?_
    refine HO.nil (thenQ_normal (?_))
    refine HW.ret (blockQ_ret (thenQ_ret (thenQ_ret (blockQ_ret (thenQ_ret (?_))))))
    refine ⟨.inr rfl, .bool false, res1 rfl (rt rfl), ?_⟩
    replace hS : St F_1 (fr) h_2 := hS.perm2 [] 1 rfl rfl
    exact ⟨F_1, false, rfl, hK, hS, hM⟩
   ·
    replace hM := hM.2 (nd_false c_3)
    refine HW.skip (blockQ_normal (thenQ_normal (?_)))
    refine HW.region ?_
    refine oM (.int .i64 i_1) rfl rfl ?_
    obtain ⟨ho_2, hM⟩ := hM
    refine oV (.int .i64 (i_1 + 1)) (q_addN _ rfl rfl rfl ho_2.1 ho_2.2) rfl ?_
    refine oA (.int .i64 (i_1 + 1)) rfl rfl ?_
    refine HO.nil (thenQ_normal (?_))
    rw [hKe_1] at hM
    exact ⟨i_1 + 1, ⟨F_1, rfl, rfl, rfl, hK, hS, hM.1⟩, hM.2⟩
  ·
   replace hM := hM.2 c_2
   refine HO.past (past_by rfl rfl c_2) rfl ?_
   refine HO.past (past_by rfl rfl c_2) rfl ?_
   refine HO.past (past_by rfl rfl c_2) rfl ?_
   refine HO.past (past_by rfl rfl c_2) rfl ?_
   refine HO.past (past_by rfl rfl c_2) rfl ?_
   refine oV (.bool false) (q_pickK false rfl c_2 rfl) rfl ?_
   refine HO.nil (thenQ_normal (?_))
   refine HW.condF rfl ?_
   refine HW.skip (blockQ_normal (thenQ_normal (?_)))
   refine HW.region ?_
   refine oM (.int .i64 i_1) rfl rfl ?_
   obtain ⟨ho_3, hM⟩ := hM
   refine oV (.int .i64 (i_1 + 1)) (q_addN _ rfl rfl rfl ho_3.1 ho_3.2) rfl ?_
   refine oA (.int .i64 (i_1 + 1)) rfl rfl ?_
   refine HO.nil (thenQ_normal (?_))
   rw [hKe_1] at hM
   exact ⟨i_1 + 1, ⟨F_1, rfl, rfl, rfl, hK, hS, hM.1⟩, hM.2⟩
 ·
  replace hM := hM.2 (of_decide_eq_false c_1)
  refine HW.exit (thenQ_exit (thenQ_exit (blockQ_exit (thenQ_normal (?_)))))
  refine HW.seq ?_
  refine HW.region ?_
  refine oA (.bool true) rfl rfl ?_
  refine HO.nil (thenQ_normal (?_))
  refine HW.ret (?_)
  refine ⟨.inr rfl, .bool true, res1 rfl (rt rfl), ?_⟩
  replace hS : St F_1 (fr) h_2 := hS.perm2 [] 1 rfl rfl
  exact ⟨F_1, true, rfl, hK, hS, hM⟩
end Go.Wk
