/- Walks of Query. -/
import Derived.Test.YtfoebjicglgklaaTxt
import Derived.Test.YtfoebjicglgklaaNest
import Derived.Test.YtfoebjicglgklaaTight
import Derived.Test.YtfoebjicglgklaaKy
import Derived.Test.YtfoebjicglgklaaIterT
import Derived.Test.YtfoebjicglgklaaLayQ
import Derived.Test.YtfoebjicglgklaaProg
set_option linter.unusedSimpArgs false
set_option linter.unusedVariables false
set_option linter.unusedSectionVars false
namespace Go.Wk
open Go.HL
open Go.Proofs hiding encI
variable [DM]
abbrev T_api_Addr := Bool × Ba 16
abbrev T_query_left := Int × List (T_api_Addr × Int)
abbrev T_api_Tune := Int × Int × Int × Int × Int
abbrev T_api_Asked := T_api_Addr × Bool × (Value × List T_api_Addr)
def e_api_Addr (x : T_api_Addr) : List Value := [.bool x.1, .int .u8 (b8 x.2 0), .int .u8 (b8 x.2 1), .int .u8 (b8 x.2 2), .int .u8 (b8 x.2 3), .int .u8 (b8 x.2 4), .int .u8 (b8 x.2 5), .int .u8 (b8 x.2 6), .int .u8 (b8 x.2 7), .int .u8 (b8 x.2 8), .int .u8 (b8 x.2 9), .int .u8 (b8 x.2 10), .int .u8 (b8 x.2 11), .int .u8 (b8 x.2 12), .int .u8 (b8 x.2 13), .int .u8 (b8 x.2 14), .int .u8 (b8 x.2 15)]
def pv_query_left (i : Nat × Nat) : Value := .pointer (some ⟨i.1, 0, none⟩)
def th_query_left (i : Nat × Nat) (x : T_query_left) : Ow := Ow.both (Ow.box i.1 79 #[.int .i64 x.1, .map (some i.2)]) (Ow.map i.2 (fun (x : T_api_Addr) => .agg (e_api_Addr x).toArray) kI x.2)
def e_api_Tune (x : T_api_Tune) : List Value := [.int .i64 x.1, .int .i64 x.2.1, .int .i64 x.2.2.1, .int .i64 x.2.2.2.1, .int .i64 x.2.2.2.2]
def c_api_Asked (a0 : T_api_Addr) (a1 : Value) (a2 : Value) : List Value := [.bool a0.1, .int .u8 (b8 a0.2 0), .int .u8 (b8 a0.2 1), .int .u8 (b8 a0.2 2), .int .u8 (b8 a0.2 3), .int .u8 (b8 a0.2 4), .int .u8 (b8 a0.2 5), .int .u8 (b8 a0.2 6), .int .u8 (b8 a0.2 7), .int .u8 (b8 a0.2 8), .int .u8 (b8 a0.2 9), .int .u8 (b8 a0.2 10), .int .u8 (b8 a0.2 11), .int .u8 (b8 a0.2 12), .int .u8 (b8 a0.2 13), .int .u8 (b8 a0.2 14), .int .u8 (b8 a0.2 15), a1, a2]
def e_api_Asked (x : T_api_Asked) : List Value := [.bool x.1.1, .int .u8 (b8 x.1.2 0), .int .u8 (b8 x.1.2 1), .int .u8 (b8 x.1.2 2), .int .u8 (b8 x.1.2 3), .int .u8 (b8 x.1.2 4), .int .u8 (b8 x.1.2 5), .int .u8 (b8 x.1.2 6), .int .u8 (b8 x.1.2 7), .int .u8 (b8 x.1.2 8), .int .u8 (b8 x.1.2 9), .int .u8 (b8 x.1.2 10), .int .u8 (b8 x.1.2 11), .int .u8 (b8 x.1.2 12), .int .u8 (b8 x.1.2 13), .int .u8 (b8 x.1.2 14), .int .u8 (b8 x.1.2 15), .bool x.2.1, x.2.2.1]
def nf_api_Asked : Nf T_api_Asked := ((Nf.sl 17 e_api_Addr).on fun x : T_api_Asked => x.2.2)
theorem one_e_api_Addr (x : T_api_Addr) : ∀ v ∈ e_api_Addr x, v.oneCell' = true := by intro v hv; simp [e_api_Addr] at hv; rcases hv with rfl | rfl | rfl | rfl | rfl | rfl | rfl | rfl | rfl | rfl | rfl | rfl | rfl | rfl | rfl | rfl | rfl <;> rfl
theorem tp_110 : TPlaces Try.prog 110 #[(0, 1)] #[.map none] := tplaces Try.runUnderlying110 Try.zeroValue110 rfl (fun w => by kernel_rfl)
theorem en_34 (args : Array Value) (w : World) : (callFunc 34 args).run Try.prog w = .ok (.enter 34 args) w := by kernel_rfl
theorem tp_73 : TPlaces Try.prog 73 #[(0, 1), (1, 1), (2, 1), (3, 1)] #[.int .i64 0, .pointer none, .int .i64 0, .map none] := tplaces Try.runUnderlying73 Try.zeroValue73 rfl (fun w => by kernel_rfl)
theorem tz_26 : TZero Try.prog 26 (.agg #[.int .i64 0, .int .i64 0, .int .i64 0, .int .i64 0, .int .i64 0]) := Try.zeroValue26
theorem tp_26 : TPlaces Try.prog 26 #[(0, 1), (1, 1), (2, 1), (3, 1), (4, 1)] #[.int .i64 0, .int .i64 0, .int .i64 0, .int .i64 0, .int .i64 0] := tplaces Try.runUnderlying26 Try.zeroValue26 rfl (fun w => by kernel_rfl)
theorem ta_26 : TAgg Try.prog 26 5 := ⟨Try.isAgg26, Try.sizeOf26⟩
theorem one_e_api_Tune (x : T_api_Tune) : ∀ v ∈ e_api_Tune x, v.oneCell' = true := by intro v hv; simp [e_api_Tune] at hv; rcases hv with rfl | rfl | rfl | rfl | rfl <;> rfl
theorem tz_30 : TZero Try.prog 30 (.agg #[.bool false, .int .u8 0, .int .u8 0, .int .u8 0, .int .u8 0, .int .u8 0, .int .u8 0, .int .u8 0, .int .u8 0, .int .u8 0, .int .u8 0, .int .u8 0, .int .u8 0, .int .u8 0, .int .u8 0, .int .u8 0, .int .u8 0]) := Try.zeroValue30
theorem tz_28 : TZero Try.prog 28 (.agg #[.int .u8 0, .int .u8 0, .int .u8 0, .int .u8 0, .int .u8 0, .int .u8 0, .int .u8 0, .int .u8 0, .int .u8 0, .int .u8 0, .int .u8 0, .int .u8 0, .int .u8 0, .int .u8 0, .int .u8 0, .int .u8 0]) := Try.zeroValue28
theorem to_5 : TOne Try.prog 5 := ⟨Try.isAgg5, Try.sizeOf5⟩
theorem tr_28 : TArr Try.prog 28 16 5 := ⟨Try.underlying28, to_5, Try.underlying5, ⟨Try.t5, by kernel_rfl⟩, by kernel_rfl⟩
theorem tb_28 : TBuildA Try.prog 28 #[.int .u8 0, .int .u8 0, .int .u8 0, .int .u8 0, .int .u8 0, .int .u8 0, .int .u8 0, .int .u8 0, .int .u8 0, .int .u8 0, .int .u8 0, .int .u8 0, .int .u8 0, .int .u8 0, .int .u8 0, .int .u8 0] := tbuildA tr_28 tz_28 rfl
theorem tp_30 : TPlaces Try.prog 30 #[(0, 1), (1, 16)] #[.bool false, .int .u8 0, .int .u8 0, .int .u8 0, .int .u8 0, .int .u8 0, .int .u8 0, .int .u8 0, .int .u8 0, .int .u8 0, .int .u8 0, .int .u8 0, .int .u8 0, .int .u8 0, .int .u8 0, .int .u8 0, .int .u8 0] := tplaces Try.runUnderlying30 Try.zeroValue30 rfl (fun w => by kernel_rfl)
theorem ta_30 : TAgg Try.prog 30 17 := ⟨Try.isAgg30, Try.sizeOf30⟩
theorem fa_73_0 : FieldAt Try.prog 73 0 0 := fun a w => by kernel_rfl
theorem to_3 : TOne Try.prog 3 := ⟨Try.isAgg3, Try.sizeOf3⟩
theorem ts_32 : TSlice Try.prog 32 30 17 := ⟨Try.underlying32, Try.sizeOf30⟩
theorem tl_32 : TLit Try.prog 32 30 17 #[.bool false, .int .u8 0, .int .u8 0, .int .u8 0, .int .u8 0, .int .u8 0, .int .u8 0, .int .u8 0, .int .u8 0, .int .u8 0, .int .u8 0, .int .u8 0, .int .u8 0, .int .u8 0, .int .u8 0, .int .u8 0, .int .u8 0] := tlit ts_32 tz_30 rfl
theorem te_32 : TElem Try.prog 32 30 17 17 := ⟨Try.underlying32, ⟨Try.t30, .agg #[.bool false, .int .u8 0, .int .u8 0, .int .u8 0, .int .u8 0, .int .u8 0, .int .u8 0, .int .u8 0, .int .u8 0, .int .u8 0, .int .u8 0, .int .u8 0, .int .u8 0, .int .u8 0, .int .u8 0, .int .u8 0, .int .u8 0], by kernel_rfl, by kernel_rfl, by kernel_rfl, by kernel_rfl, by kernel_rfl⟩, by decide⟩
theorem en_97 (args : Array Value) (w : World) : (callFunc 97 args).run Try.prog w = .ok (.enter 97 args) w := by kernel_rfl
theorem fa_30_0 : FieldAt Try.prog 30 0 0 := fun a w => by kernel_rfl
theorem to_4 : TOne Try.prog 4 := ⟨Try.isAgg4, Try.sizeOf4⟩
theorem fa_30_1 : FieldAt Try.prog 30 1 1 := fun a w => by kernel_rfl
theorem en_74 (args : Array Value) (w : World) : (callFunc 74 args).run Try.prog w = .ok (.enter 74 args) w := by kernel_rfl
theorem teq_28 (d : Nat) (a b : Ba 16) (w : World) : (Op.equalIn (d + 2) 28 (.agg (arrCells a).toArray) (.agg (arrCells b).toArray)).run Try.prog w = .ok (decide (a = b)) w := teqArr tr_28 d a b w
set_option maxRecDepth 100000 in
theorem teq_30 (d : Nat) (a b : T_api_Addr) (w : World) : (Op.equalIn (d + 3) 30 (.agg (e_api_Addr a).toArray) (.agg (e_api_Addr b).toArray)).run Try.prog w = .ok (decide (a = b)) w := by
  refine (eqs w (d + 2) 30 _ _ Try.underlying30 (by kernel_rfl) (eqf_cons w (a := .bool a.1) (b := .bool b.1) (by decide) (by kernel_rfl) (by kernel_rfl) (run_equalIn_bool' w _ _ _ _ Try.underlying4) (eqf_cons w (a := .agg (arrCells a.2).toArray) (b := .agg (arrCells b.2).toArray) (by decide) (by kernel_rfl) (by kernel_rfl) (teq_28 (d + 0) _ _ w) (eqf_nil w)))).trans ?_
  congr 1; rw [Bool.eq_iff_iff]; simp [Prod.ext_iff]
theorem mixed : Try.prog.follows .mixedOrders = true := by kernel_rfl
theorem en_37 (args : Array Value) (w : World) : (callFunc 37 args).run Try.prog w = .ok (.enter 37 args) w := by kernel_rfl
theorem ts_159 : TSlice Try.prog 159 5 1 := ⟨Try.underlying159, Try.sizeOf5⟩
theorem en_101 (args : Array Value) (w : World) : (callFunc 101 args).run Try.prog w = .ok (.enter 101 args) w := by kernel_rfl
theorem en_100 (args : Array Value) (w : World) : (callFunc 100 args).run Try.prog w = .ok (.enter 100 args) w := by kernel_rfl
theorem en_69 (args : Array Value) (w : World) : (callFunc 69 args).run Try.prog w = .ok (.enter 69 args) w := by kernel_rfl
theorem en_70 (args : Array Value) (w : World) : (callFunc 70 args).run Try.prog w = .ok (.enter 70 args) w := by kernel_rfl
theorem en_68 (args : Array Value) (w : World) : (callFunc 68 args).run Try.prog w = .ok (.enter 68 args) w := by kernel_rfl
theorem en_72 (args : Array Value) (w : World) : (callFunc 72 args).run Try.prog w = .ok (.enter 72 args) w := by kernel_rfl
theorem en_71 (args : Array Value) (w : World) : (callFunc 71 args).run Try.prog w = .ok (.enter 71 args) w := by kernel_rfl
theorem en_73 (args : Array Value) (w : World) : (callFunc 73 args).run Try.prog w = .ok (.enter 73 args) w := by kernel_rfl
theorem en_75 (args : Array Value) (w : World) : (callFunc 75 args).run Try.prog w = .ok (.enter 75 args) w := by kernel_rfl
theorem fa_73_3 : FieldAt Try.prog 73 3 3 := fun a w => by kernel_rfl
theorem to_71 : TOne Try.prog 71 := ⟨Try.isAgg71, Try.sizeOf71⟩
theorem tz_75 : TZero Try.prog 75 (.pointer none) := Try.zeroValue75
theorem tmk_71 : TMapK Try.prog 71 30 75 (.pointer none) := ⟨Try.underlying71, tz_75⟩
set_option maxRecDepth 100000 in
theorem ka_30 : KeyAt Try.prog 30 (fun x : T_api_Addr => .agg (e_api_Addr x).toArray) := keyAt_struct Try.underlying30 (fun a => ⟨_, rfl⟩) (fun a b w => teq_30 9997 a b w) (fun e a w => by kernel_rfl) (fun a => sameBits_agg 9999 [.bool a.1, .int .u8 (b8 a.2 0), .int .u8 (b8 a.2 1), .int .u8 (b8 a.2 2), .int .u8 (b8 a.2 3), .int .u8 (b8 a.2 4), .int .u8 (b8 a.2 5), .int .u8 (b8 a.2 6), .int .u8 (b8 a.2 7), .int .u8 (b8 a.2 8), .int .u8 (b8 a.2 9), .int .u8 (b8 a.2 10), .int .u8 (b8 a.2 11), .int .u8 (b8 a.2 12), .int .u8 (b8 a.2 13), .int .u8 (b8 a.2 14), .int .u8 (b8 a.2 15)] (by intro c hc; simp at hc; rcases hc with rfl | rfl | rfl | rfl | rfl | rfl | rfl | rfl | rfl | rfl | rfl | rfl | rfl | rfl | rfl | rfl | rfl <;> first | exact sameBits_int _ _ _ | exact sameBits_bool _ _ | exact sameBits_str _ _))
theorem tp_79 : TPlaces Try.prog 79 #[(0, 1), (1, 1)] #[.int .i64 0, .map none] := tplaces Try.runUnderlying79 Try.zeroValue79 rfl (fun w => by kernel_rfl)
theorem en_76 (args : Array Value) (w : World) : (callFunc 76 args).run Try.prog w = .ok (.enter 76 args) w := by kernel_rfl
theorem fa_110_0 : FieldAt Try.prog 110 0 0 := fun a w => by kernel_rfl
theorem to_108 : TOne Try.prog 108 := ⟨Try.isAgg108, Try.sizeOf108⟩
theorem tz_3 : TZero Try.prog 3 (.int .i64 0) := Try.zeroValue3
theorem tmk_108 : TMapK Try.prog 108 9 3 (.int .i64 0) := ⟨Try.underlying108, tz_3⟩
theorem ka_9 : KeyAt Try.prog 9 kT := keyAt_of keyOk_T Try.underlying9
theorem en_35 (args : Array Value) (w : World) : (callFunc 35 args).run Try.prog w = .ok (.enter 35 args) w := by kernel_rfl
theorem fa_34_2 : FieldAt Try.prog 34 2 18 := fun a w => by kernel_rfl
theorem to_32 : TOne Try.prog 32 := ⟨Try.isAgg32, Try.sizeOf32⟩
theorem en_36 (args : Array Value) (w : World) : (callFunc 36 args).run Try.prog w = .ok (.enter 36 args) w := by kernel_rfl
theorem fa_34_0 : FieldAt Try.prog 34 0 0 := fun a w => by kernel_rfl
theorem en_38 (args : Array Value) (w : World) : (callFunc 38 args).run Try.prog w = .ok (.enter 38 args) w := by kernel_rfl
theorem fa_34_1 : FieldAt Try.prog 34 1 17 := fun a w => by kernel_rfl
theorem en_39 (args : Array Value) (w : World) : (callFunc 39 args).run Try.prog w = .ok (.enter 39 args) w := by kernel_rfl
theorem fa_26_4 : FieldAt Try.prog 26 4 4 := fun a w => by kernel_rfl
theorem fa_79_0 : FieldAt Try.prog 79 0 0 := fun a w => by kernel_rfl
theorem fa_79_1 : FieldAt Try.prog 79 1 1 := fun a w => by kernel_rfl
theorem to_77 : TOne Try.prog 77 := ⟨Try.isAgg77, Try.sizeOf77⟩
theorem tmk_77 : TMapK Try.prog 77 30 3 (.int .i64 0) := ⟨Try.underlying77, tz_3⟩
theorem fa_73_1 : FieldAt Try.prog 73 1 1 := fun a w => by kernel_rfl
theorem to_69 : TOne Try.prog 69 := ⟨Try.isAgg69, Try.sizeOf69⟩
theorem en_41 (args : Array Value) (w : World) : (callFunc 41 args).run Try.prog w = .ok (.enter 41 args) w := by kernel_rfl
theorem en_40 (args : Array Value) (w : World) : (callFunc 40 args).run Try.prog w = .ok (.enter 40 args) w := by kernel_rfl
theorem en_103 (args : Array Value) (w : World) : (callFunc 103 args).run Try.prog w = .ok (.enter 103 args) w := by kernel_rfl
theorem apk_126_103 {F : Fz} {os : List Ow} {h : Heap} {b r : Nat} {ν : Type} {en : ν → Value} {m : List (T_api_Addr × ν)} (hS : St F os h) (hB : Blk h b (.cells #[.map (some r)] 71 (0, 0))) (hM : MapIs h r (fun x => .agg (e_api_Addr x).toArray) en m) (hN : m.length * 17 ≤ 140737488355328) :
    HC Try.prog 126 #[.slice none 0 0, .func (.func 103) #[] #[.pointer (some ⟨b, 0, none⟩)]] h fun u h' => ∃ xs : List T_api_Addr, xs.Perm (m.map Prod.fst) ∧ St F (Ow.own 30 17 e_api_Addr u xs :: os) h' ∧ Kp F h F h' :=
  appendK_hc (enc := e_api_Addr) Try.func126 rfl rfl rfl Try.func103 rfl rfl rfl en_103 te_32 Try.underlying71 ta_30 to_32 to_71 tz_30 rfl tl_32 (by decide) (fun _ => rfl) (by intro a u hu; simp [e_api_Addr, encI, encN, encB, encT] at hu; rcases hu with rfl | rfl | rfl | rfl | rfl | rfl | rfl | rfl | rfl | rfl | rfl | rfl | rfl | rfl | rfl | rfl | rfl <;> rfl) hS hB hM hN (by omega)
theorem en_126 (args : Array Value) (w : World) : (callFunc 126 args).run Try.prog w = .ok (.enter 126 args) w := by kernel_rfl
theorem en_104 (args : Array Value) (w : World) : (callFunc 104 args).run Try.prog w = .ok (.enter 104 args) w := by kernel_rfl
theorem apk_126_104 {F : Fz} {os : List Ow} {h : Heap} {b r : Nat} {ν : Type} {en : ν → Value} {m : List (T_api_Addr × ν)} (hS : St F os h) (hB : Blk h b (.cells #[.map (some r)] 77 (0, 0))) (hM : MapIs h r (fun x => .agg (e_api_Addr x).toArray) en m) (hN : m.length * 17 ≤ 140737488355328) :
    HC Try.prog 126 #[.slice none 0 0, .func (.func 104) #[] #[.pointer (some ⟨b, 0, none⟩)]] h fun u h' => ∃ xs : List T_api_Addr, xs.Perm (m.map Prod.fst) ∧ St F (Ow.own 30 17 e_api_Addr u xs :: os) h' ∧ Kp F h F h' :=
  appendK_hc (enc := e_api_Addr) Try.func126 rfl rfl rfl Try.func104 rfl rfl rfl en_104 te_32 Try.underlying77 ta_30 to_32 to_77 tz_30 rfl tl_32 (by decide) (fun _ => rfl) (by intro a u hu; simp [e_api_Addr, encI, encN, encB, encT] at hu; rcases hu with rfl | rfl | rfl | rfl | rfl | rfl | rfl | rfl | rfl | rfl | rfl | rfl | rfl | rfl | rfl | rfl | rfl <;> rfl) hS hB hM hN (by omega)
theorem en_102 (args : Array Value) (w : World) : (callFunc 102 args).run Try.prog w = .ok (.enter 102 args) w := by kernel_rfl
theorem en_78 (args : Array Value) (w : World) : (callFunc 78 args).run Try.prog w = .ok (.enter 78 args) w := by kernel_rfl
theorem en_77 (args : Array Value) (w : World) : (callFunc 77 args).run Try.prog w = .ok (.enter 77 args) w := by kernel_rfl
theorem tz_34 : TZero Try.prog 34 (.agg #[.bool false, .int .u8 0, .int .u8 0, .int .u8 0, .int .u8 0, .int .u8 0, .int .u8 0, .int .u8 0, .int .u8 0, .int .u8 0, .int .u8 0, .int .u8 0, .int .u8 0, .int .u8 0, .int .u8 0, .int .u8 0, .int .u8 0, .bool false, .slice none 0 0]) := Try.zeroValue34
theorem en_79 (args : Array Value) (w : World) : (callFunc 79 args).run Try.prog w = .ok (.enter 79 args) w := by kernel_rfl
theorem tp_34 : TPlaces Try.prog 34 #[(0, 17), (17, 1), (18, 1)] #[.bool false, .int .u8 0, .int .u8 0, .int .u8 0, .int .u8 0, .int .u8 0, .int .u8 0, .int .u8 0, .int .u8 0, .int .u8 0, .int .u8 0, .int .u8 0, .int .u8 0, .int .u8 0, .int .u8 0, .int .u8 0, .int .u8 0, .bool false, .slice none 0 0] := tplaces Try.runUnderlying34 Try.zeroValue34 rfl (fun w => by kernel_rfl)
theorem ta_34 : TAgg Try.prog 34 19 := ⟨Try.isAgg34, Try.sizeOf34⟩
theorem en_42 (args : Array Value) (w : World) : (callFunc 42 args).run Try.prog w = .ok (.enter 42 args) w := by kernel_rfl
theorem nfm_api_Asked {F : Fz} {h : Heap} (x : T_api_Asked) (s0 : SliceF F h 17 e_api_Addr x.2.2.1 x.2.2.2) : (nf_api_Asked).p F h x := s0
theorem nff_api_Asked_18 {F : Fz} {h : Heap} {x : T_api_Asked} (s : (nf_api_Asked).p F h x) : SliceF F h 17 e_api_Addr x.2.2.1 x.2.2.2 := s
theorem nfi_api_Asked_18 {h : Heap} {x : T_api_Asked} (s : (nf_api_Asked).q h x) : SliceIs h 17 e_api_Addr x.2.2.1 x.2.2.2 := s
theorem nfo_api_Asked {h : Heap} {x : T_api_Asked} (s : (nf_api_Asked).q h x) : ∀ u ∈ e_api_Asked x, u.oneCell' = true := by
  intro u hu; simp [e_api_Asked] at hu; rcases hu with rfl | rfl | rfl | rfl | rfl | rfl | rfl | rfl | rfl | rfl | rfl | rfl | rfl | rfl | rfl | rfl | rfl | rfl | rfl
  · rfl
  · rfl
  · rfl
  · rfl
  · rfl
  · rfl
  · rfl
  · rfl
  · rfl
  · rfl
  · rfl
  · rfl
  · rfl
  · rfl
  · rfl
  · rfl
  · rfl
  · rfl
  · exact (shp (nfi_api_Asked_18 s)).one
theorem en_43 (args : Array Value) (w : World) : (callFunc 43 args).run Try.prog w = .ok (.enter 43 args) w := by kernel_rfl
theorem ts_35 : TSlice Try.prog 35 34 19 := ⟨Try.underlying35, Try.sizeOf34⟩
theorem tl_35 : TLit Try.prog 35 34 19 #[.bool false, .int .u8 0, .int .u8 0, .int .u8 0, .int .u8 0, .int .u8 0, .int .u8 0, .int .u8 0, .int .u8 0, .int .u8 0, .int .u8 0, .int .u8 0, .int .u8 0, .int .u8 0, .int .u8 0, .int .u8 0, .int .u8 0, .bool false, .slice none 0 0] := tlit ts_35 tz_34 rfl
theorem te_35 : TElem Try.prog 35 34 19 48 := ⟨Try.underlying35, ⟨Try.t34, .agg #[.bool false, .int .u8 0, .int .u8 0, .int .u8 0, .int .u8 0, .int .u8 0, .int .u8 0, .int .u8 0, .int .u8 0, .int .u8 0, .int .u8 0, .int .u8 0, .int .u8 0, .int .u8 0, .int .u8 0, .int .u8 0, .int .u8 0, .bool false, .slice none 0 0], by kernel_rfl, by kernel_rfl, by kernel_rfl, by kernel_rfl, by kernel_rfl⟩, by decide⟩
theorem fa_26_1 : FieldAt Try.prog 26 1 1 := fun a w => by kernel_rfl
theorem fa_26_0 : FieldAt Try.prog 26 0 0 := fun a w => by kernel_rfl
theorem en_65 (args : Array Value) (w : World) : (callFunc 65 args).run Try.prog w = .ok (.enter 65 args) w := by kernel_rfl
theorem fa_73_2 : FieldAt Try.prog 73 2 2 := fun a w => by kernel_rfl
theorem en_45 (args : Array Value) (w : World) : (callFunc 45 args).run Try.prog w = .ok (.enter 45 args) w := by kernel_rfl
theorem en_81 (args : Array Value) (w : World) : (callFunc 81 args).run Try.prog w = .ok (.enter 81 args) w := by kernel_rfl
theorem en_80 (args : Array Value) (w : World) : (callFunc 80 args).run Try.prog w = .ok (.enter 80 args) w := by kernel_rfl
theorem en_67 (args : Array Value) (w : World) : (callFunc 67 args).run Try.prog w = .ok (.enter 67 args) w := by kernel_rfl
theorem en_44 (args : Array Value) (w : World) : (callFunc 44 args).run Try.prog w = .ok (.enter 44 args) w := by kernel_rfl
theorem fa_26_3 : FieldAt Try.prog 26 3 3 := fun a w => by kernel_rfl
theorem en_46 (args : Array Value) (w : World) : (callFunc 46 args).run Try.prog w = .ok (.enter 46 args) w := by kernel_rfl
theorem en_47 (args : Array Value) (w : World) : (callFunc 47 args).run Try.prog w = .ok (.enter 47 args) w := by kernel_rfl
theorem en_8 (args : Array Value) (w : World) : (callFunc 8 args).run Try.prog w = .ok (.enter 8 args) w := by kernel_rfl
theorem en_10 (args : Array Value) (w : World) : (callFunc 10 args).run Try.prog w = .ok (.enter 10 args) w := by kernel_rfl
theorem en_31 (args : Array Value) (w : World) : (callFunc 31 args).run Try.prog w = .ok (.enter 31 args) w := by kernel_rfl
theorem en_16 (args : Array Value) (w : World) : (callFunc 16 args).run Try.prog w = .ok (.enter 16 args) w := by kernel_rfl
theorem en_11 (args : Array Value) (w : World) : (callFunc 11 args).run Try.prog w = .ok (.enter 11 args) w := by kernel_rfl
theorem en_9 (args : Array Value) (w : World) : (callFunc 9 args).run Try.prog w = .ok (.enter 9 args) w := by kernel_rfl
theorem en_12 (args : Array Value) (w : World) : (callFunc 12 args).run Try.prog w = .ok (.enter 12 args) w := by kernel_rfl
theorem en_13 (args : Array Value) (w : World) : (callFunc 13 args).run Try.prog w = .ok (.enter 13 args) w := by kernel_rfl
theorem fa_26_2 : FieldAt Try.prog 26 2 2 := fun a w => by kernel_rfl
theorem en_127 (args : Array Value) (w : World) : (callFunc 127 args).run Try.prog w = .ok (.enter 127 args) w := by kernel_rfl
theorem en_128 (args : Array Value) (w : World) : (callFunc 128 args).run Try.prog w = .ok (.enter 128 args) w := by kernel_rfl
theorem ts_161 : TSlice Try.prog 161 3 1 := ⟨Try.underlying161, Try.sizeOf3⟩
theorem en_106 (args : Array Value) (w : World) : (callFunc 106 args).run Try.prog w = .ok (.enter 106 args) w := by kernel_rfl
theorem en_107 (args : Array Value) (w : World) : (callFunc 107 args).run Try.prog w = .ok (.enter 107 args) w := by kernel_rfl
theorem tl_161 : TLit Try.prog 161 3 1 #[.int .i64 0] := tlit ts_161 tz_3 rfl
theorem en_105 (args : Array Value) (w : World) : (callFunc 105 args).run Try.prog w = .ok (.enter 105 args) w := by kernel_rfl
theorem en_82 (args : Array Value) (w : World) : (callFunc 82 args).run Try.prog w = .ok (.enter 82 args) w := by kernel_rfl
theorem en_48 (args : Array Value) (w : World) : (callFunc 48 args).run Try.prog w = .ok (.enter 48 args) w := by kernel_rfl
theorem en_18 (args : Array Value) (w : World) : (callFunc 18 args).run Try.prog w = .ok (.enter 18 args) w := by kernel_rfl
theorem en_14 (args : Array Value) (w : World) : (callFunc 14 args).run Try.prog w = .ok (.enter 14 args) w := by kernel_rfl
theorem en_15 (args : Array Value) (w : World) : (callFunc 15 args).run Try.prog w = .ok (.enter 15 args) w := by kernel_rfl
theorem en_17 (args : Array Value) (w : World) : (callFunc 17 args).run Try.prog w = .ok (.enter 17 args) w := by kernel_rfl
theorem en_19 (args : Array Value) (w : World) : (callFunc 19 args).run Try.prog w = .ok (.enter 19 args) w := by kernel_rfl
theorem en_20 (args : Array Value) (w : World) : (callFunc 20 args).run Try.prog w = .ok (.enter 20 args) w := by kernel_rfl
theorem en_96 (args : Array Value) (w : World) : (callFunc 96 args).run Try.prog w = .ok (.enter 96 args) w := by kernel_rfl
theorem en_95 (args : Array Value) (w : World) : (callFunc 95 args).run Try.prog w = .ok (.enter 95 args) w := by kernel_rfl
theorem en_66 (args : Array Value) (w : World) : (callFunc 66 args).run Try.prog w = .ok (.enter 66 args) w := by kernel_rfl
theorem ts_105 : TSlice Try.prog 105 9 1 := ⟨Try.underlying105, Try.sizeOf9⟩
theorem to_9 : TOne Try.prog 9 := ⟨Try.isAgg9, Try.sizeOf9⟩
theorem en_32 (args : Array Value) (w : World) : (callFunc 32 args).run Try.prog w = .ok (.enter 32 args) w := by kernel_rfl
theorem en_33 (args : Array Value) (w : World) : (callFunc 33 args).run Try.prog w = .ok (.enter 33 args) w := by kernel_rfl
def clock_New_string_W (Q : Prop) : Prop :=
 Q
set_option maxHeartbeats 40000000 in
set_option maxRecDepth 100000 in
theorem clock_New_string_walk {F : Fz} {fr : List Ow} {h0 : Heap}  (hS : St F (fr) h0)  {Q : Prop} (hM : clock_New_string_W Q) :
  HC Try.prog 34 #[] h0 fun u h' => ∃ (F' : Fz) (b_1 : Nat) (r_1 : Nat), u = .pointer (some ⟨b_1, 0, none⟩) ∧ Kp F h0 F' h' ∧ St F' (Ow.box b_1 110 #[.map (some r_1)] :: Ow.map r_1 kT kI ([] : List (Str × Int)) :: fr) h' ∧ Q := by
 unfold clock_New_string_W at hM
 have hK := Kp.refl F h0
 refine HC.of_HW (n := 4) Try.func34 rfl rfl (Nat.le_of_ble_eq_true rfl) ?_
 refine HW.seq ?_
 refine HW.region ?_
 refine oA (.pointer none) rfl rfl ?_
 refine HO.nil (thenQ_normal (?_))
 refine HW.seq ?_
 refine HW.region ?_
 refine HO.eff (want_none) rfl (st_makeMap (κ := Str) (ν := Int) kT kI hS) ?_
 rintro _ h_1 ⟨r_2, rfl, hS, hk⟩
 replace hK := hK.trans hk
 refine oV (.agg #[.map (some r_2)]) (q_build tp_110 rfl) rfl ?_
 refine HO.eff (want_none) rfl (st_box (c := #[.map (some r_2)]) (k' := 1) hS rfl rfl) ?_
 rintro _ h_2 ⟨b_2, rfl, hS, hk⟩
 replace hK := hK.trans hk
 refine oA (.pointer (some ⟨b_2, 0, none⟩)) rfl rfl ?_
 refine HO.nil (thenQ_normal (?_))
 refine HW.ret (?_)
 refine ⟨.inr rfl, .pointer (some ⟨b_2, 0, none⟩), res1 rfl (rt rfl), ?_⟩
 exact ⟨F, b_2, r_2, rfl, hK, hS, hM⟩

def query_New_W (Q : Prop) : Prop :=
 clock_New_string_W  (Q)
set_option maxHeartbeats 40000000 in
set_option maxRecDepth 100000 in
theorem query_New_walk {F : Fz} {fr : List Ow} {h0 : Heap}  (hS : St F (fr) h0)  {Q : Prop} (hM : query_New_W Q) :
  HC Try.prog 8 #[] h0 fun u h' => ∃ (F' : Fz) (b_1 : Nat) (b_2 : Nat) (r_1 : Nat) (r_2 : Nat), u = .pointer (some ⟨b_1, 0, none⟩) ∧ Kp F h0 F' h' ∧ St F' (Ow.box b_1 73 #[.int .i64 0, .pointer (some ⟨b_2, 0, none⟩), .int .i64 0, .map (some r_2)] :: Ow.box b_2 110 #[.map (some r_1)] :: Ow.map r_1 kT kI ([] : List (Str × Int)) :: Ow.pm r_2 (fun (x : T_api_Addr) => .agg (e_api_Addr x).toArray) pv_query_left th_query_left ([] : List (T_api_Addr × (Nat × Nat) × T_query_left)) none :: fr) h' ∧ Q := by
 unfold query_New_W at hM
 have hK := Kp.refl F h0
 refine HC.of_HW (n := 5) Try.func8 rfl rfl (Nat.le_of_ble_eq_true rfl) ?_
 refine HW.seq ?_
 refine HW.region ?_
 refine oA (.pointer none) rfl rfl ?_
 refine HO.nil (thenQ_normal (?_))
 refine HW.seq ?_
 refine HW.region ?_
 refine HO.call (want_none) rfl (ec en_34 rfl rfl) (clock_New_string_walk (fr := (fr))  hS hM) ?_
 rintro _ h_1 ⟨F_1, b_3, r_3, rfl, hk, hS, hM⟩
 replace hK := hK.trans hk
 refine HO.eff (want_none) rfl (st_makePm (ek := (fun (x : T_api_Addr) => .agg (e_api_Addr x).toArray)) (pv := pv_query_left) (th := th_query_left) hS) ?_
 rintro _ h_2 ⟨r_4, rfl, hS, hk⟩
 replace hK := hK.trans hk
 refine oV (.agg #[.int .i64 0, .pointer (some ⟨b_3, 0, none⟩), .int .i64 0, .map (some r_4)]) (q_build tp_73 rfl) rfl ?_
 refine HO.eff (want_none) rfl (st_box (c := #[.int .i64 0, .pointer (some ⟨b_3, 0, none⟩), .int .i64 0, .map (some r_4)]) (k' := 4) hS rfl rfl) ?_
 rintro _ h_3 ⟨b_4, rfl, hS, hk⟩
 replace hK := hK.trans hk
 refine oA (.pointer (some ⟨b_4, 0, none⟩)) rfl rfl ?_
 refine HO.nil (thenQ_normal (?_))
 refine HW.ret (?_)
 refine ⟨.inr rfl, .pointer (some ⟨b_4, 0, none⟩), res1 rfl (rt rfl), ?_⟩
 replace hS : St F_1 (Ow.box b_4 73 #[.int .i64 0, .pointer (some ⟨b_3, 0, none⟩), .int .i64 0, .map (some r_4)] :: Ow.box b_3 110 #[.map (some r_3)] :: Ow.map r_3 kT kI ([] : List (Str × Int)) :: Ow.pm r_4 (fun (x : T_api_Addr) => .agg (e_api_Addr x).toArray) pv_query_left th_query_left ([] : List (T_api_Addr × (Nat × Nat) × T_query_left)) none :: fr) h_3 := hS.perm2 [0, 2, 3, 1] 4 rfl rfl
 exact ⟨F_1, b_4, b_3, r_3, r_4, rfl, hK, hS, hM⟩

def law18_Usual_W (Q : T_api_Tune → Prop) : Prop :=
 Q (2, 12, 2, 2, 2)
set_option maxHeartbeats 40000000 in
set_option maxRecDepth 100000 in
theorem law18_Usual_walk {F : Fz} {fr : List Ow} {h0 : Heap}  (hS : St F (fr) h0)  {Q : T_api_Tune → Prop} (hM : law18_Usual_W Q) :
  HC Try.prog 10 #[] h0 fun u h' => ∃ (F' : Fz) (r_1 : T_api_Tune), u = .agg (e_api_Tune r_1).toArray ∧ Kp F h0 F' h' ∧ St F' (fr) h' ∧ Q r_1 := by
 unfold law18_Usual_W at hM
 have hK := Kp.refl F h0
 refine HC.of_HW (n := 2) Try.func10 rfl rfl (Nat.le_of_ble_eq_true rfl) ?_
 refine HW.seq ?_
 refine HW.region ?_
 refine HO.eff (want_none) rfl (st_alloc (c := (e_api_Tune (0, 0, 0, 0, 0)).toArray) hS tz_26 rfl) ?_
 rintro _ h_1 ⟨b_1, rfl, hS, hk⟩
 replace hK := hK.trans hk
 refine HO.nil (thenQ_normal (?_))
 refine HW.seq ?_
 refine HW.region ?_
 refine oV (.agg (e_api_Tune (2, 12, 2, 2, 2)).toArray) (q_build tp_26 rfl) rfl ?_
 refine HO.sto (want_none) rfl (st_storeAgg (c' := (e_api_Tune (2, 12, 2, 2, 2)).toArray) hS (i := 0) rfl ta_26 rfl rfl rfl (one_e_api_Tune _) (Nat.le_of_ble_eq_true rfl) rfl) ?_
 rintro h_2 ⟨hS, hk⟩
 replace hK := hK.trans hk
 refine HO.nil (thenQ_normal (?_))
 refine HW.ret (?_)
 refine ⟨.inr rfl, .agg (e_api_Tune (2, 12, 2, 2, 2)).toArray, res1 rfl (rca (cs := (e_api_Tune (2, 12, 2, 2, 2))) ta_26 rfl rfl (Blk.cells (k := 5) (hS.box 0 rfl) rfl)), ?_⟩
 replace hS : St F (fr) h_2 := hS.perm2 [] 1 rfl rfl
 exact ⟨F, (2, 12, 2, 2, 2), rfl, hK, hS, hM⟩

def law22_four_W (first : Int) (n : Int) (Q : T_api_Addr → Prop) : Prop :=
 ((0 : Int) ≤ (IntKind.u8.wrap n) ∧ (IntKind.u8.wrap n) < 256) ∧ (((0 : Int) ≤ (IntKind.u8.wrap first) ∧ (IntKind.u8.wrap first) < 256) ∧ (Q (false, mkB 16 [IntKind.u8.wrap first, 1, 1, IntKind.u8.wrap n, 0, 0, 0, 0, 0, 0, 0, 0, 0, 0, 0, 0])))
set_option maxHeartbeats 40000000 in
set_option maxRecDepth 100000 in
theorem law22_four_walk {F : Fz} {fr : List Ow} {h0 : Heap} (first : Int) (n : Int) (hS : St F (fr) h0)  {Q : T_api_Addr → Prop} (hM : law22_four_W first n Q) :
  HC Try.prog 11 #[.int .i64 first, .int .i64 n] h0 fun u h' => ∃ (F' : Fz) (r_1 : T_api_Addr), u = .agg (e_api_Addr r_1).toArray ∧ Kp F h0 F' h' ∧ St F' (fr) h' ∧ Q r_1 := by
 unfold law22_four_W at hM
 have hK := Kp.refl F h0
 refine HC.of_HW (n := 11) Try.func11 rfl rfl (Nat.le_of_ble_eq_true rfl) ?_
 refine HW.seq ?_
 refine HW.region ?_
 refine HO.eff (want_none) rfl (st_alloc (c := (e_api_Addr (false, (default : Ba 16))).toArray) hS tz_30 rfl) ?_
 rintro _ h_1 ⟨b_1, rfl, hS, hk⟩
 replace hK := hK.trans hk
 refine HO.nil (thenQ_normal (?_))
 refine HW.seq ?_
 refine HW.region ?_
 refine oM (.int .i64 first) rfl rfl ?_
 refine oV (.int .u8 (IntKind.u8.wrap first)) (q_convInt (n := first) Try.underlying3 Try.underlying5 rfl rfl) rfl ?_
 refine oM (.int .i64 n) rfl rfl ?_
 refine oV (.int .u8 (IntKind.u8.wrap n)) (q_convInt (n := n) Try.underlying3 Try.underlying5 rfl rfl) rfl ?_
 obtain ⟨ho_1, hM⟩ := hM
 obtain ⟨ho_2, hM⟩ := hM
 refine oV (.agg (arrCells (mkB 16 [IntKind.u8.wrap first, 1, 1, IntKind.u8.wrap n, 0, 0, 0, 0, 0, 0, 0, 0, 0, 0, 0, 0])).toArray) ((q_buildA (cells := #[.int .u8 (IntKind.u8.wrap first), .int .u8 1, .int .u8 1, .int .u8 (IntKind.u8.wrap n), .int .u8 0, .int .u8 0, .int .u8 0, .int .u8 0, .int .u8 0, .int .u8 0, .int .u8 0, .int .u8 0, .int .u8 0, .int .u8 0, .int .u8 0, .int .u8 0]) tb_28 rfl).of_eq (mkB_agg (n := 16) (l := [IntKind.u8.wrap first, 1, 1, IntKind.u8.wrap n, 0, 0, 0, 0, 0, 0, 0, 0, 0, 0, 0, 0]) rfl ⟨ho_2, ⟨⟨by decide, by decide⟩, ⟨⟨by decide, by decide⟩, ⟨ho_1, ⟨⟨by decide, by decide⟩, ⟨⟨by decide, by decide⟩, ⟨⟨by decide, by decide⟩, ⟨⟨by decide, by decide⟩, ⟨⟨by decide, by decide⟩, ⟨⟨by decide, by decide⟩, ⟨⟨by decide, by decide⟩, ⟨⟨by decide, by decide⟩, ⟨⟨by decide, by decide⟩, ⟨⟨by decide, by decide⟩, ⟨⟨by decide, by decide⟩, ⟨⟨by decide, by decide⟩, trivial⟩⟩⟩⟩⟩⟩⟩⟩⟩⟩⟩⟩⟩⟩⟩⟩)) rfl ?_
 refine oV (.agg (e_api_Addr (false, mkB 16 [IntKind.u8.wrap first, 1, 1, IntKind.u8.wrap n, 0, 0, 0, 0, 0, 0, 0, 0, 0, 0, 0, 0])).toArray) (q_build tp_30 (fill_cons (cs' := (e_api_Addr (false, mkB 16 [IntKind.u8.wrap first, 1, 1, IntKind.u8.wrap n, 0, 0, 0, 0, 0, 0, 0, 0, 0, 0, 0, 0])).toArray) (vc := (arrCells (mkB 16 [IntKind.u8.wrap first, 1, 1, IntKind.u8.wrap n, 0, 0, 0, 0, 0, 0, 0, 0, 0, 0, 0, 0])).toArray) rfl rfl rfl (Nat.le_of_ble_eq_true rfl) rfl rfl)) rfl ?_
 refine HO.sto (want_none) rfl (st_storeAgg (c' := (e_api_Addr (false, mkB 16 [IntKind.u8.wrap first, 1, 1, IntKind.u8.wrap n, 0, 0, 0, 0, 0, 0, 0, 0, 0, 0, 0, 0])).toArray) hS (i := 0) rfl ta_30 rfl rfl rfl (one_e_api_Addr _) (Nat.le_of_ble_eq_true rfl) rfl) ?_
 rintro h_2 ⟨hS, hk⟩
 replace hK := hK.trans hk
 refine HO.nil (thenQ_normal (?_))
 refine HW.ret (?_)
 refine ⟨.inr rfl, .agg (e_api_Addr (false, mkB 16 [IntKind.u8.wrap first, 1, 1, IntKind.u8.wrap n, 0, 0, 0, 0, 0, 0, 0, 0, 0, 0, 0, 0])).toArray, res1 rfl (rca (cs := (e_api_Addr (false, mkB 16 [IntKind.u8.wrap first, 1, 1, IntKind.u8.wrap n, 0, 0, 0, 0, 0, 0, 0, 0, 0, 0, 0, 0]))) ta_30 rfl rfl (Blk.cells (k := 17) (hS.box 0 rfl) rfl)), ?_⟩
 replace hS : St F (fr) h_2 := hS.perm2 [] 1 rfl rfl
 exact ⟨F, (false, mkB 16 [IntKind.u8.wrap first, 1, 1, IntKind.u8.wrap n, 0, 0, 0, 0, 0, 0, 0, 0, 0, 0, 0, 0]), rfl, hK, hS, hM⟩

def query_Queries_settle_W (q_now : Int) (q_at_at : List (Str × Int)) (q_first : Int) (q_open : List (T_api_Addr × (Nat × Nat) × T_query_left)) (now : Int) (Q : Int → Int → (List (Str × Int)) → Int → (List (T_api_Addr × (Nat × Nat) × T_query_left)) → Prop) : Prop :=
 Q (max q_now (min now 1000000000000)) (max q_now (min now 1000000000000)) q_at_at q_first q_open
set_option maxHeartbeats 40000000 in
set_option maxRecDepth 100000 in
theorem query_Queries_settle_walk {F : Fz} {fr : List Ow} {h0 : Heap} (q_now : Int) (q_at_at : List (Str × Int)) (q_first : Int) (q_open : List (T_api_Addr × (Nat × Nat) × T_query_left)) (now : Int) (bq : Nat) (bq_at : Nat) (rq_at_at : Nat) (rq_open : Nat) (hS : St F (Ow.box bq 73 #[.int .i64 q_now, .pointer (some ⟨bq_at, 0, none⟩), .int .i64 q_first, .map (some rq_open)] :: Ow.box bq_at 110 #[.map (some rq_at_at)] :: Ow.map rq_at_at kT kI q_at_at :: Ow.pm rq_open (fun (x : T_api_Addr) => .agg (e_api_Addr x).toArray) pv_query_left th_query_left q_open none :: fr) h0)  {Q : Int → Int → (List (Str × Int)) → Int → (List (T_api_Addr × (Nat × Nat) × T_query_left)) → Prop} (hM : query_Queries_settle_W q_now q_at_at q_first q_open now Q) :
  HC Try.prog 35 #[.pointer (some ⟨bq, 0, none⟩), .int .i64 now] h0 fun u h' => ∃ (F' : Fz) (r_1 : Int) (q_now_1 : Int) (qm_1 : List (Str × Int)) (q_first_1 : Int) (qm_2 : List (T_api_Addr × (Nat × Nat) × T_query_left)), u = .int .i64 r_1 ∧ Kp F h0 F' h' ∧ St F' (Ow.box bq 73 #[.int .i64 q_now_1, .pointer (some ⟨bq_at, 0, none⟩), .int .i64 q_first_1, .map (some rq_open)] :: Ow.box bq_at 110 #[.map (some rq_at_at)] :: Ow.map rq_at_at kT kI qm_1 :: Ow.pm rq_open (fun (x : T_api_Addr) => .agg (e_api_Addr x).toArray) pv_query_left th_query_left qm_2 none :: fr) h' ∧ Q r_1 q_now_1 qm_1 q_first_1 qm_2 := by
 unfold query_Queries_settle_W at hM
 have hK := Kp.refl F h0
 refine HC.of_HW (n := 19) Try.func35 rfl rfl (Nat.le_of_ble_eq_true rfl) ?_
 refine HW.seq ?_
 refine HW.region ?_
 refine oA (.int .i64 0) rfl rfl ?_
 refine HO.nil (thenQ_normal (?_))
 refine HW.seq ?_
 refine HW.region ?_
 refine oM (.pointer (some ⟨bq, 0, none⟩)) rfl rfl ?_
 refine oM (.pointer (some ⟨bq, 0, none⟩)) rfl rfl ?_
 refine oV (.pointer (some ⟨bq, 0, none⟩)) (q_nilCheck rfl) rfl ?_
 refine oV (.pointer (some ⟨bq, 0, none⟩)) (q_fieldAddr fa_73_0 rfl rfl) rfl ?_
 refine oV (.int .i64 q_now) (q_load to_3 rfl (Blk.cell (hS.box 0 rfl) rfl)) rfl ?_
 refine oM (.int .i64 now) rfl rfl ?_
 refine oV (.int .i64 (min now 1000000000000)) (q_min rfl rfl) rfl ?_
 refine oV (.int .i64 (max q_now (min now 1000000000000))) (q_max rfl rfl) rfl ?_
 refine oV (.pointer (some ⟨bq, 0, none⟩)) (q_nilCheck rfl) rfl ?_
 refine oV (.pointer (some ⟨bq, 0, none⟩)) (q_fieldAddr fa_73_0 rfl rfl) rfl ?_
 refine HO.sto (want_none) rfl (st_store (c' := #[.int .i64 (max q_now (min now 1000000000000)), .pointer (some ⟨bq_at, 0, none⟩), .int .i64 q_first, .map (some rq_open)]) hS (i := 0) rfl to_3 rfl rfl rfl rfl (Nat.le_of_ble_eq_true rfl) rfl) ?_
 rintro h_1 ⟨hS, hk⟩
 replace hK := hK.trans hk
 refine HO.nil (thenQ_normal (?_))
 refine HW.seq ?_
 refine HW.region ?_
 refine oM (.pointer (some ⟨bq, 0, none⟩)) rfl rfl ?_
 refine oV (.pointer (some ⟨bq, 0, none⟩)) (q_nilCheck rfl) rfl ?_
 refine oV (.pointer (some ⟨bq, 0, none⟩)) (q_fieldAddr fa_73_0 rfl rfl) rfl ?_
 refine oV (.int .i64 (max q_now (min now 1000000000000))) (q_load to_3 rfl (Blk.cell (hS.box 0 rfl) rfl)) rfl ?_
 refine oA (.int .i64 (max q_now (min now 1000000000000))) rfl rfl ?_
 refine HO.nil (thenQ_normal (?_))
 refine HW.ret (?_)
 refine ⟨.inr rfl, .int .i64 (max q_now (min now 1000000000000)), res1 rfl (rt rfl), ?_⟩
 exact ⟨F, max q_now (min now 1000000000000), max q_now (min now 1000000000000), q_at_at, q_first, q_open, rfl, hK, hS, hM⟩

def slices_Clone_s_api_Addr_api_Addr_W (s1 : List T_api_Addr) (Q : (List T_api_Addr) → Prop) : Prop :=
 (s1 = [] → Q []) ∧ (True → ((([] : List T_api_Addr).length + s1.length) * 17 ≤ 140737488355328) ∧ (Q (([] : List T_api_Addr) ++ s1)))
set_option maxHeartbeats 40000000 in
set_option maxRecDepth 100000 in
theorem slices_Clone_s_api_Addr_api_Addr_walk {F : Fz} {fr : List Ow} {h0 : Heap} (s1 : List T_api_Addr) (vs : Value) (hS : St F (fr) h0) (hL_s1 : SliceF F h0 17 e_api_Addr vs s1) {Q : (List T_api_Addr) → Prop} (hM : slices_Clone_s_api_Addr_api_Addr_W s1 Q) :
  HC Try.prog 69 #[vs] h0 fun u h' => ∃ (F' : Fz) (r_1 : List T_api_Addr) (vr_1 : Value), u = vr_1 ∧ Kp F h0 F' h' ∧ St F' (Ow.own 30 17 e_api_Addr vr_1 r_1 :: fr) h' ∧ (SliceF F' h' 17 e_api_Addr vs s1) ∧ Q r_1 := by
 unfold slices_Clone_s_api_Addr_api_Addr_W at hM
 have hK := Kp.refl F h0
 refine HC.of_HW (n := 8) Try.func69 rfl rfl (Nat.le_of_ble_eq_true rfl) ?_
 refine HW.seq ?_
 refine HW.region ?_
 refine oA (.slice none 0 0) rfl rfl ?_
 refine HO.nil (thenQ_normal (?_))
 refine HW.seq ?_
 refine HW.seq ?_
 refine HW.region ?_
 refine oM (vs) rfl rfl ?_
 refine oV (.bool (isNil vs)) (q_eqlSnil Try.underlying32 (shp hL_s1.is) rfl rfl) rfl ?_
 refine HO.nil (thenQ_normal (?_))
 refine HW.cond (isNil vs) rfl (fun c_1 => ?_) (fun c_1 => ?_)
 ·
  replace hM := hM.1 (isNil_nil hL_s1.is c_1)
  refine HW.seq ?_
  refine HW.region ?_
  refine oA (.slice none 0 0) rfl rfl ?_
  refine HO.nil (thenQ_normal (?_))
  refine HW.ret (thenQ_ret (?_))
  refine ⟨.inr rfl, .slice none 0 0, res1 rfl (rt rfl), ?_⟩
  replace hS := hS.nilOwn 30 17 e_api_Addr
  exact ⟨F, [], .slice none 0 0, rfl, hK, hS, hL_s1, hM⟩
 ·
  replace hM := hM.2 trivial
  refine HW.skip (thenQ_normal (?_))
  refine HW.seq ?_
  refine HW.region ?_
  refine HO.eff (want_none) rfl (st_litEmpty (α := T_api_Addr) e_api_Addr hS tl_32) ?_
  rintro _ h_1 ⟨b_1, rfl, hS, hk⟩
  replace hK := hK.trans hk
  replace hL_s1 := hL_s1.kp hk
  refine oM (vs) rfl rfl ?_
  obtain ⟨ho_1, hM⟩ := hM
  refine HO.eff (want_none) rfl (st_append te_32 hS (i := 0) rfl hL_s1.is rfl rfl rfl (by intro a _ u hu; simp [e_api_Addr, encI, encN, encB, encT] at hu; rcases hu with rfl | rfl | rfl | rfl | rfl | rfl | rfl | rfl | rfl | rfl | rfl | rfl | rfl | rfl | rfl | rfl | rfl <;> rfl) ho_1 (by omega)) ?_
  rintro v_1 h_2 ⟨hS, hk⟩
  replace hK := hK.trans hk
  replace hL_s1 := hL_s1.kp hk
  refine oA (v_1) rfl rfl ?_
  refine HO.nil (thenQ_normal (?_))
  refine HW.ret (?_)
  refine ⟨.inr rfl, v_1, res1 rfl (rt rfl), ?_⟩
  exact ⟨F, ([] : List T_api_Addr) ++ s1, v_1, rfl, hK, hS, hL_s1, hM⟩

def slices_IndexFunc_s_api_Addr_api_Addr_l1 (s1 : List T_api_Addr) (cf_f : T_api_Addr → Bool) (Q : Int → Prop) (K_1 : Int → Prop) (n_1 : Int) : Prop :=
 (n_1 < (s1.length : Int) → ((0 : Int) ≤ n_1 ∧ n_1 < (s1.length : Int)) ∧ (((cf_f (gi s1 n_1)) = true → Q n_1) ∧ ((cf_f (gi s1 n_1)) = false → (I64 (n_1 + 1)) ∧ (K_1 (n_1 + 1))))) ∧ (¬ (n_1 < (s1.length : Int)) → Q (-1))
def slices_IndexFunc_s_api_Addr_api_Addr_W (s1 : List T_api_Addr) (cf_f : T_api_Addr → Bool) (Q : Int → Prop) : Prop :=
 loopW (fun (K_1 : Int → Prop) (s : Int) => slices_IndexFunc_s_api_Addr_api_Addr_l1 s1 cf_f Q K_1 s) 0
set_option maxHeartbeats 40000000 in
set_option maxRecDepth 100000 in
theorem slices_IndexFunc_s_api_Addr_api_Addr_walk {F : Fz} {fr : List Ow} {h0 : Heap} (s1 : List T_api_Addr) (cf_f : T_api_Addr → Bool) (vs : Value) (g_f : Nat) (fs_f : Array Value) (cs_f : Array Value) (hS : St F (fr) h0) (hL_s1 : SliceF F h0 17 e_api_Addr vs s1) (hF_cf_f : FnP Try.prog F h0 g_f fs_f cs_f (fun x : T_api_Addr => [.agg (e_api_Addr x).toArray]) (fun x => .bool (cf_f x))) {Q : Int → Prop} (hM : slices_IndexFunc_s_api_Addr_api_Addr_W s1 cf_f Q) :
  HC Try.prog 97 #[vs, .func (.func g_f) fs_f cs_f] h0 fun u h' => ∃ (F' : Fz) (r_1 : Int), u = .int .i64 r_1 ∧ Kp F h0 F' h' ∧ St F' (fr) h' ∧ (SliceF F' h' 17 e_api_Addr vs s1) ∧ (FnP Try.prog F' h' g_f fs_f cs_f (fun x : T_api_Addr => [.agg (e_api_Addr x).toArray]) (fun x => .bool (cf_f x))) ∧ Q r_1 := by
 unfold slices_IndexFunc_s_api_Addr_api_Addr_W at hM
 have hK := Kp.refl F h0
 refine HC.of_HW (n := 19) Try.func97 rfl rfl (Nat.le_of_ble_eq_true rfl) ?_
 refine HW.seq ?_
 refine HW.region ?_
 refine oA (.int .i64 0) rfl rfl ?_
 refine HO.nil (thenQ_normal (?_))
 refine HW.seq ?_
 refine HW.seq ?_
 refine HW.region ?_
 refine oM (vs) rfl rfl ?_
 refine oV (.int .i64 (s1.length : Int)) (q_len ts_32 (shp hL_s1.is) rfl rfl) rfl ?_
 refine oM (.int .i64 0) rfl rfl ?_
 refine HO.nil (thenQ_normal (?_))
 refine HW.block ?_
 obtain ⟨I_1, m_1, hI_1, hR_1⟩ := hM
 refine HW.loop (S := Int) (fun n_1 f h => ∃ (F' : Fz), f 0 = vs ∧ f 1 = .func (.func g_f) fs_f cs_f ∧ f 4 = .int .i64 0 ∧ f 7 = .int .i64 (s1.length : Int) ∧ f 8 = .int .i64 n_1 ∧ Kp F h0 F' h ∧ St F' (fr) h ∧ (SliceF F' h 17 e_api_Addr vs s1) ∧ (FnP Try.prog F' h g_f fs_f cs_f (fun x : T_api_Addr => [.agg (e_api_Addr x).toArray]) (fun x => .bool (cf_f x))) ∧ I_1 n_1) m_1 0 ⟨F, rfl, rfl, rfl, rfl, rfl, hK, hS, hL_s1, hF_cf_f, hI_1⟩ ?_
 rintro n_1 f_1 h_1 ⟨F_1, e0, e1, e4, e7, e8, hK, hS, hL_s1, hF_cf_f, hI0⟩
 obtain ⟨K_1, hKe_1⟩ : ∃ K : Int → Prop, K = fun n_1' => I_1 n_1' ∧ m_1 n_1' < m_1 n_1 := ⟨_, rfl⟩
 have hM : slices_IndexFunc_s_api_Addr_api_Addr_l1 s1 cf_f Q K_1 n_1 := by rw [hKe_1]; exact hR_1 n_1 hI0
 unfold slices_IndexFunc_s_api_Addr_api_Addr_l1 at hM
 refine HW.fr [(0, vs), (1, .func (.func g_f) fs_f cs_f), (4, .int .i64 0), (7, .int .i64 (s1.length : Int)), (8, .int .i64 n_1)] ⟨e0, e1, e4, e7, e8, trivial⟩ ?_
 refine HW.seq ?_
 refine HW.region ?_
 refine oV (.bool (decide (n_1 < (s1.length : Int)))) (q_lss rfl rfl) rfl ?_
 refine HO.nil (thenQ_normal (?_))
 refine HW.seq ?_
 refine HW.cond (decide (n_1 < (s1.length : Int))) rfl (fun c_1 => ?_) (fun c_1 => ?_)
 ·
  replace hM := hM.1 (of_decide_eq_true c_1)
  refine HW.skip (thenQ_normal (?_))
  refine HW.seq ?_
  refine HW.block ?_
  refine HW.seq ?_
  refine HW.region ?_
  refine oM (.int .i64 n_1) rfl rfl ?_
  refine oA (.int .i64 n_1) rfl rfl ?_
  refine HO.nil (thenQ_normal (?_))
  refine HW.seq ?_
  refine HW.region ?_
  refine oM (.func (.func g_f) fs_f cs_f) rfl rfl ?_
  refine oM (vs) rfl rfl ?_
  refine oM (.int .i64 n_1) rfl rfl ?_
  obtain ⟨ho_1, hM⟩ := hM
  refine oV (elemPtr 17 vs (n_1).toNat) (q_idx ts_32 hL_s1.is rfl rfl ho_1) rfl ?_
  refine oV (.agg (e_api_Addr (gi s1 n_1)).toArray) (q_ldElemAgg (cs := (e_api_Addr (gi s1 n_1))) ta_30 hL_s1.is rfl ho_1 rfl) rfl ?_
  refine HO.call (want_none) rfl (hF_cf_f.ec (gi s1 n_1) rfl rfl) (hF_cf_f.hc (gi s1 n_1) hS) ?_
  rintro _ h_2 ⟨rfl, hS, hk⟩
  replace hK := hK.trans hk
  replace hL_s1 := hL_s1.kp hk
  replace hF_cf_f := hF_cf_f.kp hk
  refine HO.nil (thenQ_normal (?_))
  refine HW.cond (cf_f (gi s1 n_1)) rfl (fun c_2 => ?_) (fun c_2 => ?_)
  ·
   replace hM := hM.1 c_2
   refine HW.seq ?_
   refine HW.region ?_
   refine oM (.int .i64 n_1) rfl rfl ?_
   refine oA (.int .i64 n_1) rfl rfl ?_
   refine HO.nil (thenQ_normal (?_))
   refine HW.ret (blockQ_ret (thenQ_ret (thenQ_ret (blockQ_ret (thenQ_ret (?_))))))
   refine ⟨.inr rfl, .int .i64 n_1, res1 rfl (rt rfl), ?_⟩
   exact ⟨F_1, n_1, rfl, hK, hS, hL_s1, hF_cf_f, hM⟩
  ·
   replace hM := hM.2 c_2
   refine HW.skip (blockQ_normal (thenQ_normal (?_)))
   refine HW.region ?_
   obtain ⟨ho_2, hM⟩ := hM
   refine oV (.int .i64 (n_1 + 1)) (q_addN _ rfl rfl rfl ho_2.1 ho_2.2) rfl ?_
   refine oM (.int .i64 (n_1 + 1)) rfl rfl ?_
   refine HO.nil (thenQ_normal (?_))
   rw [hKe_1] at hM
   exact ⟨n_1 + 1, ⟨F_1, rfl, rfl, rfl, rfl, rfl, hK, hS, hL_s1, hF_cf_f, hM.1⟩, hM.2⟩
 ·
  replace hM := hM.2 (of_decide_eq_false c_1)
  refine HW.exit (thenQ_exit (thenQ_exit (blockQ_exit (thenQ_normal (?_)))))
  refine HW.seq ?_
  refine HW.region ?_
  refine oA (.int .i64 (-1)) rfl rfl ?_
  refine HO.nil (thenQ_normal (?_))
  refine HW.ret (?_)
  refine ⟨.inr rfl, .int .i64 (-1), res1 rfl (rt rfl), ?_⟩
  exact ⟨F_1, (-1), rfl, hK, hS, hL_s1, hF_cf_f, hM⟩

def slices_DeleteFunc_s_api_Addr_api_Addr_l2 (cf_del : T_api_Addr → Bool) (Q : (List T_api_Addr) → Prop) (K_1 : (List T_api_Addr) → Int → Int → Prop) (l_1 : List T_api_Addr) (i_1 : Int) (j_1 : Int) : Prop :=
 (j_1 < (l_1.length : Int) → ((0 : Int) ≤ j_1 ∧ j_1 < (l_1.length : Int)) ∧ (((!(cf_del (gi l_1 j_1))) = true → ((0 : Int) ≤ i_1 ∧ i_1 < (l_1.length : Int)) ∧ ((I64 (i_1 + 1)) ∧ ((I64 (j_1 + 1)) ∧ (K_1 (l_1.set (i_1).toNat (gi l_1 j_1)) (i_1 + 1) (j_1 + 1))))) ∧ ((!(cf_del (gi l_1 j_1))) = false → (I64 (j_1 + 1)) ∧ (K_1 l_1 i_1 (j_1 + 1))))) ∧ (¬ (j_1 < (l_1.length : Int)) → ((0 : Int) ≤ i_1 ∧ i_1 ≤ (l_1.length : Int)) ∧ (((0 : Int) ≤ i_1 ∧ i_1 ≤ (l_1.length : Int) ∧ (l_1.length : Int) ≤ (l_1.length : Int)) ∧ (((0 : Int) ≤ i_1 ∧ i_1 ≤ ((clr l_1 i_1 (l_1.length : Int)).length : Int)) ∧ (Q (cut (clr l_1 i_1 (l_1.length : Int)) 0 i_1)))))
def slices_DeleteFunc_s_api_Addr_api_Addr_W (s1 : List T_api_Addr) (cf_del : T_api_Addr → Bool) (Q : (List T_api_Addr) → Prop) : Prop :=
 slices_IndexFunc_s_api_Addr_api_Addr_W s1 cf_del (fun r_2 => (r_2 = (-1) → Q s1) ∧ (¬ (r_2 = (-1)) → (I64 (r_2 + 1)) ∧ (loopW (fun (K_1 : (List T_api_Addr × Int × Int) → Prop) (s : List T_api_Addr × Int × Int) => slices_DeleteFunc_s_api_Addr_api_Addr_l2 cf_del Q (fun l_1 i_1 j_1 => K_1 (l_1, i_1, j_1)) s.1 s.2.1 s.2.2) (s1, r_2, r_2 + 1))))
set_option maxHeartbeats 40000000 in
set_option maxRecDepth 100000 in
theorem slices_DeleteFunc_s_api_Addr_api_Addr_walk {F : Fz} {fr : List Ow} {h0 : Heap} (s1 : List T_api_Addr) (cf_del : T_api_Addr → Bool) (vs : Value) (g_del : Nat) (fs_del : Array Value) (cs_del : Array Value) (hS : St F (Ow.own 30 17 e_api_Addr vs s1 :: fr) h0) (hF_cf_del : FnP Try.prog F h0 g_del fs_del cs_del (fun x : T_api_Addr => [.agg (e_api_Addr x).toArray]) (fun x => .bool (cf_del x))) {Q : (List T_api_Addr) → Prop} (hM : slices_DeleteFunc_s_api_Addr_api_Addr_W s1 cf_del Q) :
  HC Try.prog 68 #[vs, .func (.func g_del) fs_del cs_del] h0 fun u h' => ∃ (F' : Fz) (r_1 : List T_api_Addr) (vr_1 : Value), u = vr_1 ∧ Kp F h0 F' h' ∧ St F' (Ow.own 30 17 e_api_Addr vr_1 r_1 :: fr) h' ∧ (FnP Try.prog F' h' g_del fs_del cs_del (fun x : T_api_Addr => [.agg (e_api_Addr x).toArray]) (fun x => .bool (cf_del x))) ∧ Q r_1 := by
 unfold slices_DeleteFunc_s_api_Addr_api_Addr_W at hM
 have hK := Kp.refl F h0
 refine HC.of_HW (n := 42) Try.func68 rfl rfl (Nat.le_of_ble_eq_true rfl) ?_
 refine HW.seq ?_
 refine HW.region ?_
 refine oA (.slice none 0 0) rfl rfl ?_
 refine HO.nil (thenQ_normal (?_))
 refine HW.seq ?_
 refine HW.region ?_
 refine oM (vs) rfl rfl ?_
 refine oM (.func (.func g_del) fs_del cs_del) rfl rfl ?_
 replace hS : St F (Ow.own 30 17 e_api_Addr vs s1 :: fr) h0 := hS
 have hZ_1 := hS
 have hkz_1 := (hS.freeze).2
 replace hS := hS.freeze.1
 have hL_1 : SliceF (fun bz_ => F bz_ ∨ (Ow.own 30 17 e_api_Addr vs s1).foot bz_) h0 17 e_api_Addr vs s1 := ⟨(hZ_1.own 0 rfl).slice, fun _ b hb => .inr hb⟩
 refine HO.call (want_none) rfl (ec en_97 rfl rfl) (slices_IndexFunc_s_api_Addr_api_Addr_walk (fr := (fr)) s1 cf_del vs g_del fs_del cs_del hS hL_1 (hF_cf_del.kp hkz_1) hM) ?_
 rintro _ h_1 ⟨F_1, r_2, rfl, hk, hS, _, _, hM⟩
 obtain ⟨hS, hk⟩ := hZ_1.back hk hS
 generalize (fun bz_ => F_1 bz_ ∧ ¬ (Ow.own 30 17 e_api_Addr vs s1).foot bz_) = F_2 at hS hk
 replace hK := hK.trans hk
 replace hF_cf_del := hF_cf_del.kp hk
 refine oA (.int .i64 r_2) rfl rfl ?_
 refine HO.nil (thenQ_normal (?_))
 refine HW.seq ?_
 refine HW.seq ?_
 refine HW.region ?_
 refine oM (.int .i64 r_2) rfl rfl ?_
 refine oV (.bool (decide (r_2 = (-1)))) (q_eql rfl rfl) rfl ?_
 refine HO.nil (thenQ_normal (?_))
 refine HW.cond (decide (r_2 = (-1))) rfl (fun c_1 => ?_) (fun c_1 => ?_)
 ·
  replace hM := hM.1 (of_decide_eq_true c_1)
  refine HW.seq ?_
  refine HW.region ?_
  refine oM (vs) rfl rfl ?_
  refine oA (vs) rfl rfl ?_
  refine HO.nil (thenQ_normal (?_))
  refine HW.ret (thenQ_ret (?_))
  refine ⟨.inr rfl, vs, res1 rfl (rt rfl), ?_⟩
  exact ⟨F_2, s1, vs, rfl, hK, hS, hF_cf_del, hM⟩
 ·
  replace hM := hM.2 (of_decide_eq_false c_1)
  refine HW.skip (thenQ_normal (?_))
  refine HW.seq ?_
  refine HW.seq ?_
  refine HW.region ?_
  refine oM (.int .i64 r_2) rfl rfl ?_
  obtain ⟨ho_1, hM⟩ := hM
  refine oV (.int .i64 (r_2 + 1)) (q_addN _ rfl rfl rfl ho_1.1 ho_1.2) rfl ?_
  refine oA (.int .i64 (r_2 + 1)) rfl rfl ?_
  refine HO.nil (thenQ_normal (?_))
  refine HW.block ?_
  obtain ⟨I_1, m_1, hI_1, hR_1⟩ := hM
  refine HW.loop (S := List T_api_Addr × Int × Int) (fun s f h => match s with | (l_1, i_1, j_1) => ∃ (F' : Fz), f 0 = vs ∧ f 1 = .func (.func g_del) fs_del cs_del ∧ f 4 = .slice none 0 0 ∧ f 5 = .int .i64 i_1 ∧ f 6 = .int .i64 j_1 ∧ Kp F h0 F' h ∧ St F' (Ow.own 30 17 e_api_Addr vs l_1 :: fr) h ∧ (FnP Try.prog F' h g_del fs_del cs_del (fun x : T_api_Addr => [.agg (e_api_Addr x).toArray]) (fun x => .bool (cf_del x))) ∧ I_1 (l_1, i_1, j_1)) m_1 (s1, r_2, r_2 + 1) ⟨F_2, rfl, rfl, rfl, rfl, rfl, hK, hS, hF_cf_del, hI_1⟩ ?_
  rintro ⟨l_1, i_1, j_1⟩ f_1 h_2 ⟨F_3, e0, e1, e4, e5, e6, hK, hS, hF_cf_del, hI0⟩
  obtain ⟨K_1, hKe_1⟩ : ∃ K : (List T_api_Addr) → Int → Int → Prop, K = fun l_1' i_1' j_1' => I_1 (l_1', i_1', j_1') ∧ m_1 (l_1', i_1', j_1') < m_1 (l_1, i_1, j_1) := ⟨_, rfl⟩
  have hM : slices_DeleteFunc_s_api_Addr_api_Addr_l2 cf_del Q K_1 l_1 i_1 j_1 := by rw [hKe_1]; exact hR_1 (l_1, i_1, j_1) hI0
  unfold slices_DeleteFunc_s_api_Addr_api_Addr_l2 at hM
  refine HW.fr [(0, vs), (1, .func (.func g_del) fs_del cs_del), (4, .slice none 0 0), (5, .int .i64 i_1), (6, .int .i64 j_1)] ⟨e0, e1, e4, e5, e6, trivial⟩ ?_
  refine HW.seq ?_
  refine HW.seq ?_
  refine HW.region ?_
  refine oM (.int .i64 j_1) rfl rfl ?_
  refine oM (vs) rfl rfl ?_
  refine oV (.int .i64 (l_1.length : Int)) (q_len ts_32 (shp (hS.own 0 rfl).slice) rfl rfl) rfl ?_
  refine oV (.bool (decide (j_1 < (l_1.length : Int)))) (q_lss rfl rfl) rfl ?_
  refine HO.nil (thenQ_normal (?_))
  refine HW.cond (decide (j_1 < (l_1.length : Int))) rfl (fun c_2 => ?_) (fun c_2 => ?_)
  ·
   replace hM := hM.1 (of_decide_eq_true c_2)
   refine HW.skip (thenQ_normal (?_))
   refine HW.seq ?_
   refine HW.block ?_
   refine HW.seq ?_
   refine HW.region ?_
   refine oM (vs) rfl rfl ?_
   refine oM (.int .i64 j_1) rfl rfl ?_
   obtain ⟨ho_2, hM⟩ := hM
   refine oV (elemPtr 17 vs (j_1).toNat) (q_idx ts_32 (hS.own 0 rfl).slice rfl rfl ho_2) rfl ?_
   refine oV (.agg (e_api_Addr (gi l_1 j_1)).toArray) (q_ldElemAgg (cs := (e_api_Addr (gi l_1 j_1))) ta_30 (hS.own 0 rfl).slice rfl ho_2 rfl) rfl ?_
   refine HO.eff (want_none) rfl (st_alloc (c := (e_api_Addr (false, (default : Ba 16))).toArray) hS tz_30 rfl) ?_
   rintro _ h_3 ⟨b_1, rfl, hS, hk⟩
   replace hK := hK.trans hk
   replace hF_cf_del := hF_cf_del.kp hk
   refine HO.sto (want_none) rfl (st_storeAgg (c' := (e_api_Addr (gi l_1 j_1)).toArray) hS (i := 0) rfl ta_30 rfl rfl rfl (one_e_api_Addr _) (Nat.le_of_ble_eq_true rfl) rfl) ?_
   rintro h_4 ⟨hS, hk⟩
   replace hK := hK.trans hk
   replace hF_cf_del := hF_cf_del.kp hk
   refine HO.nil (thenQ_normal (?_))
   refine HW.seq ?_
   refine HW.region ?_
   refine oM (.func (.func g_del) fs_del cs_del) rfl rfl ?_
   refine oV (.agg (e_api_Addr (gi l_1 j_1)).toArray) (q_loadAgg (cs := (e_api_Addr (gi l_1 j_1))) ta_30 rfl rfl (Blk.cells (k := 17) (hS.box 0 rfl) rfl)) rfl ?_
   refine HO.call (want_none) rfl (hF_cf_del.ec (gi l_1 j_1) rfl rfl) (hF_cf_del.hc (gi l_1 j_1) hS) ?_
   rintro _ h_5 ⟨rfl, hS, hk⟩
   replace hK := hK.trans hk
   replace hF_cf_del := hF_cf_del.kp hk
   refine oV (.bool (!(cf_del (gi l_1 j_1)))) (q_not rfl) rfl ?_
   refine HO.nil (thenQ_normal (?_))
   refine HW.cond (!(cf_del (gi l_1 j_1))) rfl (fun c_3 => ?_) (fun c_3 => ?_)
   ·
    replace hM := hM.1 c_3
    refine HW.seq ?_
    refine HW.region ?_
    refine oM (vs) rfl rfl ?_
    refine oM (.int .i64 i_1) rfl rfl ?_
    refine oV (.agg (e_api_Addr (gi l_1 j_1)).toArray) (q_loadAgg (cs := (e_api_Addr (gi l_1 j_1))) ta_30 rfl rfl (Blk.cells (k := 17) (hS.box 0 rfl) rfl)) rfl ?_
    obtain ⟨ho_3, hM⟩ := hM
    refine oV (elemPtr 17 vs (i_1).toNat) (q_idx ts_32 (hS.own 1 rfl).slice rfl rfl ho_3) rfl ?_
    refine HO.sto (want_none) rfl (st_storeElem (a := (gi l_1 j_1)) (t := i_1) hS (i := 1) rfl ta_30 rfl ho_3 rfl rfl rfl (one_e_api_Addr _)) ?_
    rintro h_6 ⟨hS, hk⟩
    replace hK := hK.trans hk
    replace hF_cf_del := hF_cf_del.kp hk
    refine HO.nil (thenQ_normal (?_))
    refine HW.region ?_
    refine oM (.int .i64 i_1) rfl rfl ?_
    obtain ⟨ho_4, hM⟩ := hM
    refine oV (.int .i64 (i_1 + 1)) (q_addN _ rfl rfl rfl ho_4.1 ho_4.2) rfl ?_
    refine oA (.int .i64 (i_1 + 1)) rfl rfl ?_
    refine HO.nil (blockQ_normal (thenQ_normal (?_)))
    refine HW.region ?_
    refine oM (.int .i64 j_1) rfl rfl ?_
    obtain ⟨ho_5, hM⟩ := hM
    refine oV (.int .i64 (j_1 + 1)) (q_addN _ rfl rfl rfl ho_5.1 ho_5.2) rfl ?_
    refine oA (.int .i64 (j_1 + 1)) rfl rfl ?_
    refine HO.nil (thenQ_normal (?_))
    replace hS : St F_3 (Ow.own 30 17 e_api_Addr vs (l_1.set (i_1).toNat (gi l_1 j_1)) :: fr) h_6 := hS.perm2 [1] 2 rfl rfl
    rw [hKe_1] at hM
    exact ⟨(l_1.set (i_1).toNat (gi l_1 j_1), i_1 + 1, j_1 + 1), ⟨F_3, rfl, rfl, rfl, rfl, rfl, hK, hS, hF_cf_del, hM.1⟩, hM.2⟩
   ·
    replace hM := hM.2 c_3
    refine HW.skip (blockQ_normal (thenQ_normal (?_)))
    refine HW.region ?_
    refine oM (.int .i64 j_1) rfl rfl ?_
    obtain ⟨ho_6, hM⟩ := hM
    refine oV (.int .i64 (j_1 + 1)) (q_addN _ rfl rfl rfl ho_6.1 ho_6.2) rfl ?_
    refine oA (.int .i64 (j_1 + 1)) rfl rfl ?_
    refine HO.nil (thenQ_normal (?_))
    replace hS : St F_3 (Ow.own 30 17 e_api_Addr vs l_1 :: fr) h_5 := hS.perm2 [1] 2 rfl rfl
    rw [hKe_1] at hM
    exact ⟨(l_1, i_1, j_1 + 1), ⟨F_3, rfl, rfl, rfl, rfl, rfl, hK, hS, hF_cf_del, hM.1⟩, hM.2⟩
  ·
   replace hM := hM.2 (of_decide_eq_false c_2)
   refine HW.exit (thenQ_exit (thenQ_exit (blockQ_exit (thenQ_normal (?_)))))
   refine HW.seq ?_
   refine HW.region ?_
   refine oM (vs) rfl rfl ?_
   refine oM (.int .i64 i_1) rfl rfl ?_
   obtain ⟨ho_7, hM⟩ := hM
   refine oV (cutV 17 vs (i_1).toNat ((l_1.length : Int)).toNat) (q_slL ts_32 (hS.own 0 rfl).slice rfl rfl ho_7) rfl ?_
   obtain ⟨ho_8, hM⟩ := hM
   refine HO.eff (want_none) rfl (st_clearS (lo := i_1) (hi := (l_1.length : Int)) (z := .agg #[.bool false, .int .u8 0, .int .u8 0, .int .u8 0, .int .u8 0, .int .u8 0, .int .u8 0, .int .u8 0, .int .u8 0, .int .u8 0, .int .u8 0, .int .u8 0, .int .u8 0, .int .u8 0, .int .u8 0, .int .u8 0, .int .u8 0]) hS (i := 0) rfl te_32 tz_30 rfl (by intro u hu; simp [e_api_Addr, encI, encN, encB, encT, default] at hu; rcases hu with rfl | rfl | rfl | rfl | rfl | rfl | rfl | rfl | rfl | rfl | rfl | rfl | rfl | rfl | rfl | rfl | rfl <;> rfl) rfl ho_8 rfl) ?_
   rintro _ h_7 ⟨rfl, hS, hk⟩
   replace hK := hK.trans hk
   replace hF_cf_del := hF_cf_del.kp hk
   refine HO.nil (thenQ_normal (?_))
   refine HW.seq ?_
   refine HW.region ?_
   refine oM (vs) rfl rfl ?_
   refine oM (.int .i64 i_1) rfl rfl ?_
   obtain ⟨ho_9, hM⟩ := hM
   refine oV (cutV 17 vs (0 : Int).toNat (i_1).toNat) (q_slH ts_32 (hS.own 0 rfl).slice rfl rfl ho_9) rfl ?_
   refine oA (cutV 17 vs (0 : Int).toNat (i_1).toNat) rfl rfl ?_
   refine HO.nil (thenQ_normal (?_))
   refine HW.ret (?_)
   refine ⟨.inr rfl, cutV 17 vs (0 : Int).toNat (i_1).toNat, res1 rfl (rt rfl), ?_⟩
   replace hS := hS.shrink 0 rfl i_1 ho_9.1 ho_9.2
   exact ⟨F_3, cut (clr l_1 i_1 (l_1.length : Int)) 0 i_1, cutV 17 vs (0 : Int).toNat (i_1).toNat, rfl, hK, hS, hF_cf_del, hM⟩

def addr_Ip4_W (a : Int) (b : Int) (c : Int) (d : Int) (Q : T_api_Addr → Prop) : Prop :=
 ((0 : Int) ≤ d ∧ d < 256) ∧ (((0 : Int) ≤ c ∧ c < 256) ∧ (((0 : Int) ≤ b ∧ b < 256) ∧ (((0 : Int) ≤ a ∧ a < 256) ∧ (Q (false, mkB 16 [a, b, c, d, 0, 0, 0, 0, 0, 0, 0, 0, 0, 0, 0, 0])))))
set_option maxHeartbeats 40000000 in
set_option maxRecDepth 100000 in
theorem addr_Ip4_walk {F : Fz} {fr : List Ow} {h0 : Heap} (a : Int) (b : Int) (c : Int) (d : Int) (hS : St F (fr) h0)  {Q : T_api_Addr → Prop} (hM : addr_Ip4_W a b c d Q) :
  HC Try.prog 74 #[.int .u8 a, .int .u8 b, .int .u8 c, .int .u8 d] h0 fun u h' => ∃ (F' : Fz) (r_1 : T_api_Addr), u = .agg (e_api_Addr r_1).toArray ∧ Kp F h0 F' h' ∧ St F' (fr) h' ∧ Q r_1 := by
 unfold addr_Ip4_W at hM
 have hK := Kp.refl F h0
 refine HC.of_HW (n := 15) Try.func74 rfl rfl (Nat.le_of_ble_eq_true rfl) ?_
 refine HW.seq ?_
 refine HW.region ?_
 refine HO.eff (want_none) rfl (st_alloc (c := (e_api_Addr (false, (default : Ba 16))).toArray) hS tz_30 rfl) ?_
 rintro _ h_1 ⟨b_1, rfl, hS, hk⟩
 replace hK := hK.trans hk
 refine HO.nil (thenQ_normal (?_))
 refine HW.seq ?_
 refine HW.region ?_
 refine oM (.int .u8 a) rfl rfl ?_
 refine oM (.int .u8 b) rfl rfl ?_
 refine oM (.int .u8 c) rfl rfl ?_
 refine oM (.int .u8 d) rfl rfl ?_
 obtain ⟨ho_1, hM⟩ := hM
 obtain ⟨ho_2, hM⟩ := hM
 obtain ⟨ho_3, hM⟩ := hM
 obtain ⟨ho_4, hM⟩ := hM
 refine oV (.agg (arrCells (mkB 16 [a, b, c, d, 0, 0, 0, 0, 0, 0, 0, 0, 0, 0, 0, 0])).toArray) ((q_buildA (cells := #[.int .u8 a, .int .u8 b, .int .u8 c, .int .u8 d, .int .u8 0, .int .u8 0, .int .u8 0, .int .u8 0, .int .u8 0, .int .u8 0, .int .u8 0, .int .u8 0, .int .u8 0, .int .u8 0, .int .u8 0, .int .u8 0]) tb_28 rfl).of_eq (mkB_agg (n := 16) (l := [a, b, c, d, 0, 0, 0, 0, 0, 0, 0, 0, 0, 0, 0, 0]) rfl ⟨ho_4, ⟨ho_3, ⟨ho_2, ⟨ho_1, ⟨⟨by decide, by decide⟩, ⟨⟨by decide, by decide⟩, ⟨⟨by decide, by decide⟩, ⟨⟨by decide, by decide⟩, ⟨⟨by decide, by decide⟩, ⟨⟨by decide, by decide⟩, ⟨⟨by decide, by decide⟩, ⟨⟨by decide, by decide⟩, ⟨⟨by decide, by decide⟩, ⟨⟨by decide, by decide⟩, ⟨⟨by decide, by decide⟩, ⟨⟨by decide, by decide⟩, trivial⟩⟩⟩⟩⟩⟩⟩⟩⟩⟩⟩⟩⟩⟩⟩⟩)) rfl ?_
 refine oV (.agg (e_api_Addr (false, mkB 16 [a, b, c, d, 0, 0, 0, 0, 0, 0, 0, 0, 0, 0, 0, 0])).toArray) (q_build tp_30 (fill_cons (cs' := (e_api_Addr (false, mkB 16 [a, b, c, d, 0, 0, 0, 0, 0, 0, 0, 0, 0, 0, 0, 0])).toArray) (vc := (arrCells (mkB 16 [a, b, c, d, 0, 0, 0, 0, 0, 0, 0, 0, 0, 0, 0, 0])).toArray) rfl rfl rfl (Nat.le_of_ble_eq_true rfl) rfl rfl)) rfl ?_
 refine HO.sto (want_none) rfl (st_storeAgg (c' := (e_api_Addr (false, mkB 16 [a, b, c, d, 0, 0, 0, 0, 0, 0, 0, 0, 0, 0, 0, 0])).toArray) hS (i := 0) rfl ta_30 rfl rfl rfl (one_e_api_Addr _) (Nat.le_of_ble_eq_true rfl) rfl) ?_
 rintro h_2 ⟨hS, hk⟩
 replace hK := hK.trans hk
 refine HO.nil (thenQ_normal (?_))
 refine HW.ret (?_)
 refine ⟨.inr rfl, .agg (e_api_Addr (false, mkB 16 [a, b, c, d, 0, 0, 0, 0, 0, 0, 0, 0, 0, 0, 0, 0])).toArray, res1 rfl (rca (cs := (e_api_Addr (false, mkB 16 [a, b, c, d, 0, 0, 0, 0, 0, 0, 0, 0, 0, 0, 0, 0]))) ta_30 rfl rfl (Blk.cells (k := 17) (hS.box 0 rfl) rfl)), ?_⟩
 replace hS : St F (fr) h_2 := hS.perm2 [] 1 rfl rfl
 exact ⟨F, (false, mkB 16 [a, b, c, d, 0, 0, 0, 0, 0, 0, 0, 0, 0, 0, 0, 0]), rfl, hK, hS, hM⟩

def addr_Good_W (a : T_api_Addr) (Q : Bool → Prop) : Prop :=
 (a.1 = true → Q true) ∧ (a.1 = false → addr_Ip4_W (b8 a.2 0) (b8 a.2 1) (b8 a.2 2) (b8 a.2 3) (fun r_2 => Q (decide ((a : T_api_Addr) = r_2))))
set_option maxHeartbeats 40000000 in
set_option maxRecDepth 100000 in
theorem addr_Good_walk {F : Fz} {fr : List Ow} {h0 : Heap} (a : T_api_Addr) (hS : St F (fr) h0)  {Q : Bool → Prop} (hM : addr_Good_W a Q) :
  HC Try.prog 37 #[.agg (e_api_Addr a).toArray] h0 fun u h' => ∃ (F' : Fz) (r_1 : Bool), u = .bool r_1 ∧ Kp F h0 F' h' ∧ St F' (fr) h' ∧ Q r_1 := by
 unfold addr_Good_W at hM
 have hK := Kp.refl F h0
 refine HC.of_HW (n := 22) Try.func37 rfl rfl (Nat.le_of_ble_eq_true rfl) ?_
 refine HW.seq ?_
 refine HW.region ?_
 refine HO.eff (want_none) rfl (st_box (c := (e_api_Addr a).toArray) (k' := 17) hS rfl rfl) ?_
 rintro _ h_1 ⟨b_1, rfl, hS, hk⟩
 replace hK := hK.trans hk
 refine oA (.bool false) rfl rfl ?_
 refine HO.nil (thenQ_normal (?_))
 refine HW.seq ?_
 refine HW.regionA 20 mixed (fun h => (Blk h b_1 (.cells (e_api_Addr a).toArray 30 (0, 0)))) [] (by kernel_rfl) ?_
 refine HA.val (k := 0) (v := .pointer (some ⟨b_1, 0, none⟩)) rfl rfl (by kernel_rfl) (by kernel_rfl) (want_none) rfl (fun _ c201 => q_fieldAddr fa_30_0 rfl rfl) ?_
 refine HA.val (k := 1) (v := .bool a.1) rfl rfl (by kernel_rfl) (by kernel_rfl) (want_none) rfl (fun _ c201 => q_load to_4 rfl (Blk.cell c201 rfl)) ?_
 refine HA.val (k := 2) (v := .bool a.1) rfl rfl (by kernel_rfl) (by kernel_rfl) (want_none) rfl (fun _ c201 => q_move rfl) ?_
 rcases Bool.eq_false_or_eq_true a.1 with c_1 | c_1
 ·
  replace hM := hM.1 c_1
  refine HA.past (k := 3) rfl rfl (by kernel_rfl) (by kernel_rfl) (past_by rfl rfl c_1) rfl ?_
  refine HA.past (k := 4) rfl rfl (by kernel_rfl) (by kernel_rfl) (past_by rfl rfl c_1) rfl ?_
  refine HA.past (k := 5) rfl rfl (by kernel_rfl) (by kernel_rfl) (past_by rfl rfl c_1) rfl ?_
  refine HA.past (k := 6) rfl rfl (by kernel_rfl) (by kernel_rfl) (past_by rfl rfl c_1) rfl ?_
  refine HA.past (k := 7) rfl rfl (by kernel_rfl) (by kernel_rfl) (past_by rfl rfl c_1) rfl ?_
  refine HA.past (k := 8) rfl rfl (by kernel_rfl) (by kernel_rfl) (past_by rfl rfl c_1) rfl ?_
  refine HA.past (k := 9) rfl rfl (by kernel_rfl) (by kernel_rfl) (past_by rfl rfl c_1) rfl ?_
  refine HA.past (k := 10) rfl rfl (by kernel_rfl) (by kernel_rfl) (past_by rfl rfl c_1) rfl ?_
  refine HA.past (k := 11) rfl rfl (by kernel_rfl) (by kernel_rfl) (past_by rfl rfl c_1) rfl ?_
  refine HA.past (k := 12) rfl rfl (by kernel_rfl) (by kernel_rfl) (past_by rfl rfl c_1) rfl ?_
  refine HA.past (k := 13) rfl rfl (by kernel_rfl) (by kernel_rfl) (past_by rfl rfl c_1) rfl ?_
  refine HA.past (k := 14) rfl rfl (by kernel_rfl) (by kernel_rfl) (past_by rfl rfl c_1) rfl ?_
  refine HA.past (k := 15) rfl rfl (by kernel_rfl) (by kernel_rfl) (past_by rfl rfl c_1) rfl ?_
  refine HA.one (k := 16) ⟨(hS.box 0 rfl), (Go.Wk.at_nil _ _)⟩ (by kernel_rfl) ?_
  refine HS.past rfl (past_by rfl rfl c_1) rfl ?_
  refine HA.past (k := 17) rfl rfl (by kernel_rfl) (by kernel_rfl) (past_by rfl rfl c_1) rfl ?_
  refine HA.val (k := 18) (v := .bool true) rfl rfl (by kernel_rfl) (by kernel_rfl) (want_none) rfl (fun _ c201 => q_pickK true rfl c_1 rfl) ?_
  refine HA.val (k := 19) (v := .bool true) rfl rfl (by kernel_rfl) (by kernel_rfl) (want_none) rfl (fun _ c201 => q_assign rfl) ?_
  refine HA.nil ⟨(hS.box 0 rfl), (Go.Wk.at_nil _ _)⟩ (by kernel_rfl) (thenQ_normal (?_))
  refine HW.ret (?_)
  refine ⟨.inr rfl, .bool true, res1 rfl (rt rfl), ?_⟩
  replace hS : St F (fr) h_1 := hS.perm2 [] 1 rfl rfl
  exact ⟨F, true, rfl, hK, hS, hM⟩
 ·
  replace hM := hM.2 c_1
  refine HA.val (k := 3) (v := .agg (e_api_Addr a).toArray) rfl rfl (by kernel_rfl) (by kernel_rfl) (want_by rfl rfl c_1) rfl (fun _ c201 => q_loadAgg (cs := (e_api_Addr a)) ta_30 rfl rfl (Blk.cells (k := 17) c201 rfl)) ?_
  refine HA.val (k := 4) (v := .pointer (some ⟨b_1, 1, none⟩)) rfl rfl (by kernel_rfl) (by kernel_rfl) (want_by rfl rfl c_1) rfl (fun _ c201 => q_fieldAddr fa_30_1 rfl rfl) ?_
  refine HA.val (k := 5) (v := .pointer (some ⟨b_1, 1, none⟩)) rfl rfl (by kernel_rfl) (by kernel_rfl) (want_by rfl rfl c_1) rfl (fun _ c201 => q_idxA (o := 1) (t := 0) tr_28 rfl rfl ⟨by decide, by decide⟩) ?_
  refine HA.val (k := 6) (v := .int .u8 (b8 a.2 0)) rfl rfl (by kernel_rfl) (by kernel_rfl) (want_by rfl rfl c_1) rfl (fun _ c201 => q_load to_5 rfl (Blk.cell c201 rfl)) ?_
  refine HA.val (k := 7) (v := .pointer (some ⟨b_1, 1, none⟩)) rfl rfl (by kernel_rfl) (by kernel_rfl) (want_by rfl rfl c_1) rfl (fun _ c201 => q_fieldAddr fa_30_1 rfl rfl) ?_
  refine HA.val (k := 8) (v := .pointer (some ⟨b_1, 2, none⟩)) rfl rfl (by kernel_rfl) (by kernel_rfl) (want_by rfl rfl c_1) rfl (fun _ c201 => q_idxA (o := 1) (t := 1) tr_28 rfl rfl ⟨by decide, by decide⟩) ?_
  refine HA.val (k := 9) (v := .int .u8 (b8 a.2 1)) rfl rfl (by kernel_rfl) (by kernel_rfl) (want_by rfl rfl c_1) rfl (fun _ c201 => q_load to_5 rfl (Blk.cell c201 rfl)) ?_
  refine HA.val (k := 10) (v := .pointer (some ⟨b_1, 1, none⟩)) rfl rfl (by kernel_rfl) (by kernel_rfl) (want_by rfl rfl c_1) rfl (fun _ c201 => q_fieldAddr fa_30_1 rfl rfl) ?_
  refine HA.val (k := 11) (v := .pointer (some ⟨b_1, 3, none⟩)) rfl rfl (by kernel_rfl) (by kernel_rfl) (want_by rfl rfl c_1) rfl (fun _ c201 => q_idxA (o := 1) (t := 2) tr_28 rfl rfl ⟨by decide, by decide⟩) ?_
  refine HA.val (k := 12) (v := .int .u8 (b8 a.2 2)) rfl rfl (by kernel_rfl) (by kernel_rfl) (want_by rfl rfl c_1) rfl (fun _ c201 => q_load to_5 rfl (Blk.cell c201 rfl)) ?_
  refine HA.val (k := 13) (v := .pointer (some ⟨b_1, 1, none⟩)) rfl rfl (by kernel_rfl) (by kernel_rfl) (want_by rfl rfl c_1) rfl (fun _ c201 => q_fieldAddr fa_30_1 rfl rfl) ?_
  refine HA.val (k := 14) (v := .pointer (some ⟨b_1, 4, none⟩)) rfl rfl (by kernel_rfl) (by kernel_rfl) (want_by rfl rfl c_1) rfl (fun _ c201 => q_idxA (o := 1) (t := 3) tr_28 rfl rfl ⟨by decide, by decide⟩) ?_
  refine HA.val (k := 15) (v := .int .u8 (b8 a.2 3)) rfl rfl (by kernel_rfl) (by kernel_rfl) (want_by rfl rfl c_1) rfl (fun _ c201 => q_load to_5 rfl (Blk.cell c201 rfl)) ?_
  refine HA.one (k := 16) ⟨(hS.box 0 rfl), (Go.Wk.at_nil _ _)⟩ (by kernel_rfl) ?_
  refine HS.call rfl (want_by rfl rfl c_1) rfl (ec en_74 rfl rfl) (addr_Ip4_walk (fr := (Ow.box b_1 30 (e_api_Addr a).toArray :: fr)) (b8 a.2 0) (b8 a.2 1) (b8 a.2 2) (b8 a.2 3) hS hM) ?_
  rintro _ h_2 ⟨F_1, r_2, rfl, hk, hS, hM⟩
  replace hK := hK.trans hk
  refine HA.val (k := 17) (v := .bool (decide ((a : T_api_Addr) = r_2))) rfl rfl (by kernel_rfl) (by kernel_rfl) (want_by rfl rfl c_1) rfl (fun _ c201 => q_eqlAgg (a := a) (b := r_2) (fun a b w => teq_30 9997 a b w) (by kernel_rfl) rfl rfl rfl rfl) ?_
  refine HA.val (k := 18) (v := .bool (decide ((a : T_api_Addr) = r_2))) rfl rfl (by kernel_rfl) (by kernel_rfl) (want_none) rfl (fun _ c201 => q_pickK false rfl c_1 rfl) ?_
  refine HA.val (k := 19) (v := .bool (decide ((a : T_api_Addr) = r_2))) rfl rfl (by kernel_rfl) (by kernel_rfl) (want_none) rfl (fun _ c201 => q_assign rfl) ?_
  refine HA.nil ⟨(hS.box 0 rfl), (Go.Wk.at_nil _ _)⟩ (by kernel_rfl) (thenQ_normal (?_))
  refine HW.ret (?_)
  refine ⟨.inr rfl, .bool (decide ((a : T_api_Addr) = r_2)), res1 rfl (rt rfl), ?_⟩
  replace hS : St F_1 (fr) h_2 := hS.perm2 [] 1 rfl rfl
  exact ⟨F_1, decide ((a : T_api_Addr) = r_2), rfl, hK, hS, hM⟩

def srcs_Of_1_W (a : T_api_Addr) (Q : Bool → Prop) : Prop :=
 addr_Good_W a (fun r_2 => Q (!r_2))
set_option maxHeartbeats 40000000 in
set_option maxRecDepth 100000 in
theorem srcs_Of_1_walk {F : Fz} {fr : List Ow} {h0 : Heap} (a : T_api_Addr) (hS : St F (fr) h0)  {Q : Bool → Prop} (hM : srcs_Of_1_W a Q) :
  HC Try.prog 70 #[.agg (e_api_Addr a).toArray] h0 fun u h' => ∃ (F' : Fz) (r_1 : Bool), u = .bool r_1 ∧ Kp F h0 F' h' ∧ St F' (fr) h' ∧ Q r_1 := by
 unfold srcs_Of_1_W at hM
 have hK := Kp.refl F h0
 refine HC.of_HW (n := 6) Try.func70 rfl rfl (Nat.le_of_ble_eq_true rfl) ?_
 refine HW.seq ?_
 refine HW.region ?_
 refine HO.eff (want_none) rfl (st_box (c := (e_api_Addr a).toArray) (k' := 17) hS rfl rfl) ?_
 rintro _ h_1 ⟨b_1, rfl, hS, hk⟩
 replace hK := hK.trans hk
 refine oA (.bool false) rfl rfl ?_
 refine HO.nil (thenQ_normal (?_))
 refine HW.seq ?_
 refine HW.region ?_
 refine oV (.agg (e_api_Addr a).toArray) (q_loadAgg (cs := (e_api_Addr a)) ta_30 rfl rfl (Blk.cells (k := 17) (hS.box 0 rfl) rfl)) rfl ?_
 refine HO.call (want_none) rfl (ec en_37 rfl rfl) (addr_Good_walk (fr := (Ow.box b_1 30 (e_api_Addr a).toArray :: fr)) a hS hM) ?_
 rintro _ h_2 ⟨F_1, r_2, rfl, hk, hS, hM⟩
 replace hK := hK.trans hk
 refine oV (.bool (!r_2)) (q_not rfl) rfl ?_
 refine oA (.bool (!r_2)) rfl rfl ?_
 refine HO.nil (thenQ_normal (?_))
 refine HW.ret (?_)
 refine ⟨.inr rfl, .bool (!r_2), res1 rfl (rt rfl), ?_⟩
 replace hS : St F_1 (fr) h_2 := hS.perm2 [] 1 rfl rfl
 exact ⟨F_1, !r_2, rfl, hK, hS, hM⟩

def addr_bytes_W (a : T_api_Addr) (Q : Str → Prop) : Prop :=
 (a.1 = true → Q (cut a.2.1 0 16)) ∧ (a.1 = false → Q (cut a.2.1 0 4))
set_option maxHeartbeats 40000000 in
set_option maxRecDepth 100000 in
theorem addr_bytes_walk {F : Fz} {fr : List Ow} {h0 : Heap} (a : T_api_Addr) (hS : St F (fr) h0)  {Q : Str → Prop} (hM : addr_bytes_W a Q) :
  HC Try.prog 101 #[.agg (e_api_Addr a).toArray] h0 fun u h' => ∃ (F' : Fz) (r_1 : Str), u = .string (bs r_1) ∧ Kp F h0 F' h' ∧ St F' (fr) h' ∧ Q r_1 := by
 unfold addr_bytes_W at hM
 have hK := Kp.refl F h0
 refine HC.of_HW (n := 11) Try.func101 rfl rfl (Nat.le_of_ble_eq_true rfl) ?_
 refine HW.seq ?_
 refine HW.region ?_
 refine HO.eff (want_none) rfl (st_box (c := (e_api_Addr a).toArray) (k' := 17) hS rfl rfl) ?_
 rintro _ h_1 ⟨b_1, rfl, hS, hk⟩
 replace hK := hK.trans hk
 refine oA (.string (bs [])) rfl rfl ?_
 refine HO.nil (thenQ_normal (?_))
 refine HW.seq ?_
 refine HW.seq ?_
 refine HW.region ?_
 refine oV (.pointer (some ⟨b_1, 0, none⟩)) (q_fieldAddr fa_30_0 rfl rfl) rfl ?_
 refine oV (.bool a.1) (q_load to_4 rfl (Blk.cell (hS.box 0 rfl) rfl)) rfl ?_
 refine HO.nil (thenQ_normal (?_))
 refine HW.cond a.1 rfl (fun c_1 => ?_) (fun c_1 => ?_)
 ·
  replace hM := hM.1 c_1
  refine HW.seq ?_
  refine HW.region ?_
  refine oV (.pointer (some ⟨b_1, 1, none⟩)) (q_fieldAddr fa_30_1 rfl rfl) rfl ?_
  refine oV (arrV b_1 1 16 0 16) (q_sliceA (o := 1) (lo := 0) (hi := 16) (kl := .i64) (kh := .i64) tr_28 rfl (.inl ⟨rfl, rfl⟩) (.inl ⟨rfl, rfl⟩) ⟨by decide, by decide, by decide⟩) rfl ?_
  refine oV (.string (bs (cut a.2.1 0 16))) (q_bytesStr ts_159 Try.underlying5 Try.underlying9 (arrSl (o := 1) (n := 16) (X := a.2) (lo := 0) (hi := 16) (hS.box 0 rfl) rfl ⟨by decide, by decide, by decide⟩ (by decide)) rfl) rfl ?_
  refine oA (.string (bs (cut a.2.1 0 16))) rfl rfl ?_
  refine HO.nil (thenQ_normal (?_))
  refine HW.ret (thenQ_ret (?_))
  refine ⟨.inr rfl, .string (bs (cut a.2.1 0 16)), res1 rfl (rt rfl), ?_⟩
  replace hS : St F (fr) h_1 := hS.perm2 [] 1 rfl rfl
  exact ⟨F, cut a.2.1 0 16, rfl, hK, hS, hM⟩
 ·
  replace hM := hM.2 c_1
  refine HW.skip (thenQ_normal (?_))
  refine HW.seq ?_
  refine HW.region ?_
  refine oV (.pointer (some ⟨b_1, 1, none⟩)) (q_fieldAddr fa_30_1 rfl rfl) rfl ?_
  refine oV (arrV b_1 1 16 0 4) (q_sliceA (o := 1) (lo := 0) (hi := 4) (kl := .i64) tr_28 rfl (.inl ⟨rfl, rfl⟩) (.inr ⟨_, rfl, rfl⟩) ⟨by decide, by decide, by decide⟩) rfl ?_
  refine oV (.string (bs (cut a.2.1 0 4))) (q_bytesStr ts_159 Try.underlying5 Try.underlying9 (arrSl (o := 1) (n := 16) (X := a.2) (lo := 0) (hi := 4) (hS.box 0 rfl) rfl ⟨by decide, by decide, by decide⟩ (by decide)) rfl) rfl ?_
  refine oA (.string (bs (cut a.2.1 0 4))) rfl rfl ?_
  refine HO.nil (thenQ_normal (?_))
  refine HW.ret (?_)
  refine ⟨.inr rfl, .string (bs (cut a.2.1 0 4)), res1 rfl (rt rfl), ?_⟩
  replace hS : St F (fr) h_1 := hS.perm2 [] 1 rfl rfl
  exact ⟨F, cut a.2.1 0 4, rfl, hK, hS, hM⟩

def addr_Cmp_j1 (a : T_api_Addr) (b : T_api_Addr) (Q : Int → Prop) : Prop :=
 addr_bytes_W a (fun r_2 => addr_bytes_W b (fun r_3 => Q (scmp r_2 r_3)))
def addr_Cmp_j2 (a : T_api_Addr) (b : T_api_Addr) (Q : Int → Prop) (b_3 : Bool) : Prop :=
 (b_3 = true → Q 1) ∧ (b_3 = false → ((!a.1) = true → (b.1 = true → Q (-1)) ∧ (b.1 = false → addr_Cmp_j1 a b Q)) ∧ ((!a.1) = false → addr_Cmp_j1 a b Q))
def addr_Cmp_W (a : T_api_Addr) (b : T_api_Addr) (Q : Int → Prop) : Prop :=
 (a.1 = true → addr_Cmp_j2 a b Q (!b.1)) ∧ (a.1 = false → addr_Cmp_j2 a b Q false)
set_option maxHeartbeats 40000000 in
set_option maxRecDepth 100000 in
theorem addr_Cmp_walk {F : Fz} {fr : List Ow} {h0 : Heap} (a : T_api_Addr) (b : T_api_Addr) (hS : St F (fr) h0)  {Q : Int → Prop} (hM : addr_Cmp_W a b Q) :
  HC Try.prog 72 #[.agg (e_api_Addr a).toArray, .agg (e_api_Addr b).toArray] h0 fun u h' => ∃ (F' : Fz) (r_1 : Int), u = .int .i64 r_1 ∧ Kp F h0 F' h' ∧ St F' (fr) h' ∧ Q r_1 := by
 unfold addr_Cmp_W at hM
 have hK := Kp.refl F h0
 refine HC.of_HW (n := 26) Try.func72 rfl rfl (Nat.le_of_ble_eq_true rfl) ?_
 refine HW.seq ?_
 refine HW.region ?_
 refine HO.eff (want_none) rfl (st_box (c := (e_api_Addr a).toArray) (k' := 17) hS rfl rfl) ?_
 rintro _ h_1 ⟨b_1, rfl, hS, hk⟩
 replace hK := hK.trans hk
 refine HO.eff (want_none) rfl (st_box (c := (e_api_Addr b).toArray) (k' := 17) hS rfl rfl) ?_
 rintro _ h_2 ⟨b_2, rfl, hS, hk⟩
 replace hK := hK.trans hk
 refine oA (.int .i64 0) rfl rfl ?_
 refine HO.nil (thenQ_normal (?_))
 refine HW.seq_mid (fun f h => ∃ (F' : Fz), f 2 = .pointer (some ⟨b_1, 0, none⟩) ∧ f 3 = .pointer (some ⟨b_2, 0, none⟩) ∧ f 4 = .int .i64 0 ∧ Kp F h0 F' h ∧ St F' (Ow.box b_1 30 (e_api_Addr a).toArray :: Ow.box b_2 30 (e_api_Addr b).toArray :: fr) h ∧ addr_Cmp_j1 a b Q) ?_ ?_
 ·
  refine HW.block ?_
  refine HW.seq_mid (fun f h => ∃ (F' : Fz) (b_3 : Bool), f 2 = .pointer (some ⟨b_1, 0, none⟩) ∧ f 3 = .pointer (some ⟨b_2, 0, none⟩) ∧ f 4 = .int .i64 0 ∧ f 5 = .bool b_3 ∧ Kp F h0 F' h ∧ St F' (Ow.box b_1 30 (e_api_Addr a).toArray :: Ow.box b_2 30 (e_api_Addr b).toArray :: fr) h ∧ addr_Cmp_j2 a b Q b_3) ?_ ?_
  ·
   refine HW.region ?_
   refine oV (.pointer (some ⟨b_1, 0, none⟩)) (q_fieldAddr fa_30_0 rfl rfl) rfl ?_
   refine oV (.bool a.1) (q_load to_4 rfl (Blk.cell (hS.box 1 rfl) rfl)) rfl ?_
   refine oM (.bool a.1) rfl rfl ?_
   rcases Bool.eq_false_or_eq_true a.1 with c_1 | c_1
   ·
    replace hM := hM.1 c_1
    refine HO.val (v := .pointer (some ⟨b_2, 0, none⟩)) (want_by rfl rfl c_1) rfl (q_fieldAddr fa_30_0 rfl rfl) ?_
    refine HO.val (v := .bool b.1) (want_by rfl rfl c_1) rfl (q_load to_4 rfl (Blk.cell (hS.box 0 rfl) rfl)) ?_
    refine HO.val (v := .bool (!b.1)) (want_by rfl rfl c_1) rfl (q_not rfl) ?_
    refine oV (.bool (!b.1)) (q_pickK true rfl c_1 rfl) rfl ?_
    refine oA (.bool (!b.1)) rfl rfl ?_
    refine HO.nil (thenQ_normal (?_))
    replace hS : St F (Ow.box b_1 30 (e_api_Addr a).toArray :: Ow.box b_2 30 (e_api_Addr b).toArray :: fr) h_2 := hS.perm2 [1, 0] 2 rfl rfl
    exact ⟨F, !b.1, rfl, rfl, rfl, rfl, hK, hS, hM⟩
   ·
    replace hM := hM.2 c_1
    refine HO.past (past_by rfl rfl c_1) rfl ?_
    refine HO.past (past_by rfl rfl c_1) rfl ?_
    refine HO.past (past_by rfl rfl c_1) rfl ?_
    refine oV (.bool false) (q_pickK false rfl c_1 rfl) rfl ?_
    refine oA (.bool false) rfl rfl ?_
    refine HO.nil (thenQ_normal (?_))
    replace hS : St F (Ow.box b_1 30 (e_api_Addr a).toArray :: Ow.box b_2 30 (e_api_Addr b).toArray :: fr) h_2 := hS.perm2 [1, 0] 2 rfl rfl
    exact ⟨F, false, rfl, rfl, rfl, rfl, hK, hS, hM⟩
  ·
   rintro f_1 h_3 ⟨F_1, b_3, e2, e3, e4, e5, hK, hS, hM⟩
   unfold addr_Cmp_j2 at hM
   refine HW.fr [(2, .pointer (some ⟨b_1, 0, none⟩)), (3, .pointer (some ⟨b_2, 0, none⟩)), (4, .int .i64 0), (5, .bool b_3)] ⟨e2, e3, e4, e5, trivial⟩ ?_
   refine HW.cond b_3 rfl (fun c_2 => ?_) (fun c_2 => ?_)
   ·
    replace hM := hM.1 c_2
    refine HW.seq ?_
    refine HW.region ?_
    refine oA (.int .i64 1) rfl rfl ?_
    refine HO.nil (thenQ_normal (?_))
    refine HW.ret (blockQ_ret (thenQ_ret (?_)))
    refine ⟨.inr rfl, .int .i64 1, res1 rfl (rt rfl), ?_⟩
    replace hS : St F_1 (fr) h_3 := hS.perm2 [] 2 rfl rfl
    exact ⟨F_1, 1, rfl, hK, hS, hM⟩
   ·
    replace hM := hM.2 c_2
    refine HW.seq ?_
    refine HW.region ?_
    refine oV (.pointer (some ⟨b_1, 0, none⟩)) (q_fieldAddr fa_30_0 rfl rfl) rfl ?_
    refine oV (.bool a.1) (q_load to_4 rfl (Blk.cell (hS.box 0 rfl) rfl)) rfl ?_
    refine oV (.bool (!a.1)) (q_not rfl) rfl ?_
    refine oM (.bool (!a.1)) rfl rfl ?_
    rcases Bool.eq_false_or_eq_true (!a.1) with c_3 | c_3
    ·
     replace hM := hM.1 c_3
     refine HO.val (v := .pointer (some ⟨b_2, 0, none⟩)) (want_by rfl rfl c_3) rfl (q_fieldAddr fa_30_0 rfl rfl) ?_
     refine HO.val (v := .bool b.1) (want_by rfl rfl c_3) rfl (q_load to_4 rfl (Blk.cell (hS.box 1 rfl) rfl)) ?_
     refine oV (.bool b.1) (q_pickK true rfl c_3 rfl) rfl ?_
     refine oA (.bool b.1) rfl rfl ?_
     refine HO.nil (thenQ_normal (?_))
     refine HW.cond b.1 rfl (fun c_4 => ?_) (fun c_4 => ?_)
     ·
      replace hM := hM.1 c_4
      refine HW.seq ?_
      refine HW.region ?_
      refine oA (.int .i64 (-1)) rfl rfl ?_
      refine HO.nil (thenQ_normal (?_))
      refine HW.ret (blockQ_ret (thenQ_ret (?_)))
      refine ⟨.inr rfl, .int .i64 (-1), res1 rfl (rt rfl), ?_⟩
      replace hS : St F_1 (fr) h_3 := hS.perm2 [] 2 rfl rfl
      exact ⟨F_1, (-1), rfl, hK, hS, hM⟩
     ·
      replace hM := hM.2 c_4
      refine HW.skip (blockQ_normal (thenQ_normal (?_)))
      exact ⟨F_1, rfl, rfl, rfl, hK, hS, hM⟩
    ·
     replace hM := hM.2 c_3
     refine HO.past (past_by rfl rfl c_3) rfl ?_
     refine HO.past (past_by rfl rfl c_3) rfl ?_
     refine oV (.bool false) (q_pickK false rfl c_3 rfl) rfl ?_
     refine oA (.bool false) rfl rfl ?_
     refine HO.nil (thenQ_normal (?_))
     refine HW.condF rfl ?_
     refine HW.skip (blockQ_normal (thenQ_normal (?_)))
     exact ⟨F_1, rfl, rfl, rfl, hK, hS, hM⟩
 ·
  rintro f_2 h_4 ⟨F_2, e2, e3, e4, hK, hS, hM⟩
  unfold addr_Cmp_j1 at hM
  refine HW.fr [(2, .pointer (some ⟨b_1, 0, none⟩)), (3, .pointer (some ⟨b_2, 0, none⟩)), (4, .int .i64 0)] ⟨e2, e3, e4, trivial⟩ ?_
  refine HW.seq ?_
  refine HW.regionA 6 mixed (fun h => (Blk h b_1 (.cells (e_api_Addr a).toArray 30 (0, 0))) ∧ (Blk h b_2 (.cells (e_api_Addr b).toArray 30 (0, 0)))) [] (by kernel_rfl) ?_
  refine HA.val (k := 0) (v := .agg (e_api_Addr a).toArray) rfl rfl (by kernel_rfl) (by kernel_rfl) (want_none) rfl (fun _ ⟨c203, c204⟩ => q_loadAgg (cs := (e_api_Addr a)) ta_30 rfl rfl (Blk.cells (k := 17) c203 rfl)) ?_
  refine HA.val (k := 2) (v := .agg (e_api_Addr b).toArray) rfl rfl (by kernel_rfl) (by kernel_rfl) (want_none) rfl (fun _ ⟨c203, c204⟩ => q_loadAgg (cs := (e_api_Addr b)) ta_30 rfl rfl (Blk.cells (k := 17) c204 rfl)) ?_
  refine HA.one (k := 1) ⟨⟨(hS.box 0 rfl), (hS.box 1 rfl)⟩, (Go.Wk.at_nil _ _)⟩ (by kernel_rfl) ?_
  refine HS.call rfl (want_none) rfl (ec en_101 rfl rfl) (addr_bytes_walk (fr := (Ow.box b_1 30 (e_api_Addr a).toArray :: Ow.box b_2 30 (e_api_Addr b).toArray :: fr)) a hS hM) ?_
  rintro _ h_5 ⟨F_3, r_2, rfl, hk, hS, hM⟩
  replace hK := hK.trans hk
  refine HA.one (k := 3) ⟨⟨(hS.box 0 rfl), (hS.box 1 rfl)⟩, (Go.Wk.at_nil _ _)⟩ (by kernel_rfl) ?_
  refine HS.call rfl (want_none) rfl (ec en_101 rfl rfl) (addr_bytes_walk (fr := (Ow.box b_1 30 (e_api_Addr a).toArray :: Ow.box b_2 30 (e_api_Addr b).toArray :: fr)) b hS hM) ?_
  rintro _ h_6 ⟨F_4, r_3, rfl, hk, hS, hM⟩
  replace hK := hK.trans hk
  refine HA.one (k := 4) ⟨⟨(hS.box 0 rfl), (hS.box 1 rfl)⟩, (Go.Wk.at_nil _ _)⟩ (by kernel_rfl) ?_
  refine HS.call rfl (want_none) rfl (ec en_100 rfl rfl) (strCompare_hc Try.strCmp  r_2 r_3 _) ?_
  rintro _ h_7 ⟨rfl, hEq⟩
  rw [hEq]
  refine HA.val (k := 5) (v := .int .i64 (scmp r_2 r_3)) rfl rfl (by kernel_rfl) (by kernel_rfl) (want_none) rfl (fun _ ⟨c203, c204⟩ => q_assign rfl) ?_
  refine HA.nil ⟨⟨(hS.box 0 rfl), (hS.box 1 rfl)⟩, (Go.Wk.at_nil _ _)⟩ (by kernel_rfl) (thenQ_normal (?_))
  refine HW.ret (?_)
  refine ⟨.inr rfl, .int .i64 (scmp r_2 r_3), res1 rfl (rt rfl), ?_⟩
  replace hS : St F_4 (fr) h_6 := hS.perm2 [] 2 rfl rfl
  exact ⟨F_4, scmp r_2 r_3, rfl, hK, hS, hM⟩

def slices_Compact_s_api_Addr_api_Addr_l3 (s1 : List T_api_Addr) (Q : (List T_api_Addr) → Prop) (k_1 : Int) (K_2 : (List T_api_Addr) → Int → Int → Prop) (l_2 : List T_api_Addr) (k_2 : Int) (k2_1 : Int) : Prop :=
 ((0 : Int) ≤ k_1 ∧ k_1 ≤ (s1.length : Int) ∧ (s1.length : Int) ≤ (l_2.length : Int)) ∧ ((k2_1 < ((cut l_2 k_1 (s1.length : Int)).length : Int) → ((0 : Int) ≤ k2_1 ∧ k2_1 < ((cut l_2 k_1 (s1.length : Int)).length : Int)) ∧ ((I64 (k2_1 - 1)) ∧ (((0 : Int) ≤ k2_1 - 1 ∧ k2_1 - 1 < ((cut l_2 k_1 (s1.length : Int)).length : Int)) ∧ ((¬ ((((gi (cut l_2 k_1 (s1.length : Int)) k2_1).1, ((gi (cut l_2 k_1 (s1.length : Int)) k2_1).2)) : T_api_Addr) = ((gi (cut l_2 k_1 (s1.length : Int)) (k2_1 - 1)).1, ((gi (cut l_2 k_1 (s1.length : Int)) (k2_1 - 1)).2))) → ((0 : Int) ≤ k_2 ∧ k_2 < (l_2.length : Int)) ∧ ((I64 (k_2 + 1)) ∧ ((I64 (k2_1 + 1)) ∧ (K_2 (l_2.set (k_2).toNat ((gi (cut l_2 k_1 (s1.length : Int)) k2_1).1, ((gi (cut l_2 k_1 (s1.length : Int)) k2_1).2))) (k_2 + 1) (k2_1 + 1))))) ∧ ((((gi (cut l_2 k_1 (s1.length : Int)) k2_1).1, ((gi (cut l_2 k_1 (s1.length : Int)) k2_1).2)) : T_api_Addr) = ((gi (cut l_2 k_1 (s1.length : Int)) (k2_1 - 1)).1, ((gi (cut l_2 k_1 (s1.length : Int)) (k2_1 - 1)).2)) → (I64 (k2_1 + 1)) ∧ (K_2 l_2 k_2 (k2_1 + 1))))))) ∧ (¬ (k2_1 < ((cut l_2 k_1 (s1.length : Int)).length : Int)) → ((0 : Int) ≤ k_2 ∧ k_2 ≤ (l_2.length : Int)) ∧ (((0 : Int) ≤ k_2 ∧ k_2 ≤ (l_2.length : Int) ∧ (l_2.length : Int) ≤ (l_2.length : Int)) ∧ (((0 : Int) ≤ k_2 ∧ k_2 ≤ ((clr l_2 k_2 (l_2.length : Int)).length : Int)) ∧ (Q (cut (clr l_2 k_2 (l_2.length : Int)) 0 k_2))))))
def slices_Compact_s_api_Addr_api_Addr_l1 (s1 : List T_api_Addr) (Q : (List T_api_Addr) → Prop) (K_1 : Int → Prop) (k_1 : Int) : Prop :=
 (k_1 < (s1.length : Int) → ((0 : Int) ≤ k_1 ∧ k_1 < (s1.length : Int)) ∧ ((I64 (k_1 - 1)) ∧ (((0 : Int) ≤ k_1 - 1 ∧ k_1 - 1 < (s1.length : Int)) ∧ ((((gi s1 k_1) : T_api_Addr) = (gi s1 (k_1 - 1)) → ((0 : Int) ≤ k_1 ∧ k_1 ≤ (s1.length : Int)) ∧ (loopW (fun (K_2 : (List T_api_Addr × Int × Int) → Prop) (s : List T_api_Addr × Int × Int) => slices_Compact_s_api_Addr_api_Addr_l3 s1 Q k_1 (fun l_2 k_2 k2_1 => K_2 (l_2, k_2, k2_1)) s.1 s.2.1 s.2.2) (s1, k_1, 1))) ∧ (¬ (((gi s1 k_1) : T_api_Addr) = (gi s1 (k_1 - 1))) → (I64 (k_1 + 1)) ∧ (K_1 (k_1 + 1))))))) ∧ (¬ (k_1 < (s1.length : Int)) → Q s1)
def slices_Compact_s_api_Addr_api_Addr_W (s1 : List T_api_Addr) (Q : (List T_api_Addr) → Prop) : Prop :=
 ((s1.length : Int) < 2 → Q s1) ∧ (¬ ((s1.length : Int) < 2) → loopW (fun (K_1 : Int → Prop) (s : Int) => slices_Compact_s_api_Addr_api_Addr_l1 s1 Q K_1 s) 1)
set_option maxHeartbeats 40000000 in
set_option maxRecDepth 100000 in
theorem slices_Compact_s_api_Addr_api_Addr_walk {F : Fz} {fr : List Ow} {h0 : Heap} (s1 : List T_api_Addr) (vs : Value) (hS : St F (Ow.own 30 17 e_api_Addr vs s1 :: fr) h0)  {Q : (List T_api_Addr) → Prop} (hM : slices_Compact_s_api_Addr_api_Addr_W s1 Q) :
  HC Try.prog 73 #[vs] h0 fun u h' => ∃ (F' : Fz) (r_1 : List T_api_Addr) (vr_1 : Value), u = vr_1 ∧ Kp F h0 F' h' ∧ St F' (Ow.own 30 17 e_api_Addr vr_1 r_1 :: fr) h' ∧ Q r_1 := by
 unfold slices_Compact_s_api_Addr_api_Addr_W at hM
 have hK := Kp.refl F h0
 refine HC.of_HW (n := 61) Try.func73 rfl rfl (Nat.le_of_ble_eq_true rfl) ?_
 refine HW.seq ?_
 refine HW.region ?_
 refine oA (.slice none 0 0) rfl rfl ?_
 refine HO.nil (thenQ_normal (?_))
 refine HW.seq ?_
 refine HW.seq ?_
 refine HW.region ?_
 refine oM (vs) rfl rfl ?_
 refine oV (.int .i64 (s1.length : Int)) (q_len ts_32 (shp (hS.own 0 rfl).slice) rfl rfl) rfl ?_
 refine oV (.bool (decide ((s1.length : Int) < 2))) (q_lss rfl rfl) rfl ?_
 refine HO.nil (thenQ_normal (?_))
 refine HW.cond (decide ((s1.length : Int) < 2)) rfl (fun c_1 => ?_) (fun c_1 => ?_)
 ·
  replace hM := hM.1 (of_decide_eq_true c_1)
  refine HW.seq ?_
  refine HW.region ?_
  refine oM (vs) rfl rfl ?_
  refine oA (vs) rfl rfl ?_
  refine HO.nil (thenQ_normal (?_))
  refine HW.ret (thenQ_ret (?_))
  refine ⟨.inr rfl, vs, res1 rfl (rt rfl), ?_⟩
  exact ⟨F, s1, vs, rfl, hK, hS, hM⟩
 ·
  replace hM := hM.2 (of_decide_eq_false c_1)
  refine HW.skip (thenQ_normal (?_))
  refine HW.seq ?_
  refine HW.seq ?_
  refine HW.region ?_
  refine oA (.int .i64 1) rfl rfl ?_
  refine HO.nil (thenQ_normal (?_))
  refine HW.block ?_
  obtain ⟨I_1, m_1, hI_1, hR_1⟩ := hM
  refine HW.loop (S := Int) (fun k_1 f h => ∃ (F' : Fz), f 0 = vs ∧ f 2 = .slice none 0 0 ∧ f 3 = .int .i64 k_1 ∧ Kp F h0 F' h ∧ St F' (Ow.own 30 17 e_api_Addr vs s1 :: fr) h ∧ I_1 k_1) m_1 1 ⟨F, rfl, rfl, rfl, hK, hS, hI_1⟩ ?_
  rintro k_1 f_1 h_1 ⟨F_1, e0, e2, e3, hK, hS, hI0⟩
  obtain ⟨K_1, hKe_1⟩ : ∃ K : Int → Prop, K = fun k_1' => I_1 k_1' ∧ m_1 k_1' < m_1 k_1 := ⟨_, rfl⟩
  have hM : slices_Compact_s_api_Addr_api_Addr_l1 s1 Q K_1 k_1 := by rw [hKe_1]; exact hR_1 k_1 hI0
  unfold slices_Compact_s_api_Addr_api_Addr_l1 at hM
  refine HW.fr [(0, vs), (2, .slice none 0 0), (3, .int .i64 k_1)] ⟨e0, e2, e3, trivial⟩ ?_
  refine HW.seq ?_
  refine HW.seq ?_
  refine HW.region ?_
  refine oM (.int .i64 k_1) rfl rfl ?_
  refine oM (vs) rfl rfl ?_
  refine oV (.int .i64 (s1.length : Int)) (q_len ts_32 (shp (hS.own 0 rfl).slice) rfl rfl) rfl ?_
  refine oV (.bool (decide (k_1 < (s1.length : Int)))) (q_lss rfl rfl) rfl ?_
  refine HO.nil (thenQ_normal (?_))
  refine HW.cond (decide (k_1 < (s1.length : Int))) rfl (fun c_2 => ?_) (fun c_2 => ?_)
  ·
   replace hM := hM.1 (of_decide_eq_true c_2)
   refine HW.skip (thenQ_normal (?_))
   refine HW.seq ?_
   refine HW.block ?_
   refine HW.seq ?_
   refine HW.regionA 10 mixed (fun h => (OwnIs h 0 30 17 e_api_Addr vs s1)) [] (by kernel_rfl) ?_
   refine HA.val (k := 0) (v := vs) rfl rfl (by kernel_rfl) (by kernel_rfl) (want_none) rfl (fun _ c303 => q_move rfl) ?_
   refine HA.val (k := 1) (v := .int .i64 k_1) rfl rfl (by kernel_rfl) (by kernel_rfl) (want_none) rfl (fun _ c303 => q_move rfl) ?_
   obtain ⟨ho_1, hM⟩ := hM
   refine HA.val (k := 2) (v := elemPtr 17 vs (k_1).toNat) rfl rfl (by kernel_rfl) (by kernel_rfl) (want_none) rfl (fun _ c303 => q_idx ts_32 c303.slice rfl rfl ho_1) ?_
   refine HA.val (k := 3) (v := .agg (e_api_Addr (gi s1 k_1)).toArray) rfl rfl (by kernel_rfl) (by kernel_rfl) (want_none) rfl (fun _ c303 => q_ldElemAgg (cs := (e_api_Addr (gi s1 k_1))) ta_30 c303.slice rfl ho_1 rfl) ?_
   refine HA.val (k := 4) (v := vs) rfl rfl (by kernel_rfl) (by kernel_rfl) (want_none) rfl (fun _ c303 => q_move rfl) ?_
   refine HA.val (k := 5) (v := .int .i64 k_1) rfl rfl (by kernel_rfl) (by kernel_rfl) (want_none) rfl (fun _ c303 => q_move rfl) ?_
   obtain ⟨ho_2, hM⟩ := hM
   refine HA.val (k := 6) (v := .int .i64 (k_1 - 1)) rfl rfl (by kernel_rfl) (by kernel_rfl) (want_none) rfl (fun _ c303 => q_subN _ rfl rfl rfl ho_2.1 ho_2.2) ?_
   obtain ⟨ho_3, hM⟩ := hM
   refine HA.val (k := 7) (v := elemPtr 17 vs (k_1 - 1).toNat) rfl rfl (by kernel_rfl) (by kernel_rfl) (want_none) rfl (fun _ c303 => q_idx ts_32 c303.slice rfl rfl ho_3) ?_
   refine HA.val (k := 8) (v := .agg (e_api_Addr (gi s1 (k_1 - 1))).toArray) rfl rfl (by kernel_rfl) (by kernel_rfl) (want_none) rfl (fun _ c303 => q_ldElemAgg (cs := (e_api_Addr (gi s1 (k_1 - 1)))) ta_30 c303.slice rfl ho_3 rfl) ?_
   refine HA.val (k := 9) (v := .bool (decide (((gi s1 k_1) : T_api_Addr) = (gi s1 (k_1 - 1))))) rfl rfl (by kernel_rfl) (by kernel_rfl) (want_none) rfl (fun _ c303 => q_eqlAgg (a := (gi s1 k_1)) (b := (gi s1 (k_1 - 1))) (fun a b w => teq_30 9997 a b w) (by kernel_rfl) rfl rfl rfl rfl) ?_
   refine HA.nil ⟨(hS.own 0 rfl), (Go.Wk.at_nil _ _)⟩ (by kernel_rfl) (thenQ_normal (?_))
   refine HW.cond (decide (((gi s1 k_1) : T_api_Addr) = (gi s1 (k_1 - 1)))) rfl (fun c_3 => ?_) (fun c_3 => ?_)
   ·
    replace hM := hM.1 (of_decide_eq_true c_3)
    refine HW.seq ?_
    refine HW.region ?_
    refine oM (vs) rfl rfl ?_
    refine oM (.int .i64 k_1) rfl rfl ?_
    obtain ⟨ho_4, hM⟩ := hM
    refine oV (cutV 17 vs (k_1).toNat ((s1.length : Int)).toNat) (q_slL ts_32 (hS.own 0 rfl).slice rfl rfl ho_4) rfl ?_
    refine oA (cutV 17 vs (k_1).toNat ((s1.length : Int)).toNat) rfl rfl ?_
    refine HO.nil (thenQ_normal (?_))
    refine HW.seq ?_
    refine HW.seq ?_
    refine HW.region ?_
    refine oA (.int .i64 1) rfl rfl ?_
    refine HO.nil (thenQ_normal (?_))
    refine HW.block ?_
    obtain ⟨I_2, m_2, hI_2, hR_2⟩ := hM
    refine HW.loop (S := List T_api_Addr × Int × Int) (fun s f h => match s with | (l_2, k_2, k2_1) => ∃ (F' : Fz), f 0 = vs ∧ f 2 = .slice none 0 0 ∧ f 3 = .int .i64 k_2 ∧ f 4 = cutV 17 vs (k_1).toNat ((s1.length : Int)).toNat ∧ f 5 = .int .i64 k2_1 ∧ Kp F h0 F' h ∧ St F' (Ow.own 30 17 e_api_Addr vs l_2 :: fr) h ∧ I_2 (l_2, k_2, k2_1)) m_2 (s1, k_1, 1) ⟨F_1, rfl, rfl, rfl, rfl, rfl, hK, hS, hI_2⟩ ?_
    rintro ⟨l_2, k_2, k2_1⟩ f_2 h_2 ⟨F_2, e0, e2, e3, e4, e5, hK, hS, hI0⟩
    obtain ⟨K_2, hKe_2⟩ : ∃ K : (List T_api_Addr) → Int → Int → Prop, K = fun l_2' k_2' k2_1' => I_2 (l_2', k_2', k2_1') ∧ m_2 (l_2', k_2', k2_1') < m_2 (l_2, k_2, k2_1) := ⟨_, rfl⟩
    have hM : slices_Compact_s_api_Addr_api_Addr_l3 s1 Q k_1 K_2 l_2 k_2 k2_1 := by rw [hKe_2]; exact hR_2 (l_2, k_2, k2_1) hI0
    unfold slices_Compact_s_api_Addr_api_Addr_l3 at hM
    refine HW.fr [(0, vs), (2, .slice none 0 0), (3, .int .i64 k_2), (4, cutV 17 vs (k_1).toNat ((s1.length : Int)).toNat), (5, .int .i64 k2_1)] ⟨e0, e2, e3, e4, e5, trivial⟩ ?_
    refine HW.seq ?_
    refine HW.seq ?_
    refine HW.region ?_
    refine oM (.int .i64 k2_1) rfl rfl ?_
    refine oM (cutV 17 vs (k_1).toNat ((s1.length : Int)).toNat) rfl rfl ?_
    obtain ⟨ho_5, hM⟩ := hM
    refine oV (.int .i64 ((cut l_2 k_1 (s1.length : Int)).length : Int)) (q_len ts_32 (shp (cutIs (hS.own 0 rfl).slice k_1 (s1.length : Int) ho_5.1 ho_5.2.1 ho_5.2.2)) rfl rfl) rfl ?_
    refine oV (.bool (decide (k2_1 < ((cut l_2 k_1 (s1.length : Int)).length : Int)))) (q_lss rfl rfl) rfl ?_
    refine HO.nil (thenQ_normal (?_))
    refine HW.cond (decide (k2_1 < ((cut l_2 k_1 (s1.length : Int)).length : Int))) rfl (fun c_4 => ?_) (fun c_4 => ?_)
    ·
     replace hM := hM.1 (of_decide_eq_true c_4)
     refine HW.skip (thenQ_normal (?_))
     refine HW.seq ?_
     refine HW.block ?_
     refine HW.seq ?_
     refine HW.regionA 10 mixed (fun h => (OwnIs h 0 30 17 e_api_Addr vs l_2)) [] (by kernel_rfl) ?_
     refine HA.val (k := 0) (v := cutV 17 vs (k_1).toNat ((s1.length : Int)).toNat) rfl rfl (by kernel_rfl) (by kernel_rfl) (want_none) rfl (fun _ c520 => q_move rfl) ?_
     refine HA.val (k := 1) (v := .int .i64 k2_1) rfl rfl (by kernel_rfl) (by kernel_rfl) (want_none) rfl (fun _ c520 => q_move rfl) ?_
     obtain ⟨ho_6, hM⟩ := hM
     refine HA.val (k := 2) (v := elemPtr 17 (cutV 17 vs (k_1).toNat ((s1.length : Int)).toNat) (k2_1).toNat) rfl rfl (by kernel_rfl) (by kernel_rfl) (want_none) rfl (fun _ c520 => q_idx ts_32 (cutIs c520.slice k_1 (s1.length : Int) ho_5.1 ho_5.2.1 ho_5.2.2) rfl rfl ho_6) ?_
     refine HA.val (k := 3) (v := .agg (e_api_Addr ((gi (cut l_2 k_1 (s1.length : Int)) k2_1).1, ((gi (cut l_2 k_1 (s1.length : Int)) k2_1).2))).toArray) rfl rfl (by kernel_rfl) (by kernel_rfl) (want_none) rfl (fun _ c520 => q_ldElemAgg (cs := (e_api_Addr ((gi (cut l_2 k_1 (s1.length : Int)) k2_1).1, ((gi (cut l_2 k_1 (s1.length : Int)) k2_1).2)))) ta_30 (cutIs c520.slice k_1 (s1.length : Int) ho_5.1 ho_5.2.1 ho_5.2.2) rfl ho_6 rfl) ?_
     refine HA.val (k := 4) (v := cutV 17 vs (k_1).toNat ((s1.length : Int)).toNat) rfl rfl (by kernel_rfl) (by kernel_rfl) (want_none) rfl (fun _ c520 => q_move rfl) ?_
     refine HA.val (k := 5) (v := .int .i64 k2_1) rfl rfl (by kernel_rfl) (by kernel_rfl) (want_none) rfl (fun _ c520 => q_move rfl) ?_
     obtain ⟨ho_7, hM⟩ := hM
     refine HA.val (k := 6) (v := .int .i64 (k2_1 - 1)) rfl rfl (by kernel_rfl) (by kernel_rfl) (want_none) rfl (fun _ c520 => q_subN _ rfl rfl rfl ho_7.1 ho_7.2) ?_
     obtain ⟨ho_8, hM⟩ := hM
     refine HA.val (k := 7) (v := elemPtr 17 (cutV 17 vs (k_1).toNat ((s1.length : Int)).toNat) (k2_1 - 1).toNat) rfl rfl (by kernel_rfl) (by kernel_rfl) (want_none) rfl (fun _ c520 => q_idx ts_32 (cutIs c520.slice k_1 (s1.length : Int) ho_5.1 ho_5.2.1 ho_5.2.2) rfl rfl ho_8) ?_
     refine HA.val (k := 8) (v := .agg (e_api_Addr ((gi (cut l_2 k_1 (s1.length : Int)) (k2_1 - 1)).1, ((gi (cut l_2 k_1 (s1.length : Int)) (k2_1 - 1)).2))).toArray) rfl rfl (by kernel_rfl) (by kernel_rfl) (want_none) rfl (fun _ c520 => q_ldElemAgg (cs := (e_api_Addr ((gi (cut l_2 k_1 (s1.length : Int)) (k2_1 - 1)).1, ((gi (cut l_2 k_1 (s1.length : Int)) (k2_1 - 1)).2)))) ta_30 (cutIs c520.slice k_1 (s1.length : Int) ho_5.1 ho_5.2.1 ho_5.2.2) rfl ho_8 rfl) ?_
     refine HA.val (k := 9) (v := .bool (!decide ((((gi (cut l_2 k_1 (s1.length : Int)) k2_1).1, ((gi (cut l_2 k_1 (s1.length : Int)) k2_1).2)) : T_api_Addr) = ((gi (cut l_2 k_1 (s1.length : Int)) (k2_1 - 1)).1, ((gi (cut l_2 k_1 (s1.length : Int)) (k2_1 - 1)).2))))) rfl rfl (by kernel_rfl) (by kernel_rfl) (want_none) rfl (fun _ c520 => q_neqAgg (a := ((gi (cut l_2 k_1 (s1.length : Int)) k2_1).1, ((gi (cut l_2 k_1 (s1.length : Int)) k2_1).2))) (b := ((gi (cut l_2 k_1 (s1.length : Int)) (k2_1 - 1)).1, ((gi (cut l_2 k_1 (s1.length : Int)) (k2_1 - 1)).2))) (fun a b w => teq_30 9997 a b w) (by kernel_rfl) rfl rfl rfl rfl) ?_
     refine HA.nil ⟨(hS.own 0 rfl), (Go.Wk.at_nil _ _)⟩ (by kernel_rfl) (thenQ_normal (?_))
     refine HW.cond (!decide ((((gi (cut l_2 k_1 (s1.length : Int)) k2_1).1, ((gi (cut l_2 k_1 (s1.length : Int)) k2_1).2)) : T_api_Addr) = ((gi (cut l_2 k_1 (s1.length : Int)) (k2_1 - 1)).1, ((gi (cut l_2 k_1 (s1.length : Int)) (k2_1 - 1)).2)))) rfl (fun c_5 => ?_) (fun c_5 => ?_)
     ·
      replace hM := hM.1 (nd_true c_5)
      refine HW.seq ?_
      refine HW.region ?_
      refine oM (vs) rfl rfl ?_
      refine oM (.int .i64 k_2) rfl rfl ?_
      refine oM (cutV 17 vs (k_1).toNat ((s1.length : Int)).toNat) rfl rfl ?_
      refine oM (.int .i64 k2_1) rfl rfl ?_
      refine oV (elemPtr 17 (cutV 17 vs (k_1).toNat ((s1.length : Int)).toNat) (k2_1).toNat) (q_idx ts_32 (cutIs (hS.own 0 rfl).slice k_1 (s1.length : Int) ho_5.1 ho_5.2.1 ho_5.2.2) rfl rfl ho_6) rfl ?_
      refine oV (.agg (e_api_Addr ((gi (cut l_2 k_1 (s1.length : Int)) k2_1).1, ((gi (cut l_2 k_1 (s1.length : Int)) k2_1).2))).toArray) (q_ldElemAgg (cs := (e_api_Addr ((gi (cut l_2 k_1 (s1.length : Int)) k2_1).1, ((gi (cut l_2 k_1 (s1.length : Int)) k2_1).2)))) ta_30 (cutIs (hS.own 0 rfl).slice k_1 (s1.length : Int) ho_5.1 ho_5.2.1 ho_5.2.2) rfl ho_6 rfl) rfl ?_
      obtain ⟨ho_9, hM⟩ := hM
      refine oV (elemPtr 17 vs (k_2).toNat) (q_idx ts_32 (hS.own 0 rfl).slice rfl rfl ho_9) rfl ?_
      refine HO.sto (want_none) rfl (st_storeElem (a := ((gi (cut l_2 k_1 (s1.length : Int)) k2_1).1, ((gi (cut l_2 k_1 (s1.length : Int)) k2_1).2))) (t := k_2) hS (i := 0) rfl ta_30 rfl ho_9 rfl rfl rfl (one_e_api_Addr _)) ?_
      rintro h_3 ⟨hS, hk⟩
      replace hK := hK.trans hk
      refine HO.nil (thenQ_normal (?_))
      refine HW.region ?_
      refine oM (.int .i64 k_2) rfl rfl ?_
      obtain ⟨ho_10, hM⟩ := hM
      refine oV (.int .i64 (k_2 + 1)) (q_addN _ rfl rfl rfl ho_10.1 ho_10.2) rfl ?_
      refine oA (.int .i64 (k_2 + 1)) rfl rfl ?_
      refine HO.nil (blockQ_normal (thenQ_normal (?_)))
      refine HW.region ?_
      refine oM (.int .i64 k2_1) rfl rfl ?_
      obtain ⟨ho_11, hM⟩ := hM
      refine oV (.int .i64 (k2_1 + 1)) (q_addN _ rfl rfl rfl ho_11.1 ho_11.2) rfl ?_
      refine oA (.int .i64 (k2_1 + 1)) rfl rfl ?_
      refine HO.nil (thenQ_normal (?_))
      rw [hKe_2] at hM
      exact ⟨(l_2.set (k_2).toNat ((gi (cut l_2 k_1 (s1.length : Int)) k2_1).1, ((gi (cut l_2 k_1 (s1.length : Int)) k2_1).2)), k_2 + 1, k2_1 + 1), ⟨F_2, rfl, rfl, rfl, rfl, rfl, hK, hS, hM.1⟩, hM.2⟩
     ·
      replace hM := hM.2 (nd_false c_5)
      refine HW.skip (blockQ_normal (thenQ_normal (?_)))
      refine HW.region ?_
      refine oM (.int .i64 k2_1) rfl rfl ?_
      obtain ⟨ho_12, hM⟩ := hM
      refine oV (.int .i64 (k2_1 + 1)) (q_addN _ rfl rfl rfl ho_12.1 ho_12.2) rfl ?_
      refine oA (.int .i64 (k2_1 + 1)) rfl rfl ?_
      refine HO.nil (thenQ_normal (?_))
      rw [hKe_2] at hM
      exact ⟨(l_2, k_2, k2_1 + 1), ⟨F_2, rfl, rfl, rfl, rfl, rfl, hK, hS, hM.1⟩, hM.2⟩
    ·
     replace hM := hM.2 (of_decide_eq_false c_4)
     refine HW.exit (thenQ_exit (thenQ_exit (blockQ_exit (thenQ_normal (?_)))))
     refine HW.seq ?_
     refine HW.region ?_
     refine oM (vs) rfl rfl ?_
     refine oM (.int .i64 k_2) rfl rfl ?_
     obtain ⟨ho_13, hM⟩ := hM
     refine oV (cutV 17 vs (k_2).toNat ((l_2.length : Int)).toNat) (q_slL ts_32 (hS.own 0 rfl).slice rfl rfl ho_13) rfl ?_
     obtain ⟨ho_14, hM⟩ := hM
     refine HO.eff (want_none) rfl (st_clearS (lo := k_2) (hi := (l_2.length : Int)) (z := .agg #[.bool false, .int .u8 0, .int .u8 0, .int .u8 0, .int .u8 0, .int .u8 0, .int .u8 0, .int .u8 0, .int .u8 0, .int .u8 0, .int .u8 0, .int .u8 0, .int .u8 0, .int .u8 0, .int .u8 0, .int .u8 0, .int .u8 0]) hS (i := 0) rfl te_32 tz_30 rfl (by intro u hu; simp [e_api_Addr, encI, encN, encB, encT, default] at hu; rcases hu with rfl | rfl | rfl | rfl | rfl | rfl | rfl | rfl | rfl | rfl | rfl | rfl | rfl | rfl | rfl | rfl | rfl <;> rfl) rfl ho_14 rfl) ?_
     rintro _ h_4 ⟨rfl, hS, hk⟩
     replace hK := hK.trans hk
     refine HO.nil (thenQ_normal (?_))
     refine HW.seq ?_
     refine HW.region ?_
     refine oM (vs) rfl rfl ?_
     refine oM (.int .i64 k_2) rfl rfl ?_
     obtain ⟨ho_15, hM⟩ := hM
     refine oV (cutV 17 vs (0 : Int).toNat (k_2).toNat) (q_slH ts_32 (hS.own 0 rfl).slice rfl rfl ho_15) rfl ?_
     refine oA (cutV 17 vs (0 : Int).toNat (k_2).toNat) rfl rfl ?_
     refine HO.nil (thenQ_normal (?_))
     refine HW.ret (blockQ_ret (thenQ_ret (thenQ_ret (blockQ_ret (thenQ_ret (?_))))))
     refine ⟨.inr rfl, cutV 17 vs (0 : Int).toNat (k_2).toNat, res1 rfl (rt rfl), ?_⟩
     replace hS := hS.shrink 0 rfl k_2 ho_15.1 ho_15.2
     exact ⟨F_2, cut (clr l_2 k_2 (l_2.length : Int)) 0 k_2, cutV 17 vs (0 : Int).toNat (k_2).toNat, rfl, hK, hS, hM⟩
   ·
    replace hM := hM.2 (of_decide_eq_false c_3)
    refine HW.skip (blockQ_normal (thenQ_normal (?_)))
    refine HW.region ?_
    refine oM (.int .i64 k_1) rfl rfl ?_
    obtain ⟨ho_16, hM⟩ := hM
    refine oV (.int .i64 (k_1 + 1)) (q_addN _ rfl rfl rfl ho_16.1 ho_16.2) rfl ?_
    refine oA (.int .i64 (k_1 + 1)) rfl rfl ?_
    refine HO.nil (thenQ_normal (?_))
    rw [hKe_1] at hM
    exact ⟨k_1 + 1, ⟨F_1, rfl, rfl, rfl, hK, hS, hM.1⟩, hM.2⟩
  ·
   replace hM := hM.2 (of_decide_eq_false c_2)
   refine HW.exit (thenQ_exit (thenQ_exit (blockQ_exit (thenQ_normal (?_)))))
   refine HW.seq ?_
   refine HW.region ?_
   refine oM (vs) rfl rfl ?_
   refine oA (vs) rfl rfl ?_
   refine HO.nil (thenQ_normal (?_))
   refine HW.ret (?_)
   refine ⟨.inr rfl, vs, res1 rfl (rt rfl), ?_⟩
   exact ⟨F_1, s1, vs, rfl, hK, hS, hM⟩

def srcs_Of_W (l : List T_api_Addr) (Q : (List T_api_Addr) → Prop) : Prop :=
 slices_Clone_s_api_Addr_api_Addr_W l (fun r_2 => ∃ cf_1 : T_api_Addr → Bool, (∀ x0, srcs_Of_1_W x0 (fun r => r = cf_1 x0)) ∧ (slices_DeleteFunc_s_api_Addr_api_Addr_W r_2 cf_1 (fun r_3 => ∃ cf_2 : T_api_Addr → T_api_Addr → Int, Swo cf_2 ∧ (∀ x y, addr_Cmp_W x y (fun r => r = cf_2 x y)) ∧ (r_3).length < 4611686018427387904 ∧ ∀ l_1 : List T_api_Addr, List.Perm l_1 r_3 → List.Pairwise (fun x y => ¬ cf_2 y x < 0) l_1 → (slices_Compact_s_api_Addr_api_Addr_W l_1 (fun r_4 => Q r_4)))))
set_option maxHeartbeats 40000000 in
set_option maxRecDepth 100000 in
theorem srcs_Of_walk {F : Fz} {fr : List Ow} {h0 : Heap} (l : List T_api_Addr) (vl : Value) (hS : St F (fr) h0) (hL_l : SliceF F h0 17 e_api_Addr vl l) {Q : (List T_api_Addr) → Prop} (hM : srcs_Of_W l Q) :
  HC Try.prog 36 #[vl] h0 fun u h' => ∃ (F' : Fz) (r_1 : List T_api_Addr) (vr_1 : Value), u = vr_1 ∧ Kp F h0 F' h' ∧ St F' (Ow.own 30 17 e_api_Addr vr_1 r_1 :: fr) h' ∧ (SliceF F' h' 17 e_api_Addr vl l) ∧ Q r_1 := by
 unfold srcs_Of_W at hM
 have hK := Kp.refl F h0
 refine HC.of_HW (n := 11) Try.func36 rfl rfl (Nat.le_of_ble_eq_true rfl) ?_
 refine HW.seq ?_
 refine HW.region ?_
 refine oA (.slice none 0 0) rfl rfl ?_
 refine HO.nil (thenQ_normal (?_))
 refine HW.seq ?_
 refine HW.region ?_
 refine oM (vl) rfl rfl ?_
 refine HO.call (want_none) rfl (ec en_69 rfl rfl) (slices_Clone_s_api_Addr_api_Addr_walk (fr := (fr)) l vl hS hL_l hM) ?_
 rintro vr_2 h_1 ⟨F_1, r_2, _, rfl, hk, hS, _, hM⟩
 replace hK := hK.trans hk
 replace hL_l := hL_l.kp hk
 obtain ⟨cf_1, hc_1, hM⟩ := hM
 have hF_1 : FnP Try.prog F_1 h_1 70 #[] #[] (fun x : T_api_Addr => [.agg (e_api_Addr x).toArray]) (fun x => .bool (cf_1 x)) := FnP.of en_70 (fun x h' hk_ => @HC.mono ⟨true⟩ _ _ _ _ _ _ (@srcs_Of_1_walk ⟨true⟩ (allF h') [] h' x  (St.init h')  (fun r => r = cf_1 x) (hc_1 x)) (fun u h'' ⟨F', r, hu, k_, _, hr⟩ => ⟨by rw [hu, hr], F', k_⟩))
 refine HO.call (want_none) rfl (ec en_68 rfl rfl) (slices_DeleteFunc_s_api_Addr_api_Addr_walk (fr := (fr)) r_2 cf_1 vr_2 70 (#[]) (#[]) hS hF_1 hM) ?_
 rintro vr_3 h_2 ⟨F_2, r_3, _, rfl, hk, hS, _, hM⟩
 replace hK := hK.trans hk
 replace hL_l := hL_l.kp hk
 refine oA (vr_3) rfl rfl ?_
 refine HO.nil (thenQ_normal (?_))
 refine HW.seq ?_
 refine HW.region ?_
 refine oM (vr_3) rfl rfl ?_
 obtain ⟨cf_2, ho_1, hc_2, hM⟩ := hM
 obtain ⟨ho_2, hM⟩ := hM
 refine HO.call (want_none) rfl (ec en_71 rfl rfl) (sortFunc_own Try.sortAddr (by decide) (fun w => by kernel_rfl) (fun w => by kernel_rfl) (enc := e_api_Addr) (fun _ => rfl) (by intro a u hu; simp [e_api_Addr, encI, encN, encB, encT] at hu; rcases hu with rfl | rfl | rfl | rfl | rfl | rfl | rfl | rfl | rfl | rfl | rfl | rfl | rfl | rfl | rfl | rfl | rfl <;> rfl) ho_1 hS (fnP2 (enc := e_api_Addr) en_72 (fun x y h' => @addr_Cmp_walk ⟨true⟩ (allF h') [] h' x y (St.init h') (fun r => r = cf_2 x y) (hc_2 x y))) ho_2) ?_
 rintro _ h_3 ⟨l_1, rfl, hk, hS, hp_1, hs_1⟩
 replace hM := hM l_1 hp_1 hs_1
 replace hK := hK.trans hk
 replace hL_l := hL_l.kp hk
 refine HO.nil (thenQ_normal (?_))
 refine HW.seq ?_
 refine HW.region ?_
 refine oM (vr_3) rfl rfl ?_
 refine HO.call (want_none) rfl (ec en_73 rfl rfl) (slices_Compact_s_api_Addr_api_Addr_walk (fr := (fr)) l_1 vr_3 hS hM) ?_
 rintro vr_4 h_4 ⟨F_3, r_4, _, rfl, hk, hS, hM⟩
 replace hK := hK.trans hk
 replace hL_l := hL_l.kp hk
 refine oA (vr_4) rfl rfl ?_
 refine HO.nil (thenQ_normal (?_))
 refine HW.ret (?_)
 refine ⟨.inr rfl, vr_4, res1 rfl (rt rfl), ?_⟩
 exact ⟨F_3, r_4, vr_4, rfl, hK, hS, hL_l, hM⟩

def addr_group_W (a : T_api_Addr) (Q : Bool → Prop) : Prop :=
 (a.1 = true → Q (decide ((b8 a.2 0) = 255))) ∧ (a.1 = false → Q (decide (((b8 a.2 0).fdiv (2 ^ (min (4 : Int).toNat IntKind.u8.bits))) = 14)))
set_option maxHeartbeats 40000000 in
set_option maxRecDepth 100000 in
theorem addr_group_walk {F : Fz} {fr : List Ow} {h0 : Heap} (a : T_api_Addr) (hS : St F (fr) h0)  {Q : Bool → Prop} (hM : addr_group_W a Q) :
  HC Try.prog 75 #[.agg (e_api_Addr a).toArray] h0 fun u h' => ∃ (F' : Fz) (r_1 : Bool), u = .bool r_1 ∧ Kp F h0 F' h' ∧ St F' (fr) h' ∧ Q r_1 := by
 unfold addr_group_W at hM
 have hK := Kp.refl F h0
 refine HC.of_HW (n := 14) Try.func75 rfl rfl (Nat.le_of_ble_eq_true rfl) ?_
 refine HW.seq ?_
 refine HW.region ?_
 refine HO.eff (want_none) rfl (st_box (c := (e_api_Addr a).toArray) (k' := 17) hS rfl rfl) ?_
 rintro _ h_1 ⟨b_1, rfl, hS, hk⟩
 replace hK := hK.trans hk
 refine oA (.bool false) rfl rfl ?_
 refine HO.nil (thenQ_normal (?_))
 refine HW.seq ?_
 refine HW.seq ?_
 refine HW.region ?_
 refine oV (.pointer (some ⟨b_1, 0, none⟩)) (q_fieldAddr fa_30_0 rfl rfl) rfl ?_
 refine oV (.bool a.1) (q_load to_4 rfl (Blk.cell (hS.box 0 rfl) rfl)) rfl ?_
 refine HO.nil (thenQ_normal (?_))
 refine HW.cond a.1 rfl (fun c_1 => ?_) (fun c_1 => ?_)
 ·
  replace hM := hM.1 c_1
  refine HW.seq ?_
  refine HW.region ?_
  refine oV (.pointer (some ⟨b_1, 1, none⟩)) (q_fieldAddr fa_30_1 rfl rfl) rfl ?_
  refine oV (.pointer (some ⟨b_1, 1, none⟩)) (q_idxA (o := 1) (t := 0) tr_28 rfl rfl ⟨by decide, by decide⟩) rfl ?_
  refine oV (.int .u8 (b8 a.2 0)) (q_load to_5 rfl (Blk.cell (hS.box 0 rfl) rfl)) rfl ?_
  refine oV (.bool (decide ((b8 a.2 0) = 255))) (q_eql rfl rfl) rfl ?_
  refine oA (.bool (decide ((b8 a.2 0) = 255))) rfl rfl ?_
  refine HO.nil (thenQ_normal (?_))
  refine HW.ret (thenQ_ret (?_))
  refine ⟨.inr rfl, .bool (decide ((b8 a.2 0) = 255)), res1 rfl (rt rfl), ?_⟩
  replace hS : St F (fr) h_1 := hS.perm2 [] 1 rfl rfl
  exact ⟨F, decide ((b8 a.2 0) = 255), rfl, hK, hS, hM⟩
 ·
  replace hM := hM.2 c_1
  refine HW.skip (thenQ_normal (?_))
  refine HW.seq ?_
  refine HW.region ?_
  refine oV (.pointer (some ⟨b_1, 1, none⟩)) (q_fieldAddr fa_30_1 rfl rfl) rfl ?_
  refine oV (.pointer (some ⟨b_1, 1, none⟩)) (q_idxA (o := 1) (t := 0) tr_28 rfl rfl ⟨by decide, by decide⟩) rfl ?_
  refine oV (.int .u8 (b8 a.2 0)) (q_load to_5 rfl (Blk.cell (hS.box 0 rfl) rfl)) rfl ?_
  refine oV (.int .u8 ((b8 a.2 0).fdiv (2 ^ (min (4 : Int).toNat IntKind.u8.bits)))) (q_shr rfl rfl (by decide) rfl) rfl ?_
  refine oV (.bool (decide (((b8 a.2 0).fdiv (2 ^ (min (4 : Int).toNat IntKind.u8.bits))) = 14))) (q_eql rfl rfl) rfl ?_
  refine oA (.bool (decide (((b8 a.2 0).fdiv (2 ^ (min (4 : Int).toNat IntKind.u8.bits))) = 14))) rfl rfl ?_
  refine HO.nil (thenQ_normal (?_))
  refine HW.ret (?_)
  refine ⟨.inr rfl, .bool (decide (((b8 a.2 0).fdiv (2 ^ (min (4 : Int).toNat IntKind.u8.bits))) = 14)), res1 rfl (rt rfl), ?_⟩
  replace hS : St F (fr) h_1 := hS.perm2 [] 1 rfl rfl
  exact ⟨F, decide (((b8 a.2 0).fdiv (2 ^ (min (4 : Int).toNat IntKind.u8.bits))) = 14), rfl, hK, hS, hM⟩

def addr_Group_W (a : T_api_Addr) (Q : Bool → Prop) : Prop :=
 addr_group_W a (fun r_2 => Q r_2)
set_option maxHeartbeats 40000000 in
set_option maxRecDepth 100000 in
theorem addr_Group_walk {F : Fz} {fr : List Ow} {h0 : Heap} (a : T_api_Addr) (hS : St F (fr) h0)  {Q : Bool → Prop} (hM : addr_Group_W a Q) :
  HC Try.prog 38 #[.agg (e_api_Addr a).toArray] h0 fun u h' => ∃ (F' : Fz) (r_1 : Bool), u = .bool r_1 ∧ Kp F h0 F' h' ∧ St F' (fr) h' ∧ Q r_1 := by
 unfold addr_Group_W at hM
 have hK := Kp.refl F h0
 refine HC.of_HW (n := 5) Try.func38 rfl rfl (Nat.le_of_ble_eq_true rfl) ?_
 refine HW.seq ?_
 refine HW.region ?_
 refine HO.eff (want_none) rfl (st_box (c := (e_api_Addr a).toArray) (k' := 17) hS rfl rfl) ?_
 rintro _ h_1 ⟨b_1, rfl, hS, hk⟩
 replace hK := hK.trans hk
 refine oA (.bool false) rfl rfl ?_
 refine HO.nil (thenQ_normal (?_))
 refine HW.seq ?_
 refine HW.region ?_
 refine oV (.agg (e_api_Addr a).toArray) (q_loadAgg (cs := (e_api_Addr a)) ta_30 rfl rfl (Blk.cells (k := 17) (hS.box 0 rfl) rfl)) rfl ?_
 refine HO.call (want_none) rfl (ec en_75 rfl rfl) (addr_group_walk (fr := (Ow.box b_1 30 (e_api_Addr a).toArray :: fr)) a hS hM) ?_
 rintro _ h_2 ⟨F_1, r_2, rfl, hk, hS, hM⟩
 replace hK := hK.trans hk
 refine oA (.bool r_2) rfl rfl ?_
 refine HO.nil (thenQ_normal (?_))
 refine HW.ret (?_)
 refine ⟨.inr rfl, .bool r_2, res1 rfl (rt rfl), ?_⟩
 replace hS : St F_1 (fr) h_2 := hS.perm2 [] 1 rfl rfl
 exact ⟨F_1, r_2, rfl, hK, hS, hM⟩

def query_Queries_of_W (q_now : Int) (q_at_at : List (Str × Int)) (q_first : Int) (q_open : List (T_api_Addr × (Nat × Nat) × T_query_left)) (g : T_api_Addr) (Q0 : Int → (List (Str × Int)) → Int → (List (T_api_Addr × (Nat × Nat) × T_query_left)) → Prop) (Q1 : Int → (List (T_api_Addr × Int)) → Int → (List (Str × Int)) → Int → (List (T_api_Addr × (Nat × Nat) × T_query_left)) → Prop) : Prop :=
 (((mget q_open g).isSome) = true → Q1 (((mget0 q_open g).2).1) (((mget0 q_open g).2).2) q_now q_at_at q_first q_open) ∧ (((mget q_open g).isSome) = false → (64 ≤ (q_open.length : Int) → Q0 q_now q_at_at q_first q_open) ∧ (¬ (64 ≤ (q_open.length : Int)) → ∀ b_3 : Nat, (∀ r_2 : Nat, (Q1 0 [] q_now q_at_at q_first (mset q_open g ((b_3, r_2), (default : T_query_left)))))))
set_option maxHeartbeats 40000000 in
set_option maxRecDepth 100000 in
theorem query_Queries_of_walk {F : Fz} {fr : List Ow} {h0 : Heap} (q_now : Int) (q_at_at : List (Str × Int)) (q_first : Int) (q_open : List (T_api_Addr × (Nat × Nat) × T_query_left)) (g : T_api_Addr) (bq : Nat) (bq_at : Nat) (rq_at_at : Nat) (rq_open : Nat) (hS : St F (Ow.box bq 73 #[.int .i64 q_now, .pointer (some ⟨bq_at, 0, none⟩), .int .i64 q_first, .map (some rq_open)] :: Ow.box bq_at 110 #[.map (some rq_at_at)] :: Ow.map rq_at_at kT kI q_at_at :: Ow.pm rq_open (fun (x : T_api_Addr) => .agg (e_api_Addr x).toArray) pv_query_left th_query_left q_open none :: fr) h0)  {Q0 : Int → (List (Str × Int)) → Int → (List (T_api_Addr × (Nat × Nat) × T_query_left)) → Prop} {Q1 : Int → (List (T_api_Addr × Int)) → Int → (List (Str × Int)) → Int → (List (T_api_Addr × (Nat × Nat) × T_query_left)) → Prop} (hM : query_Queries_of_W q_now q_at_at q_first q_open g Q0 Q1) :
  HC Try.prog 39 #[.pointer (some ⟨bq, 0, none⟩), .agg (e_api_Addr g).toArray] h0 fun u h' => (∃ (F' : Fz) (q_now_1 : Int) (qm_1 : List (Str × Int)) (q_first_1 : Int) (qm_2 : List (T_api_Addr × (Nat × Nat) × T_query_left)), u = .pointer none ∧ Kp F h0 F' h' ∧ St F' (Ow.box bq 73 #[.int .i64 q_now_1, .pointer (some ⟨bq_at, 0, none⟩), .int .i64 q_first_1, .map (some rq_open)] :: Ow.box bq_at 110 #[.map (some rq_at_at)] :: Ow.map rq_at_at kT kI qm_1 :: Ow.pm rq_open (fun (x : T_api_Addr) => .agg (e_api_Addr x).toArray) pv_query_left th_query_left qm_2 none :: fr) h' ∧ Q0 q_now_1 qm_1 q_first_1 qm_2) ∨ (∃ (F' : Fz) (r_0_1 : Int) (r_1_1 : List (T_api_Addr × Int)) (q_now_2 : Int) (qm_3 : List (Str × Int)) (q_first_2 : Int) (qm_4 : List (T_api_Addr × (Nat × Nat) × T_query_left)) (b_1 : Nat) (r_1 : Nat), u = .pointer (some ⟨b_1, 0, none⟩) ∧ Kp F h0 F' h' ∧ St F' (Ow.box b_1 79 #[.int .i64 r_0_1, .map (some r_1)] :: Ow.map r_1 (fun (x : T_api_Addr) => .agg (e_api_Addr x).toArray) kI r_1_1 :: Ow.box bq 73 #[.int .i64 q_now_2, .pointer (some ⟨bq_at, 0, none⟩), .int .i64 q_first_2, .map (some rq_open)] :: Ow.box bq_at 110 #[.map (some rq_at_at)] :: Ow.map rq_at_at kT kI qm_3 :: Ow.pm rq_open (fun (x : T_api_Addr) => .agg (e_api_Addr x).toArray) pv_query_left th_query_left qm_4 (some (g, (b_1, r_1))) :: fr) h' ∧ Q1 r_0_1 r_1_1 q_now_2 qm_3 q_first_2 qm_4) := by
 unfold query_Queries_of_W at hM
 have hK := Kp.refl F h0
 refine HC.of_HW (n := 34) Try.func39 rfl rfl (Nat.le_of_ble_eq_true rfl) ?_
 refine HW.seq ?_
 refine HW.region ?_
 refine HO.eff (want_none) rfl (st_box (c := (e_api_Addr g).toArray) (k' := 17) hS rfl rfl) ?_
 rintro _ h_1 ⟨b_2, rfl, hS, hk⟩
 replace hK := hK.trans hk
 refine oA (.pointer none) rfl rfl ?_
 refine HO.nil (thenQ_normal (?_))
 refine HW.seq ?_
 refine HW.seq ?_
 refine HW.regionA 7 mixed (fun h => (Blk h b_2 (.cells (e_api_Addr g).toArray 30 (0, 0))) ∧ (Blk h bq (.cells #[.int .i64 q_now, .pointer (some ⟨bq_at, 0, none⟩), .int .i64 q_first, .map (some rq_open)] 73 (0, 0))) ∧ (Blk h bq_at (.cells #[.map (some rq_at_at)] 110 (0, 0))) ∧ (MapIs h rq_at_at kT kI q_at_at) ∧ (MapIs h rq_open (fun (x : T_api_Addr) => .agg (e_api_Addr x).toArray) (pmV (β := T_query_left) pv_query_left) q_open)) [] (by kernel_rfl) ?_
 refine HA.val (k := 0) (v := .pointer (some ⟨bq, 0, none⟩)) rfl rfl (by kernel_rfl) (by kernel_rfl) (want_none) rfl (fun _ ⟨c223, c1, c2, c3, c4⟩ => q_move rfl) ?_
 refine HA.val (k := 1) (v := .pointer (some ⟨bq, 0, none⟩)) rfl rfl (by kernel_rfl) (by kernel_rfl) (want_none) rfl (fun _ ⟨c223, c1, c2, c3, c4⟩ => q_nilCheck rfl) ?_
 refine HA.val (k := 2) (v := .pointer (some ⟨bq, 3, none⟩)) rfl rfl (by kernel_rfl) (by kernel_rfl) (want_none) rfl (fun _ ⟨c223, c1, c2, c3, c4⟩ => q_fieldAddr fa_73_3 rfl rfl) ?_
 refine HA.val (k := 3) (v := .map (some rq_open)) rfl rfl (by kernel_rfl) (by kernel_rfl) (want_none) rfl (fun _ ⟨c223, c1, c2, c3, c4⟩ => q_load to_71 rfl (Blk.cell c1 rfl)) ?_
 refine HA.val (k := 4) (v := .agg (e_api_Addr g).toArray) rfl rfl (by kernel_rfl) (by kernel_rfl) (want_none) rfl (fun _ ⟨c223, c1, c2, c3, c4⟩ => q_loadAgg (cs := (e_api_Addr g)) ta_30 rfl rfl (Blk.cells (k := 17) c223 rfl)) ?_
 rcases Bool.eq_false_or_eq_true ((mget q_open g).isSome) with c_1 | c_1
 ·
  replace hM := hM.1 c_1
  refine HA.val (k := 5) (v := .pointer (some ⟨(mget0 q_open g).1.1, 0, none⟩)) rfl rfl (by kernel_rfl) (by kernel_rfl) (want_none) rfl (fun _ ⟨c223, c1, c2, c3, c4⟩ => q_pmYes (k := g) ka_30 tmk_71 c4 rfl rfl (pm_some c_1)) ?_
  replace hS : St F (Ow.box (mget0 q_open g).1.1 79 #[.int .i64 (((mget0 q_open g).2).1), .map (some ((mget0 q_open g).1.2))] :: Ow.map (mget0 q_open g).1.2 (fun (x : T_api_Addr) => .agg (e_api_Addr x).toArray) kI (((mget0 q_open g).2).2) :: Ow.box b_2 30 (e_api_Addr g).toArray :: Ow.box bq 73 #[.int .i64 q_now, .pointer (some ⟨bq_at, 0, none⟩), .int .i64 q_first, .map (some rq_open)] :: Ow.box bq_at 110 #[.map (some rq_at_at)] :: Ow.map rq_at_at kT kI q_at_at :: Ow.pm rq_open (fun (x : T_api_Addr) => .agg (e_api_Addr x).toArray) pv_query_left th_query_left q_open (some (g, ((mget0 q_open g).1.1, (mget0 q_open g).1.2))) :: fr) h_1 := (St.pmTake (th := th_query_left) hS 4 rfl (pm_some c_1)).unbm
  refine HA.val (k := 6) (v := .pointer (some ⟨(mget0 q_open g).1.1, 0, none⟩)) rfl rfl (by kernel_rfl) (by kernel_rfl) (want_none) rfl (fun _ ⟨c223, c1, c2, c3, c4⟩ => q_assign rfl) ?_
  refine HA.nil ⟨⟨(hS.box 2 rfl), (hS.box 3 rfl), (hS.box 4 rfl), (hS.mp 5 rfl), (hS.pmi 6 rfl).map⟩, (Go.Wk.at_nil _ _)⟩ (by kernel_rfl) (thenQ_normal (?_))
  refine HW.seq ?_
  refine HW.region ?_
  refine oM (.pointer (some ⟨(mget0 q_open g).1.1, 0, none⟩)) rfl rfl ?_
  refine oV (.bool true) (q_neqPnil Try.underlying75 rfl rfl rfl) rfl ?_
  refine oM (.bool true) rfl rfl ?_
  refine HO.past (past_some rfl rfl) rfl ?_
  refine HO.past (past_some rfl rfl) rfl ?_
  refine HO.past (past_some rfl rfl) rfl ?_
  refine HO.past (past_some rfl rfl) rfl ?_
  refine HO.past (past_some rfl rfl) rfl ?_
  refine HO.past (past_some rfl rfl) rfl ?_
  refine oV (.bool true) (q_pick rfl rfl) rfl ?_
  refine HO.nil (thenQ_normal (?_))
  refine HW.condT rfl ?_
  refine HW.seq ?_
  refine HW.region ?_
  refine oM (.pointer (some ⟨(mget0 q_open g).1.1, 0, none⟩)) rfl rfl ?_
  refine oA (.pointer (some ⟨(mget0 q_open g).1.1, 0, none⟩)) rfl rfl ?_
  refine HO.nil (thenQ_normal (?_))
  refine HW.ret (thenQ_ret (?_))
  refine ⟨.inr rfl, .pointer (some ⟨(mget0 q_open g).1.1, 0, none⟩), res1 rfl (rt rfl), ?_⟩
  replace hS : St F (Ow.box (mget0 q_open g).1.1 79 #[.int .i64 (((mget0 q_open g).2).1), .map (some ((mget0 q_open g).1.2))] :: Ow.map (mget0 q_open g).1.2 (fun (x : T_api_Addr) => .agg (e_api_Addr x).toArray) kI (((mget0 q_open g).2).2) :: Ow.box bq 73 #[.int .i64 q_now, .pointer (some ⟨bq_at, 0, none⟩), .int .i64 q_first, .map (some rq_open)] :: Ow.box bq_at 110 #[.map (some rq_at_at)] :: Ow.map rq_at_at kT kI q_at_at :: Ow.pm rq_open (fun (x : T_api_Addr) => .agg (e_api_Addr x).toArray) pv_query_left th_query_left q_open (some (g, ((mget0 q_open g).1.1, (mget0 q_open g).1.2))) :: fr) h_1 := hS.perm2 [0, 1, 3, 4, 5, 6] 7 rfl rfl
  exact .inr ⟨F, ((mget0 q_open g).2).1, ((mget0 q_open g).2).2, q_now, q_at_at, q_first, q_open, (mget0 q_open g).1.1, (mget0 q_open g).1.2, rfl, hK, hS, hM⟩
 ·
  replace hM := hM.2 c_1
  refine HA.val (k := 5) (v := .pointer none) rfl rfl (by kernel_rfl) (by kernel_rfl) (want_none) rfl (fun _ ⟨c223, c1, c2, c3, c4⟩ => q_pmNo (k := g) ka_30 tmk_71 c4 rfl rfl (pm_none c_1)) ?_
  refine HA.val (k := 6) (v := .pointer none) rfl rfl (by kernel_rfl) (by kernel_rfl) (want_none) rfl (fun _ ⟨c223, c1, c2, c3, c4⟩ => q_assign rfl) ?_
  refine HA.nil ⟨⟨(hS.box 0 rfl), (hS.box 1 rfl), (hS.box 2 rfl), (hS.mp 3 rfl), (hS.pmi 4 rfl).map⟩, (Go.Wk.at_nil _ _)⟩ (by kernel_rfl) (thenQ_normal (?_))
  refine HW.seq ?_
  refine HW.region ?_
  refine oM (.pointer none) rfl rfl ?_
  refine oV (.bool false) (q_neqPnil Try.underlying75 rfl rfl rfl) rfl ?_
  refine oM (.bool false) rfl rfl ?_
  refine HO.val (v := .pointer (some ⟨bq, 0, none⟩)) (want_some rfl rfl) rfl (q_move rfl) ?_
  refine HO.val (v := .pointer (some ⟨bq, 0, none⟩)) (want_some rfl rfl) rfl (q_nilCheck rfl) ?_
  refine HO.val (v := .pointer (some ⟨bq, 3, none⟩)) (want_some rfl rfl) rfl (q_fieldAddr fa_73_3 rfl rfl) ?_
  refine HO.val (v := .map (some rq_open)) (want_some rfl rfl) rfl (q_load to_71 rfl (Blk.cell (hS.box 1 rfl) rfl)) ?_
  refine HO.val (v := .int .i64 (q_open.length : Int)) (want_some rfl rfl) rfl (q_lenMap Try.underlying71 (hS.pmi 4 rfl).map rfl rfl) ?_
  refine HO.val (v := .bool (decide (64 ≤ (q_open.length : Int)))) (want_some rfl rfl) rfl (q_geq rfl rfl) ?_
  refine oV (.bool (decide (64 ≤ (q_open.length : Int)))) (q_pick rfl rfl) rfl ?_
  refine HO.nil (thenQ_normal (?_))
  refine HW.cond (decide (64 ≤ (q_open.length : Int))) rfl (fun c_2 => ?_) (fun c_2 => ?_)
  ·
   replace hM := hM.1 (of_decide_eq_true c_2)
   refine HW.seq ?_
   refine HW.region ?_
   refine oM (.pointer none) rfl rfl ?_
   refine oA (.pointer none) rfl rfl ?_
   refine HO.nil (thenQ_normal (?_))
   refine HW.ret (thenQ_ret (?_))
   refine ⟨.inr rfl, .pointer none, res1 rfl (rt rfl), ?_⟩
   replace hS : St F (Ow.box bq 73 #[.int .i64 q_now, .pointer (some ⟨bq_at, 0, none⟩), .int .i64 q_first, .map (some rq_open)] :: Ow.box bq_at 110 #[.map (some rq_at_at)] :: Ow.map rq_at_at kT kI q_at_at :: Ow.pm rq_open (fun (x : T_api_Addr) => .agg (e_api_Addr x).toArray) pv_query_left th_query_left q_open none :: fr) h_1 := hS.perm2 [1, 2, 3, 4] 5 rfl rfl
   exact .inl ⟨F, q_now, q_at_at, q_first, q_open, rfl, hK, hS, hM⟩
  ·
   replace hM := hM.2 (of_decide_eq_false c_2)
   refine HW.skip (thenQ_normal (?_))
   refine HW.seq ?_
   refine HW.region ?_
   refine HO.eff (want_none) rfl (st_makeMap (κ := T_api_Addr) (ν := Int) (fun (x : T_api_Addr) => .agg (e_api_Addr x).toArray) kI hS) ?_
   rintro _ h_2 ⟨r_2, rfl, hS, hk⟩
   replace hK := hK.trans hk
   refine oV (.agg #[.int .i64 0, .map (some r_2)]) (q_build tp_79 rfl) rfl ?_
   refine HO.eff (want_none) rfl (st_box (c := #[.int .i64 0, .map (some r_2)]) (k' := 2) hS rfl rfl) ?_
   rintro _ h_3 ⟨b_3, rfl, hS, hk⟩
   replace hK := hK.trans hk
   refine oA (.pointer (some ⟨b_3, 0, none⟩)) rfl rfl ?_
   refine HO.nil (thenQ_normal (?_))
   refine HW.seq ?_
   refine HW.regionA 7 mixed (fun h => (Blk h b_2 (.cells (e_api_Addr g).toArray 30 (0, 0))) ∧ (Blk h bq (.cells #[.int .i64 q_now, .pointer (some ⟨bq_at, 0, none⟩), .int .i64 q_first, .map (some rq_open)] 73 (0, 0)))) [] (by kernel_rfl) ?_
   refine HA.val (k := 0) (v := .pointer (some ⟨bq, 0, none⟩)) rfl rfl (by kernel_rfl) (by kernel_rfl) (want_none) rfl (fun _ ⟨c223, c1⟩ => q_move rfl) ?_
   refine HA.val (k := 1) (v := .pointer (some ⟨bq, 0, none⟩)) rfl rfl (by kernel_rfl) (by kernel_rfl) (want_none) rfl (fun _ ⟨c223, c1⟩ => q_nilCheck rfl) ?_
   refine HA.val (k := 2) (v := .pointer (some ⟨bq, 3, none⟩)) rfl rfl (by kernel_rfl) (by kernel_rfl) (want_none) rfl (fun _ ⟨c223, c1⟩ => q_fieldAddr fa_73_3 rfl rfl) ?_
   refine HA.val (k := 3) (v := .map (some rq_open)) rfl rfl (by kernel_rfl) (by kernel_rfl) (want_none) rfl (fun _ ⟨c223, c1⟩ => q_load to_71 rfl (Blk.cell c1 rfl)) ?_
   refine HA.val (k := 4) (v := .agg (e_api_Addr g).toArray) rfl rfl (by kernel_rfl) (by kernel_rfl) (want_none) rfl (fun _ ⟨c223, c1⟩ => q_loadAgg (cs := (e_api_Addr g)) ta_30 rfl rfl (Blk.cells (k := 17) c223 rfl)) ?_
   refine HA.val (k := 5) (v := .pointer (some ⟨b_3, 0, none⟩)) rfl rfl (by kernel_rfl) (by kernel_rfl) (want_none) rfl (fun _ ⟨c223, c1⟩ => q_move rfl) ?_
   refine HA.one (k := 6) ⟨⟨(hS.box 2 rfl), (hS.box 3 rfl)⟩, (Go.Wk.at_nil _ _)⟩ (by kernel_rfl) ?_
   replace hM := hM b_3
   replace hM := hM r_2
   refine HS.sto rfl (want_none) rfl (st_pmSet (k := g) (j := (b_3, r_2)) (y0 := (default : T_query_left)) ka_30 tmk_71 hS (i := 6) rfl rfl rfl rfl) ?_
   rintro h_4 ⟨hS, hk⟩
   replace hK := hK.trans hk
   refine HA.nil ⟨⟨(hS.box 2 rfl), (hS.box 3 rfl)⟩, (Go.Wk.at_nil _ _)⟩ (by kernel_rfl) (thenQ_normal (?_))
   refine HW.seq ?_
   refine HW.region ?_
   refine oM (.pointer (some ⟨b_3, 0, none⟩)) rfl rfl ?_
   refine oA (.pointer (some ⟨b_3, 0, none⟩)) rfl rfl ?_
   refine HO.nil (thenQ_normal (?_))
   refine HW.ret (?_)
   refine ⟨.inr rfl, .pointer (some ⟨b_3, 0, none⟩), res1 rfl (rt rfl), ?_⟩
   replace hS : St F (Ow.box b_3 79 #[.int .i64 0, .map (some r_2)] :: Ow.map r_2 (fun (x : T_api_Addr) => .agg (e_api_Addr x).toArray) kI ([] : List (T_api_Addr × Int)) :: Ow.box bq 73 #[.int .i64 q_now, .pointer (some ⟨bq_at, 0, none⟩), .int .i64 q_first, .map (some rq_open)] :: Ow.box bq_at 110 #[.map (some rq_at_at)] :: Ow.map rq_at_at kT kI q_at_at :: Ow.pm rq_open (fun (x : T_api_Addr) => .agg (e_api_Addr x).toArray) pv_query_left th_query_left (mset q_open g ((b_3, r_2), (default : T_query_left))) (some (g, (b_3, r_2))) :: fr) h_4 := hS.perm2 [0, 1, 3, 4, 5, 6] 7 rfl rfl
   exact .inr ⟨F, 0, [], q_now, q_at_at, q_first, mset q_open g ((b_3, r_2), (default : T_query_left)), b_3, r_2, rfl, hK, hS, hM⟩

def addr_Bytes_W (a : T_api_Addr) (Q : Str → Prop) : Prop :=
 addr_bytes_W a (fun r_2 => Q r_2)
set_option maxHeartbeats 40000000 in
set_option maxRecDepth 100000 in
theorem addr_Bytes_walk {F : Fz} {fr : List Ow} {h0 : Heap} (a : T_api_Addr) (hS : St F (fr) h0)  {Q : Str → Prop} (hM : addr_Bytes_W a Q) :
  HC Try.prog 76 #[.agg (e_api_Addr a).toArray] h0 fun u h' => ∃ (F' : Fz) (r_1 : Str), u = .string (bs r_1) ∧ Kp F h0 F' h' ∧ St F' (fr) h' ∧ Q r_1 := by
 unfold addr_Bytes_W at hM
 have hK := Kp.refl F h0
 refine HC.of_HW (n := 5) Try.func76 rfl rfl (Nat.le_of_ble_eq_true rfl) ?_
 refine HW.seq ?_
 refine HW.region ?_
 refine HO.eff (want_none) rfl (st_box (c := (e_api_Addr a).toArray) (k' := 17) hS rfl rfl) ?_
 rintro _ h_1 ⟨b_1, rfl, hS, hk⟩
 replace hK := hK.trans hk
 refine oA (.string (bs [])) rfl rfl ?_
 refine HO.nil (thenQ_normal (?_))
 refine HW.seq ?_
 refine HW.region ?_
 refine oV (.agg (e_api_Addr a).toArray) (q_loadAgg (cs := (e_api_Addr a)) ta_30 rfl rfl (Blk.cells (k := 17) (hS.box 0 rfl) rfl)) rfl ?_
 refine HO.call (want_none) rfl (ec en_101 rfl rfl) (addr_bytes_walk (fr := (Ow.box b_1 30 (e_api_Addr a).toArray :: fr)) a hS hM) ?_
 rintro _ h_2 ⟨F_1, r_2, rfl, hk, hS, hM⟩
 replace hK := hK.trans hk
 refine oA (.string (bs r_2)) rfl rfl ?_
 refine HO.nil (thenQ_normal (?_))
 refine HW.ret (?_)
 refine ⟨.inr rfl, .string (bs r_2), res1 rfl (rt rfl), ?_⟩
 replace hS : St F_1 (fr) h_2 := hS.perm2 [] 1 rfl rfl
 exact ⟨F_1, r_2, rfl, hK, hS, hM⟩

def query_key_W (g : T_api_Addr) (Q : Str → Prop) : Prop :=
 addr_Bytes_W g (fun r_2 => Q r_2)
set_option maxHeartbeats 40000000 in
set_option maxRecDepth 100000 in
theorem query_key_walk {F : Fz} {fr : List Ow} {h0 : Heap} (g : T_api_Addr) (hS : St F (fr) h0)  {Q : Str → Prop} (hM : query_key_W g Q) :
  HC Try.prog 41 #[.agg (e_api_Addr g).toArray] h0 fun u h' => ∃ (F' : Fz) (r_1 : Str), u = .string (bs r_1) ∧ Kp F h0 F' h' ∧ St F' (fr) h' ∧ Q r_1 := by
 unfold query_key_W at hM
 have hK := Kp.refl F h0
 refine HC.of_HW (n := 5) Try.func41 rfl rfl (Nat.le_of_ble_eq_true rfl) ?_
 refine HW.seq ?_
 refine HW.region ?_
 refine HO.eff (want_none) rfl (st_box (c := (e_api_Addr g).toArray) (k' := 17) hS rfl rfl) ?_
 rintro _ h_1 ⟨b_1, rfl, hS, hk⟩
 replace hK := hK.trans hk
 refine oA (.string (bs [])) rfl rfl ?_
 refine HO.nil (thenQ_normal (?_))
 refine HW.seq ?_
 refine HW.region ?_
 refine oV (.agg (e_api_Addr g).toArray) (q_loadAgg (cs := (e_api_Addr g)) ta_30 rfl rfl (Blk.cells (k := 17) (hS.box 0 rfl) rfl)) rfl ?_
 refine HO.call (want_none) rfl (ec en_76 rfl rfl) (addr_Bytes_walk (fr := (Ow.box b_1 30 (e_api_Addr g).toArray :: fr)) g hS hM) ?_
 rintro _ h_2 ⟨F_1, r_2, rfl, hk, hS, hM⟩
 replace hK := hK.trans hk
 refine oA (.string (bs r_2)) rfl rfl ?_
 refine HO.nil (thenQ_normal (?_))
 refine HW.ret (?_)
 refine ⟨.inr rfl, .string (bs r_2), res1 rfl (rt rfl), ?_⟩
 replace hS : St F_1 (fr) h_2 := hS.perm2 [] 1 rfl rfl
 exact ⟨F_1, r_2, rfl, hK, hS, hM⟩

def clock_Clock_Set_string_W (c_at : List (Str × Int)) (key : Str) (at1 : Int) (Q : Bool → (List (Str × Int)) → Prop) : Prop :=
 Q (!((mget c_at key).isSome)) (mset c_at key at1)
set_option maxHeartbeats 40000000 in
set_option maxRecDepth 100000 in
theorem clock_Clock_Set_string_walk {F : Fz} {fr : List Ow} {h0 : Heap} (c_at : List (Str × Int)) (key : Str) (at1 : Int) (bc : Nat) (rc_at : Nat) (hS : St F (Ow.box bc 110 #[.map (some rc_at)] :: Ow.map rc_at kT kI c_at :: fr) h0)  {Q : Bool → (List (Str × Int)) → Prop} (hM : clock_Clock_Set_string_W c_at key at1 Q) :
  HC Try.prog 40 #[.pointer (some ⟨bc, 0, none⟩), .string (bs key), .int .i64 at1] h0 fun u h' => ∃ (F' : Fz) (r_1 : Bool) (cm_1 : List (Str × Int)), u = .bool r_1 ∧ Kp F h0 F' h' ∧ St F' (Ow.box bc 110 #[.map (some rc_at)] :: Ow.map rc_at kT kI cm_1 :: fr) h' ∧ Q r_1 cm_1 := by
 unfold clock_Clock_Set_string_W at hM
 have hK := Kp.refl F h0
 refine HC.of_HW (n := 28) Try.func40 rfl rfl (Nat.le_of_ble_eq_true rfl) ?_
 refine HW.seq ?_
 refine HW.region ?_
 refine oA (.bool false) rfl rfl ?_
 refine HO.nil (thenQ_normal (?_))
 refine HW.seq ?_
 refine HW.seq ?_
 refine HW.region ?_
 refine oM (.pointer (some ⟨bc, 0, none⟩)) rfl rfl ?_
 refine oV (.bool false) (q_eqlPnil Try.underlying69 rfl rfl rfl) rfl ?_
 refine HO.nil (thenQ_normal (?_))
 refine HW.condF rfl ?_
 refine HW.skip (thenQ_normal (?_))
 refine HW.seq ?_
 refine HW.region ?_
 refine oM (.pointer (some ⟨bc, 0, none⟩)) rfl rfl ?_
 refine oV (.pointer (some ⟨bc, 0, none⟩)) (q_nilCheck rfl) rfl ?_
 refine oV (.pointer (some ⟨bc, 0, none⟩)) (q_fieldAddr fa_110_0 rfl rfl) rfl ?_
 refine oV (.map (some rc_at)) (q_load to_108 rfl (Blk.cell (hS.box 0 rfl) rfl)) rfl ?_
 refine oM (.string (bs key)) rfl rfl ?_
 refine oV (.tuple #[.int .i64 (mget0 c_at key), .bool ((mget c_at key).isSome)]) ((q_lookupOk (k := key) ka_9 tmk_108 (hS.mp 1 rfl) rfl rfl).of_eq (congrArg (fun v => Value.tuple #[v, _]) (mval0 (z := .int .i64 0) rfl))) rfl ?_
 refine oM (.tuple #[.int .i64 (mget0 c_at key), .bool ((mget c_at key).isSome)]) rfl rfl ?_
 refine oV (.int .i64 (mget0 c_at key)) (q_extract rfl rfl) rfl ?_
 refine oV (.bool ((mget c_at key).isSome)) (q_extract rfl rfl) rfl ?_
 refine oA (.int .i64 (mget0 c_at key)) rfl rfl ?_
 refine oA (.bool ((mget c_at key).isSome)) rfl rfl ?_
 refine HO.nil (thenQ_normal (?_))
 refine HW.seq ?_
 refine HW.region ?_
 refine oM (.pointer (some ⟨bc, 0, none⟩)) rfl rfl ?_
 refine oV (.pointer (some ⟨bc, 0, none⟩)) (q_nilCheck rfl) rfl ?_
 refine oV (.pointer (some ⟨bc, 0, none⟩)) (q_fieldAddr fa_110_0 rfl rfl) rfl ?_
 refine oV (.map (some rc_at)) (q_load to_108 rfl (Blk.cell (hS.box 0 rfl) rfl)) rfl ?_
 refine oM (.string (bs key)) rfl rfl ?_
 refine oM (.int .i64 at1) rfl rfl ?_
 refine HO.sto (want_none) rfl (st_mapUpdateK (k := key) (v := at1) hS (i := 1) rfl ka_9 tmk_108 rfl rfl rfl) ?_
 rintro h_1 ⟨hS, hk⟩
 replace hK := hK.trans hk
 refine HO.nil (thenQ_normal (?_))
 refine HW.seq ?_
 refine HW.region ?_
 refine oM (.bool ((mget c_at key).isSome)) rfl rfl ?_
 refine oV (.bool (!((mget c_at key).isSome))) (q_not rfl) rfl ?_
 refine oA (.bool (!((mget c_at key).isSome))) rfl rfl ?_
 refine HO.nil (thenQ_normal (?_))
 refine HW.ret (?_)
 refine ⟨.inr rfl, .bool (!((mget c_at key).isSome)), res1 rfl (rt rfl), ?_⟩
 exact ⟨F, !((mget c_at key).isSome), mset c_at key at1, rfl, hK, hS, hM⟩

def query_Queries_Want_j3 (t : T_api_Tune) (r_3 : List T_api_Addr) (x_1_1 : List (T_api_Addr × Int)) (n_1 : Int) (K_1 : (List (T_api_Addr × Int)) → Int → Prop) (b_5 : Bool) : Prop :=
 (b_5 = true → (I64 (n_1 + 1)) ∧ (K_1 (mset x_1_1 (gi r_3 n_1) t.2.2.2.2) (n_1 + 1))) ∧ (b_5 = false → (I64 (n_1 + 1)) ∧ (K_1 x_1_1 (n_1 + 1)))
def query_Queries_Want_l1 (t : T_api_Tune) (a_Group : T_api_Addr) (Q : Bool → Int → (List (Str × Int)) → Int → (List (T_api_Addr × (Nat × Nat) × T_query_left)) → Prop) (r_2 : Int) (r_3 : List T_api_Addr) (q_now_4 : Int) (qm_7 : List (Str × Int)) (q_first_4 : Int) (qm_8 : List (T_api_Addr × (Nat × Nat) × T_query_left)) (x_0_1 : Int) (K_1 : (List (T_api_Addr × Int)) → Int → Prop) (x_1_1 : List (T_api_Addr × Int)) (n_1 : Int) : Prop :=
 (n_1 < (r_3.length : Int) → ((0 : Int) ≤ n_1 ∧ n_1 < (r_3.length : Int)) ∧ ((((mget x_1_1 (gi r_3 n_1)).isSome) = true → query_Queries_Want_j3 t r_3 x_1_1 n_1 K_1 true) ∧ (((mget x_1_1 (gi r_3 n_1)).isSome) = false → query_Queries_Want_j3 t r_3 x_1_1 n_1 K_1 (decide ((x_1_1.length : Int) < 64))))) ∧ (¬ (n_1 < (r_3.length : Int)) → query_key_W a_Group (fun r_7 => clock_Clock_Set_string_W qm_7 r_7 r_2 (fun r_8 cm_1 => ∀ b_3 : Nat, (∀ r_6 : Nat, (Q true q_now_4 cm_1 q_first_4 (mset qm_8 a_Group ((b_3, r_6), (x_0_1, x_1_1))))))))
def query_Queries_Want_j2 (t : T_api_Tune) (a_Group : T_api_Addr) (Q : Bool → Int → (List (Str × Int)) → Int → (List (T_api_Addr × (Nat × Nat) × T_query_left)) → Prop) (r_2 : Int) (r_3 : List T_api_Addr) (r_1_1 : List (T_api_Addr × Int)) (q_now_4 : Int) (qm_7 : List (Str × Int)) (q_first_4 : Int) (qm_8 : List (T_api_Addr × (Nat × Nat) × T_query_left)) (x_0_1 : Int) : Prop :=
 loopW (fun (K_1 : ((List (T_api_Addr × Int)) × Int) → Prop) (s : (List (T_api_Addr × Int)) × Int) => query_Queries_Want_l1 t a_Group Q r_2 r_3 q_now_4 qm_7 q_first_4 qm_8 x_0_1 (fun x_1_1 n_1 => K_1 (x_1_1, n_1)) s.1 s.2) (r_1_1, 0)
def query_Queries_Want_j1 (t : T_api_Tune) (a_Group : T_api_Addr) (a_All : Bool) (Q : Bool → Int → (List (Str × Int)) → Int → (List (T_api_Addr × (Nat × Nat) × T_query_left)) → Prop) (r_2 : Int) (q_now_2 : Int) (qm_3 : List (Str × Int)) (q_first_2 : Int) (qm_4 : List (T_api_Addr × (Nat × Nat) × T_query_left)) (r_3 : List T_api_Addr) : Prop :=
 query_Queries_of_W q_now_2 qm_3 q_first_2 qm_4 a_Group (fun q_now_3 qm_5 q_first_3 qm_6 => Q false q_now_3 qm_5 q_first_3 qm_6) (fun r_0_1 r_1_1 q_now_4 qm_7 q_first_4 qm_8 => (a_All = true → query_Queries_Want_j2 t a_Group Q r_2 r_3 r_1_1 q_now_4 qm_7 q_first_4 qm_8 t.2.2.2.2) ∧ (a_All = false → query_Queries_Want_j2 t a_Group Q r_2 r_3 r_1_1 q_now_4 qm_7 q_first_4 qm_8 r_0_1))
def query_Queries_Want_W (q_now : Int) (q_at_at : List (Str × Int)) (q_first : Int) (q_open : List (T_api_Addr × (Nat × Nat) × T_query_left)) (now : Int) (t : T_api_Tune) (a_Group : T_api_Addr) (a_All : Bool) (a_Sources : List T_api_Addr) (Q : Bool → Int → (List (Str × Int)) → Int → (List (T_api_Addr × (Nat × Nat) × T_query_left)) → Prop) : Prop :=
 query_Queries_settle_W q_now q_at_at q_first q_open now (fun r_2 q_now_2 qm_3 q_first_2 qm_4 => srcs_Of_W a_Sources (fun r_3 => addr_Good_W a_Group (fun r_4 => ((!r_4) = true → Q false q_now_2 qm_3 q_first_2 qm_4) ∧ ((!r_4) = false → addr_Group_W a_Group (fun r_5 => ((!r_5) = true → Q false q_now_2 qm_3 q_first_2 qm_4) ∧ ((!r_5) = false → ((!a_All) = true → ((r_3.length : Int) = 0 → Q false q_now_2 qm_3 q_first_2 qm_4) ∧ (¬ ((r_3.length : Int) = 0) → query_Queries_Want_j1 t a_Group a_All Q r_2 q_now_2 qm_3 q_first_2 qm_4 r_3)) ∧ ((!a_All) = false → query_Queries_Want_j1 t a_Group a_All Q r_2 q_now_2 qm_3 q_first_2 qm_4 r_3)))))))
set_option maxHeartbeats 40000000 in
set_option maxRecDepth 100000 in
theorem query_Queries_Want_walk {F : Fz} {fr : List Ow} {h0 : Heap} (q_now : Int) (q_at_at : List (Str × Int)) (q_first : Int) (q_open : List (T_api_Addr × (Nat × Nat) × T_query_left)) (now : Int) (t : T_api_Tune) (a_Group : T_api_Addr) (a_All : Bool) (a_Sources : List T_api_Addr) (bq : Nat) (bq_at : Nat) (rq_at_at : Nat) (rq_open : Nat) (va_Sources : Value) (hS : St F (Ow.box bq 73 #[.int .i64 q_now, .pointer (some ⟨bq_at, 0, none⟩), .int .i64 q_first, .map (some rq_open)] :: Ow.box bq_at 110 #[.map (some rq_at_at)] :: Ow.map rq_at_at kT kI q_at_at :: Ow.pm rq_open (fun (x : T_api_Addr) => .agg (e_api_Addr x).toArray) pv_query_left th_query_left q_open none :: fr) h0) (hL_a_Sources : SliceF F h0 17 e_api_Addr va_Sources a_Sources) {Q : Bool → Int → (List (Str × Int)) → Int → (List (T_api_Addr × (Nat × Nat) × T_query_left)) → Prop} (hM : query_Queries_Want_W q_now q_at_at q_first q_open now t a_Group a_All a_Sources Q) :
  HC Try.prog 9 #[.pointer (some ⟨bq, 0, none⟩), .int .i64 now, .agg (e_api_Tune t).toArray, .agg (c_api_Asked a_Group (.bool a_All) va_Sources).toArray] h0 fun u h' => ∃ (F' : Fz) (r_1 : Bool) (q_now_1 : Int) (qm_1 : List (Str × Int)) (q_first_1 : Int) (qm_2 : List (T_api_Addr × (Nat × Nat) × T_query_left)), u = .bool r_1 ∧ Kp F h0 F' h' ∧ St F' (Ow.box bq 73 #[.int .i64 q_now_1, .pointer (some ⟨bq_at, 0, none⟩), .int .i64 q_first_1, .map (some rq_open)] :: Ow.box bq_at 110 #[.map (some rq_at_at)] :: Ow.map rq_at_at kT kI qm_1 :: Ow.pm rq_open (fun (x : T_api_Addr) => .agg (e_api_Addr x).toArray) pv_query_left th_query_left qm_2 none :: fr) h' ∧ (SliceF F' h' 17 e_api_Addr va_Sources a_Sources) ∧ Q r_1 q_now_1 qm_1 q_first_1 qm_2 := by
 unfold query_Queries_Want_W at hM
 have hK := Kp.refl F h0
 refine HC.of_HW (n := 97) Try.func9 rfl rfl (Nat.le_of_ble_eq_true rfl) ?_
 refine HW.seq ?_
 refine HW.region ?_
 refine HO.eff (want_none) rfl (st_box (c := (e_api_Tune t).toArray) (k' := 5) hS rfl rfl) ?_
 rintro _ h_1 ⟨b_1, rfl, hS, hk⟩
 replace hK := hK.trans hk
 replace hL_a_Sources := hL_a_Sources.kp hk
 refine HO.eff (want_none) rfl (st_box (c := (c_api_Asked a_Group (.bool a_All) va_Sources).toArray) (k' := 19) hS rfl rfl) ?_
 rintro _ h_2 ⟨b_2, rfl, hS, hk⟩
 replace hK := hK.trans hk
 replace hL_a_Sources := hL_a_Sources.kp hk
 refine oA (.bool false) rfl rfl ?_
 refine HO.nil (thenQ_normal (?_))
 refine HW.seq ?_
 refine HW.seq ?_
 refine HW.region ?_
 refine oM (.pointer (some ⟨bq, 0, none⟩)) rfl rfl ?_
 refine oV (.bool false) (q_eqlPnil Try.underlying22 rfl rfl rfl) rfl ?_
 refine HO.nil (thenQ_normal (?_))
 refine HW.condF rfl ?_
 refine HW.skip (thenQ_normal (?_))
 refine HW.seq ?_
 refine HW.region ?_
 refine oM (.pointer (some ⟨bq, 0, none⟩)) rfl rfl ?_
 refine oM (.int .i64 now) rfl rfl ?_
 replace hS : St F (Ow.box bq 73 #[.int .i64 q_now, .pointer (some ⟨bq_at, 0, none⟩), .int .i64 q_first, .map (some rq_open)] :: Ow.box bq_at 110 #[.map (some rq_at_at)] :: Ow.map rq_at_at kT kI q_at_at :: Ow.pm rq_open (fun (x : T_api_Addr) => .agg (e_api_Addr x).toArray) pv_query_left th_query_left q_open none :: Ow.box b_2 34 (c_api_Asked a_Group (.bool a_All) va_Sources).toArray :: Ow.box b_1 26 (e_api_Tune t).toArray :: fr) h_2 := hS.perm2 [2, 3, 4, 5, 0, 1] 6 rfl rfl
 refine HO.call (want_none) rfl (ec en_35 rfl rfl) (query_Queries_settle_walk (fr := (Ow.box b_2 34 (c_api_Asked a_Group (.bool a_All) va_Sources).toArray :: Ow.box b_1 26 (e_api_Tune t).toArray :: fr)) q_now q_at_at q_first q_open now bq bq_at rq_at_at rq_open hS hM) ?_
 rintro _ h_3 ⟨F_1, r_2, q_now_2, qm_3, q_first_2, qm_4, rfl, hk, hS, hM⟩
 replace hK := hK.trans hk
 replace hL_a_Sources := hL_a_Sources.kp hk
 refine oA (.int .i64 r_2) rfl rfl ?_
 refine HO.nil (thenQ_normal (?_))
 refine HW.seq ?_
 refine HW.region ?_
 refine oV (.pointer (some ⟨b_2, 18, none⟩)) (q_fieldAddr fa_34_2 rfl rfl) rfl ?_
 refine oV (va_Sources) (q_load to_32 rfl (Blk.cell (hS.box 4 rfl) rfl)) rfl ?_
 refine HO.call (want_none) rfl (ec en_36 rfl rfl) (srcs_Of_walk (fr := (Ow.box bq 73 #[.int .i64 q_now_2, .pointer (some ⟨bq_at, 0, none⟩), .int .i64 q_first_2, .map (some rq_open)] :: Ow.box bq_at 110 #[.map (some rq_at_at)] :: Ow.map rq_at_at kT kI qm_3 :: Ow.pm rq_open (fun (x : T_api_Addr) => .agg (e_api_Addr x).toArray) pv_query_left th_query_left qm_4 none :: Ow.box b_2 34 (c_api_Asked a_Group (.bool a_All) va_Sources).toArray :: Ow.box b_1 26 (e_api_Tune t).toArray :: fr)) a_Sources va_Sources hS hL_a_Sources hM) ?_
 rintro vr_1 h_4 ⟨F_2, r_3, _, rfl, hk, hS, _, hM⟩
 replace hK := hK.trans hk
 replace hL_a_Sources := hL_a_Sources.kp hk
 refine oA (vr_1) rfl rfl ?_
 refine HO.nil (thenQ_normal (?_))
 refine HW.seq_mid (fun f h => ∃ (F' : Fz), f 0 = .pointer (some ⟨bq, 0, none⟩) ∧ f 1 = .int .i64 r_2 ∧ f 6 = .pointer (some ⟨b_1, 0, none⟩) ∧ f 7 = .pointer (some ⟨b_2, 0, none⟩) ∧ f 8 = .bool false ∧ f 9 = vr_1 ∧ Kp F h0 F' h ∧ St F' (Ow.box bq 73 #[.int .i64 q_now_2, .pointer (some ⟨bq_at, 0, none⟩), .int .i64 q_first_2, .map (some rq_open)] :: Ow.box bq_at 110 #[.map (some rq_at_at)] :: Ow.map rq_at_at kT kI qm_3 :: Ow.pm rq_open (fun (x : T_api_Addr) => .agg (e_api_Addr x).toArray) pv_query_left th_query_left qm_4 none :: Ow.box b_1 26 (e_api_Tune t).toArray :: Ow.box b_2 34 (c_api_Asked a_Group (.bool a_All) va_Sources).toArray :: Ow.own 30 17 e_api_Addr vr_1 r_3 :: fr) h ∧ (SliceF F' h 17 e_api_Addr va_Sources a_Sources) ∧ query_Queries_Want_j1 t a_Group a_All Q r_2 q_now_2 qm_3 q_first_2 qm_4 r_3) ?_ ?_
 ·
  refine HW.seq ?_
  refine HW.region ?_
  refine oV (.pointer (some ⟨b_2, 0, none⟩)) (q_fieldAddr fa_34_0 rfl rfl) rfl ?_
  refine oV (.agg (e_api_Addr a_Group).toArray) (q_loadAgg (cs := (e_api_Addr a_Group)) ta_30 rfl rfl (Blk.cells (k := 17) (hS.box 5 rfl) rfl)) rfl ?_
  refine HO.call (want_none) rfl (ec en_37 rfl rfl) (addr_Good_walk (fr := (Ow.own 30 17 e_api_Addr vr_1 r_3 :: Ow.box bq 73 #[.int .i64 q_now_2, .pointer (some ⟨bq_at, 0, none⟩), .int .i64 q_first_2, .map (some rq_open)] :: Ow.box bq_at 110 #[.map (some rq_at_at)] :: Ow.map rq_at_at kT kI qm_3 :: Ow.pm rq_open (fun (x : T_api_Addr) => .agg (e_api_Addr x).toArray) pv_query_left th_query_left qm_4 none :: Ow.box b_2 34 (c_api_Asked a_Group (.bool a_All) va_Sources).toArray :: Ow.box b_1 26 (e_api_Tune t).toArray :: fr)) a_Group hS hM) ?_
  rintro _ h_5 ⟨F_3, r_4, rfl, hk, hS, hM⟩
  replace hK := hK.trans hk
  replace hL_a_Sources := hL_a_Sources.kp hk
  refine oV (.bool (!r_4)) (q_not rfl) rfl ?_
  refine oM (.bool (!r_4)) rfl rfl ?_
  rcases Bool.eq_false_or_eq_true (!r_4) with c_1 | c_1
  ·
   replace hM := hM.1 c_1
   refine HO.past (past_by rfl rfl c_1) rfl ?_
   refine HO.past (past_by rfl rfl c_1) rfl ?_
   refine HO.past (past_by rfl rfl c_1) rfl ?_
   refine HO.past (past_by rfl rfl c_1) rfl ?_
   refine oV (.bool true) (q_pickK true rfl c_1 rfl) rfl ?_
   refine oM (.bool true) rfl rfl ?_
   refine HO.past (past_some rfl rfl) rfl ?_
   refine HO.past (past_some rfl rfl) rfl ?_
   refine HO.past (past_some rfl rfl) rfl ?_
   refine HO.past (past_some rfl rfl) rfl ?_
   refine HO.past (past_undef rfl rfl) rfl ?_
   refine HO.past (past_undef rfl rfl) rfl ?_
   refine HO.past (past_undef rfl rfl) rfl ?_
   refine HO.past (past_some rfl rfl) rfl ?_
   refine oV (.bool true) (q_pick rfl rfl) rfl ?_
   refine HO.nil (thenQ_normal (?_))
   refine HW.condT rfl ?_
   refine HW.seq ?_
   refine HW.region ?_
   refine oA (.bool false) rfl rfl ?_
   refine HO.nil (thenQ_normal (?_))
   refine HW.ret (thenQ_ret (?_))
   refine ⟨.inr rfl, .bool false, res1 rfl (rt rfl), ?_⟩
   replace hS : St F_3 (Ow.box bq 73 #[.int .i64 q_now_2, .pointer (some ⟨bq_at, 0, none⟩), .int .i64 q_first_2, .map (some rq_open)] :: Ow.box bq_at 110 #[.map (some rq_at_at)] :: Ow.map rq_at_at kT kI qm_3 :: Ow.pm rq_open (fun (x : T_api_Addr) => .agg (e_api_Addr x).toArray) pv_query_left th_query_left qm_4 none :: fr) h_5 := hS.perm2 [1, 2, 3, 4] 7 rfl rfl
   exact ⟨F_3, false, q_now_2, qm_3, q_first_2, qm_4, rfl, hK, hS, hL_a_Sources, hM⟩
  ·
   replace hM := hM.2 c_1
   refine HO.val (v := .pointer (some ⟨b_2, 0, none⟩)) (want_by rfl rfl c_1) rfl (q_fieldAddr fa_34_0 rfl rfl) ?_
   refine HO.val (v := .agg (e_api_Addr a_Group).toArray) (want_by rfl rfl c_1) rfl (q_loadAgg (cs := (e_api_Addr a_Group)) ta_30 rfl rfl (Blk.cells (k := 17) (hS.box 5 rfl) rfl)) ?_
   refine HO.call (want_by rfl rfl c_1) rfl (ec en_38 rfl rfl) (addr_Group_walk (fr := (Ow.own 30 17 e_api_Addr vr_1 r_3 :: Ow.box bq 73 #[.int .i64 q_now_2, .pointer (some ⟨bq_at, 0, none⟩), .int .i64 q_first_2, .map (some rq_open)] :: Ow.box bq_at 110 #[.map (some rq_at_at)] :: Ow.map rq_at_at kT kI qm_3 :: Ow.pm rq_open (fun (x : T_api_Addr) => .agg (e_api_Addr x).toArray) pv_query_left th_query_left qm_4 none :: Ow.box b_2 34 (c_api_Asked a_Group (.bool a_All) va_Sources).toArray :: Ow.box b_1 26 (e_api_Tune t).toArray :: fr)) a_Group hS hM) ?_
   rintro _ h_6 ⟨F_4, r_5, rfl, hk, hS, hM⟩
   replace hK := hK.trans hk
   replace hL_a_Sources := hL_a_Sources.kp hk
   refine HO.val (v := .bool (!r_5)) (want_by rfl rfl c_1) rfl (q_not rfl) ?_
   refine oV (.bool (!r_5)) (q_pickK false rfl c_1 rfl) rfl ?_
   refine oM (.bool (!r_5)) rfl rfl ?_
   rcases Bool.eq_false_or_eq_true (!r_5) with c_2 | c_2
   ·
    replace hM := hM.1 c_2
    refine HO.past (past_by rfl rfl c_2) rfl ?_
    refine HO.past (past_by rfl rfl c_2) rfl ?_
    refine HO.past (past_by rfl rfl c_2) rfl ?_
    refine HO.past (past_by rfl rfl c_2) rfl ?_
    refine HO.past (past_undef rfl rfl) rfl ?_
    refine HO.past (past_undef rfl rfl) rfl ?_
    refine HO.past (past_undef rfl rfl) rfl ?_
    refine HO.past (past_by rfl rfl c_2) rfl ?_
    refine oV (.bool true) (q_pickK true rfl c_2 rfl) rfl ?_
    refine HO.nil (thenQ_normal (?_))
    refine HW.condT rfl ?_
    refine HW.seq ?_
    refine HW.region ?_
    refine oA (.bool false) rfl rfl ?_
    refine HO.nil (thenQ_normal (?_))
    refine HW.ret (thenQ_ret (?_))
    refine ⟨.inr rfl, .bool false, res1 rfl (rt rfl), ?_⟩
    replace hS : St F_4 (Ow.box bq 73 #[.int .i64 q_now_2, .pointer (some ⟨bq_at, 0, none⟩), .int .i64 q_first_2, .map (some rq_open)] :: Ow.box bq_at 110 #[.map (some rq_at_at)] :: Ow.map rq_at_at kT kI qm_3 :: Ow.pm rq_open (fun (x : T_api_Addr) => .agg (e_api_Addr x).toArray) pv_query_left th_query_left qm_4 none :: fr) h_6 := hS.perm2 [1, 2, 3, 4] 7 rfl rfl
    exact ⟨F_4, false, q_now_2, qm_3, q_first_2, qm_4, rfl, hK, hS, hL_a_Sources, hM⟩
   ·
    replace hM := hM.2 c_2
    refine HO.val (v := .pointer (some ⟨b_2, 17, none⟩)) (want_by rfl rfl c_2) rfl (q_fieldAddr fa_34_1 rfl rfl) ?_
    refine HO.val (v := .bool a_All) (want_by rfl rfl c_2) rfl (q_load to_4 rfl (Blk.cell (hS.box 5 rfl) rfl)) ?_
    refine HO.val (v := .bool (!a_All)) (want_by rfl rfl c_2) rfl (q_not rfl) ?_
    refine HO.val (v := .bool (!a_All)) (want_by rfl rfl c_2) rfl (q_move rfl) ?_
    rcases Bool.eq_false_or_eq_true (!a_All) with c_3 | c_3
    ·
     replace hM := hM.1 c_3
     refine HO.val (v := vr_1) (want_by rfl rfl c_3) rfl (q_move rfl) ?_
     refine HO.val (v := .int .i64 (r_3.length : Int)) (want_by rfl rfl c_3) rfl (q_len ts_32 (shp (hS.own 0 rfl).slice) rfl rfl) ?_
     refine HO.val (v := .bool (decide ((r_3.length : Int) = 0))) (want_by rfl rfl c_3) rfl (q_eql rfl rfl) ?_
     refine HO.val (v := .bool (decide ((r_3.length : Int) = 0))) (want_by rfl rfl c_2) rfl (q_pickK true rfl c_3 rfl) ?_
     refine oV (.bool (decide ((r_3.length : Int) = 0))) (q_pickK false rfl c_2 rfl) rfl ?_
     refine HO.nil (thenQ_normal (?_))
     refine HW.cond (decide ((r_3.length : Int) = 0)) rfl (fun c_4 => ?_) (fun c_4 => ?_)
     ·
      replace hM := hM.1 (of_decide_eq_true c_4)
      refine HW.seq ?_
      refine HW.region ?_
      refine oA (.bool false) rfl rfl ?_
      refine HO.nil (thenQ_normal (?_))
      refine HW.ret (thenQ_ret (?_))
      refine ⟨.inr rfl, .bool false, res1 rfl (rt rfl), ?_⟩
      replace hS : St F_4 (Ow.box bq 73 #[.int .i64 q_now_2, .pointer (some ⟨bq_at, 0, none⟩), .int .i64 q_first_2, .map (some rq_open)] :: Ow.box bq_at 110 #[.map (some rq_at_at)] :: Ow.map rq_at_at kT kI qm_3 :: Ow.pm rq_open (fun (x : T_api_Addr) => .agg (e_api_Addr x).toArray) pv_query_left th_query_left qm_4 none :: fr) h_6 := hS.perm2 [1, 2, 3, 4] 7 rfl rfl
      exact ⟨F_4, false, q_now_2, qm_3, q_first_2, qm_4, rfl, hK, hS, hL_a_Sources, hM⟩
     ·
      replace hM := hM.2 (of_decide_eq_false c_4)
      refine HW.skip (thenQ_normal (?_))
      replace hS : St F_4 (Ow.box bq 73 #[.int .i64 q_now_2, .pointer (some ⟨bq_at, 0, none⟩), .int .i64 q_first_2, .map (some rq_open)] :: Ow.box bq_at 110 #[.map (some rq_at_at)] :: Ow.map rq_at_at kT kI qm_3 :: Ow.pm rq_open (fun (x : T_api_Addr) => .agg (e_api_Addr x).toArray) pv_query_left th_query_left qm_4 none :: Ow.box b_1 26 (e_api_Tune t).toArray :: Ow.box b_2 34 (c_api_Asked a_Group (.bool a_All) va_Sources).toArray :: Ow.own 30 17 e_api_Addr vr_1 r_3 :: fr) h_6 := hS.perm2 [1, 2, 3, 4, 6, 5, 0] 7 rfl rfl
      exact ⟨F_4, rfl, rfl, rfl, rfl, rfl, rfl, hK, hS, hL_a_Sources, hM⟩
    ·
     replace hM := hM.2 c_3
     refine HO.past (past_by rfl rfl c_3) rfl ?_
     refine HO.past (past_by rfl rfl c_3) rfl ?_
     refine HO.past (past_by rfl rfl c_3) rfl ?_
     refine HO.val (v := .bool false) (want_by rfl rfl c_2) rfl (q_pickK false rfl c_3 rfl) ?_
     refine oV (.bool false) (q_pickK false rfl c_2 rfl) rfl ?_
     refine HO.nil (thenQ_normal (?_))
     refine HW.condF rfl ?_
     refine HW.skip (thenQ_normal (?_))
     replace hS : St F_4 (Ow.box bq 73 #[.int .i64 q_now_2, .pointer (some ⟨bq_at, 0, none⟩), .int .i64 q_first_2, .map (some rq_open)] :: Ow.box bq_at 110 #[.map (some rq_at_at)] :: Ow.map rq_at_at kT kI qm_3 :: Ow.pm rq_open (fun (x : T_api_Addr) => .agg (e_api_Addr x).toArray) pv_query_left th_query_left qm_4 none :: Ow.box b_1 26 (e_api_Tune t).toArray :: Ow.box b_2 34 (c_api_Asked a_Group (.bool a_All) va_Sources).toArray :: Ow.own 30 17 e_api_Addr vr_1 r_3 :: fr) h_6 := hS.perm2 [1, 2, 3, 4, 6, 5, 0] 7 rfl rfl
     exact ⟨F_4, rfl, rfl, rfl, rfl, rfl, rfl, hK, hS, hL_a_Sources, hM⟩
 ·
  rintro f_1 h_7 ⟨F_5, e0, e1, e6, e7, e8, e9, hK, hS, hL_a_Sources, hM⟩
  unfold query_Queries_Want_j1 at hM
  refine HW.fr [(0, .pointer (some ⟨bq, 0, none⟩)), (1, .int .i64 r_2), (6, .pointer (some ⟨b_1, 0, none⟩)), (7, .pointer (some ⟨b_2, 0, none⟩)), (8, .bool false), (9, vr_1)] ⟨e0, e1, e6, e7, e8, e9, trivial⟩ ?_
  refine HW.seq ?_
  refine HW.region ?_
  refine oM (.pointer (some ⟨bq, 0, none⟩)) rfl rfl ?_
  refine oV (.pointer (some ⟨b_2, 0, none⟩)) (q_fieldAddr fa_34_0 rfl rfl) rfl ?_
  refine oV (.agg (e_api_Addr a_Group).toArray) (q_loadAgg (cs := (e_api_Addr a_Group)) ta_30 rfl rfl (Blk.cells (k := 17) (hS.box 5 rfl) rfl)) rfl ?_
  refine HO.call (want_none) rfl (ec en_39 rfl rfl) (query_Queries_of_walk (fr := (Ow.box b_1 26 (e_api_Tune t).toArray :: Ow.box b_2 34 (c_api_Asked a_Group (.bool a_All) va_Sources).toArray :: Ow.own 30 17 e_api_Addr vr_1 r_3 :: fr)) q_now_2 qm_3 q_first_2 qm_4 a_Group bq bq_at rq_at_at rq_open hS hM) ?_
  rintro _ h_8 (⟨F_6, q_now_3, qm_5, q_first_3, qm_6, rfl, hk, hS, hM⟩ | ⟨F_7, r_0_1, r_1_1, q_now_4, qm_7, q_first_4, qm_8, b_3, r_6, rfl, hk, hS, hM⟩)
  ·
   replace hK := hK.trans hk
   replace hL_a_Sources := hL_a_Sources.kp hk
   refine oA (.pointer none) rfl rfl ?_
   refine HO.nil (thenQ_normal (?_))
   refine HW.seq ?_
   refine HW.seq ?_
   refine HW.region ?_
   refine oM (.pointer none) rfl rfl ?_
   refine oV (.bool true) (q_eqlPnil Try.underlying75 rfl rfl rfl) rfl ?_
   refine HO.nil (thenQ_normal (?_))
   refine HW.condT rfl ?_
   refine HW.seq ?_
   refine HW.region ?_
   refine oA (.bool false) rfl rfl ?_
   refine HO.nil (thenQ_normal (?_))
   refine HW.ret (thenQ_ret (?_))
   refine ⟨.inr rfl, .bool false, res1 rfl (rt rfl), ?_⟩
   replace hS : St F_6 (Ow.box bq 73 #[.int .i64 q_now_3, .pointer (some ⟨bq_at, 0, none⟩), .int .i64 q_first_3, .map (some rq_open)] :: Ow.box bq_at 110 #[.map (some rq_at_at)] :: Ow.map rq_at_at kT kI qm_5 :: Ow.pm rq_open (fun (x : T_api_Addr) => .agg (e_api_Addr x).toArray) pv_query_left th_query_left qm_6 none :: fr) h_8 := hS.perm2 [0, 1, 2, 3] 7 rfl rfl
   exact ⟨F_6, false, q_now_3, qm_5, q_first_3, qm_6, rfl, hK, hS, hL_a_Sources, hM⟩
  ·
   replace hK := hK.trans hk
   replace hL_a_Sources := hL_a_Sources.kp hk
   refine oA (.pointer (some ⟨b_3, 0, none⟩)) rfl rfl ?_
   refine HO.nil (thenQ_normal (?_))
   refine HW.seq ?_
   refine HW.seq ?_
   refine HW.region ?_
   refine oM (.pointer (some ⟨b_3, 0, none⟩)) rfl rfl ?_
   refine oV (.bool false) (q_eqlPnil Try.underlying75 rfl rfl rfl) rfl ?_
   refine HO.nil (thenQ_normal (?_))
   refine HW.condF rfl ?_
   refine HW.skip (thenQ_normal (?_))
   refine HW.seq_mid (fun f h => ∃ (F' : Fz) (x_0_1 : Int), f 0 = .pointer (some ⟨bq, 0, none⟩) ∧ f 1 = .int .i64 r_2 ∧ f 6 = .pointer (some ⟨b_1, 0, none⟩) ∧ f 7 = .pointer (some ⟨b_2, 0, none⟩) ∧ f 8 = .bool false ∧ f 9 = vr_1 ∧ f 10 = .pointer (some ⟨b_3, 0, none⟩) ∧ Kp F h0 F' h ∧ St F' (Ow.box bq 73 #[.int .i64 q_now_4, .pointer (some ⟨bq_at, 0, none⟩), .int .i64 q_first_4, .map (some rq_open)] :: Ow.box bq_at 110 #[.map (some rq_at_at)] :: Ow.map rq_at_at kT kI qm_7 :: Ow.pm rq_open (fun (x : T_api_Addr) => .agg (e_api_Addr x).toArray) pv_query_left th_query_left qm_8 (some (a_Group, (b_3, r_6))) :: Ow.box b_3 79 #[.int .i64 x_0_1, .map (some r_6)] :: Ow.map r_6 (fun (x : T_api_Addr) => .agg (e_api_Addr x).toArray) kI r_1_1 :: Ow.box b_1 26 (e_api_Tune t).toArray :: Ow.box b_2 34 (c_api_Asked a_Group (.bool a_All) va_Sources).toArray :: Ow.own 30 17 e_api_Addr vr_1 r_3 :: fr) h ∧ (SliceF F' h 17 e_api_Addr va_Sources a_Sources) ∧ query_Queries_Want_j2 t a_Group Q r_2 r_3 r_1_1 q_now_4 qm_7 q_first_4 qm_8 x_0_1) ?_ ?_
   ·
    refine HW.seq ?_
    refine HW.region ?_
    refine oV (.pointer (some ⟨b_2, 17, none⟩)) (q_fieldAddr fa_34_1 rfl rfl) rfl ?_
    refine oV (.bool a_All) (q_load to_4 rfl (Blk.cell (hS.box 7 rfl) rfl)) rfl ?_
    refine HO.nil (thenQ_normal (?_))
    refine HW.cond a_All rfl (fun c_5 => ?_) (fun c_5 => ?_)
    ·
     replace hM := hM.1 c_5
     refine HW.region ?_
     refine oM (.pointer (some ⟨b_3, 0, none⟩)) rfl rfl ?_
     refine oV (.pointer (some ⟨b_1, 4, none⟩)) (q_fieldAddr fa_26_4 rfl rfl) rfl ?_
     refine oV (.int .i64 t.2.2.2.2) (q_load to_3 rfl (Blk.cell (hS.box 6 rfl) rfl)) rfl ?_
     refine oV (.pointer (some ⟨b_3, 0, none⟩)) (q_nilCheck rfl) rfl ?_
     refine oV (.pointer (some ⟨b_3, 0, none⟩)) (q_fieldAddr fa_79_0 rfl rfl) rfl ?_
     refine HO.sto (want_none) rfl (st_store (c' := #[.int .i64 t.2.2.2.2, .map (some r_6)]) hS (i := 0) rfl to_3 rfl rfl rfl rfl (Nat.le_of_ble_eq_true rfl) rfl) ?_
     rintro h_10 ⟨hS, hk⟩
     replace hK := hK.trans hk
     replace hL_a_Sources := hL_a_Sources.kp hk
     refine HO.nil (thenQ_normal (?_))
     replace hS : St F_7 (Ow.box bq 73 #[.int .i64 q_now_4, .pointer (some ⟨bq_at, 0, none⟩), .int .i64 q_first_4, .map (some rq_open)] :: Ow.box bq_at 110 #[.map (some rq_at_at)] :: Ow.map rq_at_at kT kI qm_7 :: Ow.pm rq_open (fun (x : T_api_Addr) => .agg (e_api_Addr x).toArray) pv_query_left th_query_left qm_8 (some (a_Group, (b_3, r_6))) :: Ow.box b_3 79 #[.int .i64 t.2.2.2.2, .map (some r_6)] :: Ow.map r_6 (fun (x : T_api_Addr) => .agg (e_api_Addr x).toArray) kI r_1_1 :: Ow.box b_1 26 (e_api_Tune t).toArray :: Ow.box b_2 34 (c_api_Asked a_Group (.bool a_All) va_Sources).toArray :: Ow.own 30 17 e_api_Addr vr_1 r_3 :: fr) h_10 := hS.perm2 [2, 3, 4, 5, 0, 1, 6, 7, 8] 9 rfl rfl
     exact ⟨F_7, t.2.2.2.2, rfl, rfl, rfl, rfl, rfl, rfl, rfl, hK, hS, hL_a_Sources, hM⟩
    ·
     replace hM := hM.2 c_5
     refine HW.skip (thenQ_normal (?_))
     replace hS : St F_7 (Ow.box bq 73 #[.int .i64 q_now_4, .pointer (some ⟨bq_at, 0, none⟩), .int .i64 q_first_4, .map (some rq_open)] :: Ow.box bq_at 110 #[.map (some rq_at_at)] :: Ow.map rq_at_at kT kI qm_7 :: Ow.pm rq_open (fun (x : T_api_Addr) => .agg (e_api_Addr x).toArray) pv_query_left th_query_left qm_8 (some (a_Group, (b_3, r_6))) :: Ow.box b_3 79 #[.int .i64 r_0_1, .map (some r_6)] :: Ow.map r_6 (fun (x : T_api_Addr) => .agg (e_api_Addr x).toArray) kI r_1_1 :: Ow.box b_1 26 (e_api_Tune t).toArray :: Ow.box b_2 34 (c_api_Asked a_Group (.bool a_All) va_Sources).toArray :: Ow.own 30 17 e_api_Addr vr_1 r_3 :: fr) h_8 := hS.perm2 [2, 3, 4, 5, 0, 1, 6, 7, 8] 9 rfl rfl
     exact ⟨F_7, r_0_1, rfl, rfl, rfl, rfl, rfl, rfl, rfl, hK, hS, hL_a_Sources, hM⟩
   ·
    rintro f_2 h_11 ⟨F_8, x_0_1, e0, e1, e6, e7, e8, e9, e10, hK, hS, hL_a_Sources, hM⟩
    unfold query_Queries_Want_j2 at hM
    refine HW.fr [(0, .pointer (some ⟨bq, 0, none⟩)), (1, .int .i64 r_2), (6, .pointer (some ⟨b_1, 0, none⟩)), (7, .pointer (some ⟨b_2, 0, none⟩)), (8, .bool false), (9, vr_1), (10, .pointer (some ⟨b_3, 0, none⟩))] ⟨e0, e1, e6, e7, e8, e9, e10, trivial⟩ ?_
    refine HW.seq ?_
    refine HW.seq ?_
    refine HW.region ?_
    refine oM (vr_1) rfl rfl ?_
    refine oV (.int .i64 (r_3.length : Int)) (q_len ts_32 (shp (hS.own 8 rfl).slice) rfl rfl) rfl ?_
    refine oM (.int .i64 0) rfl rfl ?_
    refine HO.nil (thenQ_normal (?_))
    refine HW.block ?_
    obtain ⟨I_1, m_1, hI_1, hR_1⟩ := hM
    refine HW.loop (S := (List (T_api_Addr × Int)) × Int) (fun s f h => match s with | (x_1_1, n_1) => ∃ (F' : Fz), f 0 = .pointer (some ⟨bq, 0, none⟩) ∧ f 1 = .int .i64 r_2 ∧ f 6 = .pointer (some ⟨b_1, 0, none⟩) ∧ f 7 = .pointer (some ⟨b_2, 0, none⟩) ∧ f 8 = .bool false ∧ f 10 = .pointer (some ⟨b_3, 0, none⟩) ∧ f 56 = vr_1 ∧ f 57 = .int .i64 (r_3.length : Int) ∧ f 58 = .int .i64 n_1 ∧ Kp F h0 F' h ∧ St F' (Ow.box bq 73 #[.int .i64 q_now_4, .pointer (some ⟨bq_at, 0, none⟩), .int .i64 q_first_4, .map (some rq_open)] :: Ow.box bq_at 110 #[.map (some rq_at_at)] :: Ow.map rq_at_at kT kI qm_7 :: Ow.pm rq_open (fun (x : T_api_Addr) => .agg (e_api_Addr x).toArray) pv_query_left th_query_left qm_8 (some (a_Group, (b_3, r_6))) :: Ow.box b_3 79 #[.int .i64 x_0_1, .map (some r_6)] :: Ow.map r_6 (fun (x : T_api_Addr) => .agg (e_api_Addr x).toArray) kI x_1_1 :: Ow.box b_1 26 (e_api_Tune t).toArray :: Ow.box b_2 34 (c_api_Asked a_Group (.bool a_All) va_Sources).toArray :: Ow.own 30 17 e_api_Addr vr_1 r_3 :: fr) h ∧ (SliceF F' h 17 e_api_Addr va_Sources a_Sources) ∧ I_1 (x_1_1, n_1)) m_1 (r_1_1, 0) ⟨F_8, rfl, rfl, rfl, rfl, rfl, rfl, rfl, rfl, rfl, hK, hS, hL_a_Sources, hI_1⟩ ?_
    rintro ⟨x_1_1, n_1⟩ f_3 h_12 ⟨F_9, e0, e1, e6, e7, e8, e10, e56, e57, e58, hK, hS, hL_a_Sources, hI0⟩
    obtain ⟨K_1, hKe_1⟩ : ∃ K : (List (T_api_Addr × Int)) → Int → Prop, K = fun x_1_1' n_1' => I_1 (x_1_1', n_1') ∧ m_1 (x_1_1', n_1') < m_1 (x_1_1, n_1) := ⟨_, rfl⟩
    have hM : query_Queries_Want_l1 t a_Group Q r_2 r_3 q_now_4 qm_7 q_first_4 qm_8 x_0_1 K_1 x_1_1 n_1 := by rw [hKe_1]; exact hR_1 (x_1_1, n_1) hI0
    unfold query_Queries_Want_l1 at hM
    refine HW.fr [(0, .pointer (some ⟨bq, 0, none⟩)), (1, .int .i64 r_2), (6, .pointer (some ⟨b_1, 0, none⟩)), (7, .pointer (some ⟨b_2, 0, none⟩)), (8, .bool false), (10, .pointer (some ⟨b_3, 0, none⟩)), (56, vr_1), (57, .int .i64 (r_3.length : Int)), (58, .int .i64 n_1)] ⟨e0, e1, e6, e7, e8, e10, e56, e57, e58, trivial⟩ ?_
    refine HW.seq ?_
    refine HW.region ?_
    refine oV (.bool (decide (n_1 < (r_3.length : Int)))) (q_lss rfl rfl) rfl ?_
    refine HO.nil (thenQ_normal (?_))
    refine HW.seq ?_
    refine HW.cond (decide (n_1 < (r_3.length : Int))) rfl (fun c_6 => ?_) (fun c_6 => ?_)
    ·
     replace hM := hM.1 (of_decide_eq_true c_6)
     refine HW.skip (thenQ_normal (?_))
     refine HW.seq ?_
     refine HW.block ?_
     refine HW.seq ?_
     refine HW.region ?_
     obtain ⟨ho_1, hM⟩ := hM
     refine oV (elemPtr 17 vr_1 (n_1).toNat) (q_idx ts_32 (hS.own 8 rfl).slice rfl rfl ho_1) rfl ?_
     refine oV (.agg (e_api_Addr (gi r_3 n_1)).toArray) (q_ldElemAgg (cs := (e_api_Addr (gi r_3 n_1))) ta_30 (hS.own 8 rfl).slice rfl ho_1 rfl) rfl ?_
     refine HO.eff (want_none) rfl (st_alloc (c := (e_api_Addr (false, (default : Ba 16))).toArray) hS tz_30 rfl) ?_
     rintro _ h_13 ⟨b_4, rfl, hS, hk⟩
     replace hK := hK.trans hk
     replace hL_a_Sources := hL_a_Sources.kp hk
     refine HO.sto (want_none) rfl (st_storeAgg (c' := (e_api_Addr (gi r_3 n_1)).toArray) hS (i := 0) rfl ta_30 rfl rfl rfl (one_e_api_Addr _) (Nat.le_of_ble_eq_true rfl) rfl) ?_
     rintro h_14 ⟨hS, hk⟩
     replace hK := hK.trans hk
     replace hL_a_Sources := hL_a_Sources.kp hk
     refine HO.nil (thenQ_normal (?_))
     refine HW.seq ?_
     refine HW.regionA 11 mixed (fun h => (SliceIs h 17 e_api_Addr va_Sources a_Sources) ∧ (Blk h b_4 (.cells (e_api_Addr (gi r_3 n_1)).toArray 30 (0, 0))) ∧ (Blk h bq (.cells #[.int .i64 q_now_4, .pointer (some ⟨bq_at, 0, none⟩), .int .i64 q_first_4, .map (some rq_open)] 73 (0, 0))) ∧ (Blk h bq_at (.cells #[.map (some rq_at_at)] 110 (0, 0))) ∧ (MapIs h rq_at_at kT kI qm_7) ∧ (MapIs h rq_open (fun (x : T_api_Addr) => .agg (e_api_Addr x).toArray) (pmV (β := T_query_left) pv_query_left) qm_8) ∧ (Blk h b_3 (.cells #[.int .i64 x_0_1, .map (some r_6)] 79 (0, 0))) ∧ (MapIs h r_6 (fun (x : T_api_Addr) => .agg (e_api_Addr x).toArray) kI x_1_1) ∧ (Blk h b_1 (.cells (e_api_Tune t).toArray 26 (0, 0))) ∧ (Blk h b_2 (.cells (c_api_Asked a_Group (.bool a_All) va_Sources).toArray 34 (0, 0))) ∧ (OwnIs h 0 30 17 e_api_Addr vr_1 r_3)) [] (by kernel_rfl) ?_
     refine HA.val (k := 0) (v := .pointer (some ⟨b_3, 0, none⟩)) rfl rfl (by kernel_rfl) (by kernel_rfl) (want_none) rfl (fun _ ⟨hL_a_Sources, c393, c384, c385, c386, c387, c388, c389, c390, c391, c392⟩ => q_move rfl) ?_
     refine HA.val (k := 1) (v := .pointer (some ⟨b_3, 0, none⟩)) rfl rfl (by kernel_rfl) (by kernel_rfl) (want_none) rfl (fun _ ⟨hL_a_Sources, c393, c384, c385, c386, c387, c388, c389, c390, c391, c392⟩ => q_nilCheck rfl) ?_
     refine HA.val (k := 2) (v := .pointer (some ⟨b_3, 1, none⟩)) rfl rfl (by kernel_rfl) (by kernel_rfl) (want_none) rfl (fun _ ⟨hL_a_Sources, c393, c384, c385, c386, c387, c388, c389, c390, c391, c392⟩ => q_fieldAddr fa_79_1 rfl rfl) ?_
     refine HA.val (k := 3) (v := .map (some r_6)) rfl rfl (by kernel_rfl) (by kernel_rfl) (want_none) rfl (fun _ ⟨hL_a_Sources, c393, c384, c385, c386, c387, c388, c389, c390, c391, c392⟩ => q_load to_77 rfl (Blk.cell c388 rfl)) ?_
     refine HA.val (k := 4) (v := .agg (e_api_Addr (gi r_3 n_1)).toArray) rfl rfl (by kernel_rfl) (by kernel_rfl) (want_none) rfl (fun _ ⟨hL_a_Sources, c393, c384, c385, c386, c387, c388, c389, c390, c391, c392⟩ => q_loadAgg (cs := (e_api_Addr (gi r_3 n_1))) ta_30 rfl rfl (Blk.cells (k := 17) c393 rfl)) ?_
     refine HA.val (k := 5) (v := .tuple #[.int .i64 (mget0 x_1_1 (gi r_3 n_1)), .bool ((mget x_1_1 (gi r_3 n_1)).isSome)]) rfl rfl (by kernel_rfl) (by kernel_rfl) (want_none) rfl (fun _ ⟨hL_a_Sources, c393, c384, c385, c386, c387, c388, c389, c390, c391, c392⟩ => (q_lookupOk (k := (gi r_3 n_1)) ka_30 tmk_77 c389 rfl rfl).of_eq (congrArg (fun v => Value.tuple #[v, _]) (mval0 (z := .int .i64 0) rfl))) ?_
     refine HA.val (k := 6) (v := .tuple #[.int .i64 (mget0 x_1_1 (gi r_3 n_1)), .bool ((mget x_1_1 (gi r_3 n_1)).isSome)]) rfl rfl (by kernel_rfl) (by kernel_rfl) (want_none) rfl (fun _ ⟨hL_a_Sources, c393, c384, c385, c386, c387, c388, c389, c390, c391, c392⟩ => q_move rfl) ?_
     refine HA.val (k := 7) (v := .int .i64 (mget0 x_1_1 (gi r_3 n_1))) rfl rfl (by kernel_rfl) (by kernel_rfl) (want_none) rfl (fun _ ⟨hL_a_Sources, c393, c384, c385, c386, c387, c388, c389, c390, c391, c392⟩ => q_extract rfl rfl) ?_
     refine HA.val (k := 8) (v := .bool ((mget x_1_1 (gi r_3 n_1)).isSome)) rfl rfl (by kernel_rfl) (by kernel_rfl) (want_none) rfl (fun _ ⟨hL_a_Sources, c393, c384, c385, c386, c387, c388, c389, c390, c391, c392⟩ => q_extract rfl rfl) ?_
     refine HA.val (k := 9) (v := .int .i64 (mget0 x_1_1 (gi r_3 n_1))) rfl rfl (by kernel_rfl) (by kernel_rfl) (want_none) rfl (fun _ ⟨hL_a_Sources, c393, c384, c385, c386, c387, c388, c389, c390, c391, c392⟩ => q_assign rfl) ?_
     refine HA.val (k := 10) (v := .bool ((mget x_1_1 (gi r_3 n_1)).isSome)) rfl rfl (by kernel_rfl) (by kernel_rfl) (want_none) rfl (fun _ ⟨hL_a_Sources, c393, c384, c385, c386, c387, c388, c389, c390, c391, c392⟩ => q_assign rfl) ?_
     refine HA.nil ⟨⟨hL_a_Sources.is, (hS.box 0 rfl), (hS.box 1 rfl), (hS.box 2 rfl), (hS.mp 3 rfl), (hS.pmi 4 rfl).map, (hS.box 5 rfl), (hS.mp 6 rfl), (hS.box 7 rfl), (hS.box 8 rfl), (hS.own 9 rfl)⟩, (Go.Wk.at_nil _ _)⟩ (by kernel_rfl) (thenQ_normal (?_))
     refine HW.seq_mid (fun f h => ∃ (F' : Fz) (b_5 : Bool), f 0 = .pointer (some ⟨bq, 0, none⟩) ∧ f 1 = .int .i64 r_2 ∧ f 6 = .pointer (some ⟨b_1, 0, none⟩) ∧ f 7 = .pointer (some ⟨b_2, 0, none⟩) ∧ f 8 = .bool false ∧ f 10 = .pointer (some ⟨b_3, 0, none⟩) ∧ f 12 = .pointer (some ⟨b_4, 0, none⟩) ∧ f 56 = vr_1 ∧ f 57 = .int .i64 (r_3.length : Int) ∧ f 58 = .int .i64 n_1 ∧ f 79 = .bool b_5 ∧ Kp F h0 F' h ∧ St F' (Ow.box bq 73 #[.int .i64 q_now_4, .pointer (some ⟨bq_at, 0, none⟩), .int .i64 q_first_4, .map (some rq_open)] :: Ow.box bq_at 110 #[.map (some rq_at_at)] :: Ow.map rq_at_at kT kI qm_7 :: Ow.pm rq_open (fun (x : T_api_Addr) => .agg (e_api_Addr x).toArray) pv_query_left th_query_left qm_8 (some (a_Group, (b_3, r_6))) :: Ow.box b_3 79 #[.int .i64 x_0_1, .map (some r_6)] :: Ow.map r_6 (fun (x : T_api_Addr) => .agg (e_api_Addr x).toArray) kI x_1_1 :: Ow.box b_1 26 (e_api_Tune t).toArray :: Ow.box b_2 34 (c_api_Asked a_Group (.bool a_All) va_Sources).toArray :: Ow.box b_4 30 (e_api_Addr (gi r_3 n_1)).toArray :: Ow.own 30 17 e_api_Addr vr_1 r_3 :: fr) h ∧ (SliceF F' h 17 e_api_Addr va_Sources a_Sources) ∧ query_Queries_Want_j3 t r_3 x_1_1 n_1 K_1 b_5) ?_ ?_
     ·
      refine HW.region ?_
      refine oM (.bool ((mget x_1_1 (gi r_3 n_1)).isSome)) rfl rfl ?_
      refine oM (.bool ((mget x_1_1 (gi r_3 n_1)).isSome)) rfl rfl ?_
      rcases Bool.eq_false_or_eq_true ((mget x_1_1 (gi r_3 n_1)).isSome) with c_7 | c_7
      ·
       replace hM := hM.1 c_7
       refine HO.past (past_by rfl rfl c_7) rfl ?_
       refine HO.past (past_by rfl rfl c_7) rfl ?_
       refine HO.past (past_by rfl rfl c_7) rfl ?_
       refine HO.past (past_by rfl rfl c_7) rfl ?_
       refine HO.past (past_by rfl rfl c_7) rfl ?_
       refine HO.past (past_by rfl rfl c_7) rfl ?_
       refine oV (.bool true) (q_pickK true rfl c_7 rfl) rfl ?_
       refine HO.nil (thenQ_normal (?_))
       replace hS : St F_9 (Ow.box bq 73 #[.int .i64 q_now_4, .pointer (some ⟨bq_at, 0, none⟩), .int .i64 q_first_4, .map (some rq_open)] :: Ow.box bq_at 110 #[.map (some rq_at_at)] :: Ow.map rq_at_at kT kI qm_7 :: Ow.pm rq_open (fun (x : T_api_Addr) => .agg (e_api_Addr x).toArray) pv_query_left th_query_left qm_8 (some (a_Group, (b_3, r_6))) :: Ow.box b_3 79 #[.int .i64 x_0_1, .map (some r_6)] :: Ow.map r_6 (fun (x : T_api_Addr) => .agg (e_api_Addr x).toArray) kI x_1_1 :: Ow.box b_1 26 (e_api_Tune t).toArray :: Ow.box b_2 34 (c_api_Asked a_Group (.bool a_All) va_Sources).toArray :: Ow.box b_4 30 (e_api_Addr (gi r_3 n_1)).toArray :: Ow.own 30 17 e_api_Addr vr_1 r_3 :: fr) h_14 := hS.perm2 [1, 2, 3, 4, 5, 6, 7, 8, 0, 9] 10 rfl rfl
       exact ⟨F_9, true, rfl, rfl, rfl, rfl, rfl, rfl, rfl, rfl, rfl, rfl, rfl, hK, hS, hL_a_Sources, hM⟩
      ·
       replace hM := hM.2 c_7
       refine HO.val (v := .pointer (some ⟨b_3, 0, none⟩)) (want_by rfl rfl c_7) rfl (q_move rfl) ?_
       refine HO.val (v := .pointer (some ⟨b_3, 0, none⟩)) (want_by rfl rfl c_7) rfl (q_nilCheck rfl) ?_
       refine HO.val (v := .pointer (some ⟨b_3, 1, none⟩)) (want_by rfl rfl c_7) rfl (q_fieldAddr fa_79_1 rfl rfl) ?_
       refine HO.val (v := .map (some r_6)) (want_by rfl rfl c_7) rfl (q_load to_77 rfl (Blk.cell (hS.box 5 rfl) rfl)) ?_
       refine HO.val (v := .int .i64 (x_1_1.length : Int)) (want_by rfl rfl c_7) rfl (q_lenMap Try.underlying77 (hS.mp 6 rfl) rfl rfl) ?_
       refine HO.val (v := .bool (decide ((x_1_1.length : Int) < 64))) (want_by rfl rfl c_7) rfl (q_lss rfl rfl) ?_
       refine oV (.bool (decide ((x_1_1.length : Int) < 64))) (q_pickK false rfl c_7 rfl) rfl ?_
       refine HO.nil (thenQ_normal (?_))
       replace hS : St F_9 (Ow.box bq 73 #[.int .i64 q_now_4, .pointer (some ⟨bq_at, 0, none⟩), .int .i64 q_first_4, .map (some rq_open)] :: Ow.box bq_at 110 #[.map (some rq_at_at)] :: Ow.map rq_at_at kT kI qm_7 :: Ow.pm rq_open (fun (x : T_api_Addr) => .agg (e_api_Addr x).toArray) pv_query_left th_query_left qm_8 (some (a_Group, (b_3, r_6))) :: Ow.box b_3 79 #[.int .i64 x_0_1, .map (some r_6)] :: Ow.map r_6 (fun (x : T_api_Addr) => .agg (e_api_Addr x).toArray) kI x_1_1 :: Ow.box b_1 26 (e_api_Tune t).toArray :: Ow.box b_2 34 (c_api_Asked a_Group (.bool a_All) va_Sources).toArray :: Ow.box b_4 30 (e_api_Addr (gi r_3 n_1)).toArray :: Ow.own 30 17 e_api_Addr vr_1 r_3 :: fr) h_14 := hS.perm2 [1, 2, 3, 4, 5, 6, 7, 8, 0, 9] 10 rfl rfl
       exact ⟨F_9, decide ((x_1_1.length : Int) < 64), rfl, rfl, rfl, rfl, rfl, rfl, rfl, rfl, rfl, rfl, rfl, hK, hS, hL_a_Sources, hM⟩
     ·
      rintro f_4 h_15 ⟨F_10, b_5, e0, e1, e6, e7, e8, e10, e12, e56, e57, e58, e79, hK, hS, hL_a_Sources, hM⟩
      unfold query_Queries_Want_j3 at hM
      refine HW.fr [(0, .pointer (some ⟨bq, 0, none⟩)), (1, .int .i64 r_2), (6, .pointer (some ⟨b_1, 0, none⟩)), (7, .pointer (some ⟨b_2, 0, none⟩)), (8, .bool false), (10, .pointer (some ⟨b_3, 0, none⟩)), (12, .pointer (some ⟨b_4, 0, none⟩)), (56, vr_1), (57, .int .i64 (r_3.length : Int)), (58, .int .i64 n_1), (79, .bool b_5)] ⟨e0, e1, e6, e7, e8, e10, e12, e56, e57, e58, e79, trivial⟩ ?_
      refine HW.cond b_5 rfl (fun c_8 => ?_) (fun c_8 => ?_)
      ·
       replace hM := hM.1 c_8
       refine HW.regionA 8 mixed (fun h => (Blk h b_3 (.cells #[.int .i64 x_0_1, .map (some r_6)] 79 (0, 0))) ∧ (Blk h b_1 (.cells (e_api_Tune t).toArray 26 (0, 0))) ∧ (Blk h b_4 (.cells (e_api_Addr (gi r_3 n_1)).toArray 30 (0, 0)))) [] (by kernel_rfl) ?_
       refine HA.val (k := 0) (v := .pointer (some ⟨b_3, 0, none⟩)) rfl rfl (by kernel_rfl) (by kernel_rfl) (want_none) rfl (fun _ ⟨c470, c472, c474⟩ => q_move rfl) ?_
       refine HA.val (k := 1) (v := .pointer (some ⟨b_3, 0, none⟩)) rfl rfl (by kernel_rfl) (by kernel_rfl) (want_none) rfl (fun _ ⟨c470, c472, c474⟩ => q_nilCheck rfl) ?_
       refine HA.val (k := 2) (v := .pointer (some ⟨b_3, 1, none⟩)) rfl rfl (by kernel_rfl) (by kernel_rfl) (want_none) rfl (fun _ ⟨c470, c472, c474⟩ => q_fieldAddr fa_79_1 rfl rfl) ?_
       refine HA.val (k := 3) (v := .map (some r_6)) rfl rfl (by kernel_rfl) (by kernel_rfl) (want_none) rfl (fun _ ⟨c470, c472, c474⟩ => q_load to_77 rfl (Blk.cell c470 rfl)) ?_
       refine HA.val (k := 4) (v := .agg (e_api_Addr (gi r_3 n_1)).toArray) rfl rfl (by kernel_rfl) (by kernel_rfl) (want_none) rfl (fun _ ⟨c470, c472, c474⟩ => q_loadAgg (cs := (e_api_Addr (gi r_3 n_1))) ta_30 rfl rfl (Blk.cells (k := 17) c474 rfl)) ?_
       refine HA.val (k := 5) (v := .pointer (some ⟨b_1, 4, none⟩)) rfl rfl (by kernel_rfl) (by kernel_rfl) (want_none) rfl (fun _ ⟨c470, c472, c474⟩ => q_fieldAddr fa_26_4 rfl rfl) ?_
       refine HA.val (k := 6) (v := .int .i64 t.2.2.2.2) rfl rfl (by kernel_rfl) (by kernel_rfl) (want_none) rfl (fun _ ⟨c470, c472, c474⟩ => q_load to_3 rfl (Blk.cell c472 rfl)) ?_
       refine HA.one (k := 7) ⟨⟨(hS.box 4 rfl), (hS.box 6 rfl), (hS.box 8 rfl)⟩, (Go.Wk.at_nil _ _)⟩ (by kernel_rfl) ?_
       refine HS.sto rfl (want_none) rfl (st_mapUpdateK (k := (gi r_3 n_1)) (v := t.2.2.2.2) hS (i := 5) rfl ka_30 tmk_77 rfl rfl rfl) ?_
       rintro h_16 ⟨hS, hk⟩
       replace hK := hK.trans hk
       replace hL_a_Sources := hL_a_Sources.kp hk
       refine HA.nil ⟨⟨(hS.box 4 rfl), (hS.box 6 rfl), (hS.box 8 rfl)⟩, (Go.Wk.at_nil _ _)⟩ (by kernel_rfl) (blockQ_normal (thenQ_normal (?_)))
       refine HW.region ?_
       obtain ⟨ho_2, hM⟩ := hM
       refine oV (.int .i64 (n_1 + 1)) (q_addN _ rfl rfl rfl ho_2.1 ho_2.2) rfl ?_
       refine oM (.int .i64 (n_1 + 1)) rfl rfl ?_
       refine HO.nil (thenQ_normal (?_))
       replace hS : St F_10 (Ow.box bq 73 #[.int .i64 q_now_4, .pointer (some ⟨bq_at, 0, none⟩), .int .i64 q_first_4, .map (some rq_open)] :: Ow.box bq_at 110 #[.map (some rq_at_at)] :: Ow.map rq_at_at kT kI qm_7 :: Ow.pm rq_open (fun (x : T_api_Addr) => .agg (e_api_Addr x).toArray) pv_query_left th_query_left qm_8 (some (a_Group, (b_3, r_6))) :: Ow.box b_3 79 #[.int .i64 x_0_1, .map (some r_6)] :: Ow.map r_6 (fun (x : T_api_Addr) => .agg (e_api_Addr x).toArray) kI (mset x_1_1 (gi r_3 n_1) t.2.2.2.2) :: Ow.box b_1 26 (e_api_Tune t).toArray :: Ow.box b_2 34 (c_api_Asked a_Group (.bool a_All) va_Sources).toArray :: Ow.own 30 17 e_api_Addr vr_1 r_3 :: fr) h_16 := hS.perm2 [0, 1, 2, 3, 4, 5, 6, 7, 9] 10 rfl rfl
       rw [hKe_1] at hM
       exact ⟨(mset x_1_1 (gi r_3 n_1) t.2.2.2.2, n_1 + 1), ⟨F_10, rfl, rfl, rfl, rfl, rfl, rfl, rfl, rfl, rfl, hK, hS, hL_a_Sources, hM.1⟩, hM.2⟩
      ·
       replace hM := hM.2 c_8
       refine HW.skip (blockQ_normal (thenQ_normal (?_)))
       refine HW.region ?_
       obtain ⟨ho_3, hM⟩ := hM
       refine oV (.int .i64 (n_1 + 1)) (q_addN _ rfl rfl rfl ho_3.1 ho_3.2) rfl ?_
       refine oM (.int .i64 (n_1 + 1)) rfl rfl ?_
       refine HO.nil (thenQ_normal (?_))
       replace hS : St F_10 (Ow.box bq 73 #[.int .i64 q_now_4, .pointer (some ⟨bq_at, 0, none⟩), .int .i64 q_first_4, .map (some rq_open)] :: Ow.box bq_at 110 #[.map (some rq_at_at)] :: Ow.map rq_at_at kT kI qm_7 :: Ow.pm rq_open (fun (x : T_api_Addr) => .agg (e_api_Addr x).toArray) pv_query_left th_query_left qm_8 (some (a_Group, (b_3, r_6))) :: Ow.box b_3 79 #[.int .i64 x_0_1, .map (some r_6)] :: Ow.map r_6 (fun (x : T_api_Addr) => .agg (e_api_Addr x).toArray) kI x_1_1 :: Ow.box b_1 26 (e_api_Tune t).toArray :: Ow.box b_2 34 (c_api_Asked a_Group (.bool a_All) va_Sources).toArray :: Ow.own 30 17 e_api_Addr vr_1 r_3 :: fr) h_15 := hS.perm2 [0, 1, 2, 3, 4, 5, 6, 7, 9] 10 rfl rfl
       rw [hKe_1] at hM
       exact ⟨(x_1_1, n_1 + 1), ⟨F_10, rfl, rfl, rfl, rfl, rfl, rfl, rfl, rfl, rfl, hK, hS, hL_a_Sources, hM.1⟩, hM.2⟩
    ·
     replace hM := hM.2 (of_decide_eq_false c_6)
     refine HW.exit (thenQ_exit (thenQ_exit (blockQ_exit (thenQ_normal (?_)))))
     refine HW.seq ?_
     refine HW.regionA 9 mixed (fun h => (Blk h bq (.cells #[.int .i64 q_now_4, .pointer (some ⟨bq_at, 0, none⟩), .int .i64 q_first_4, .map (some rq_open)] 73 (0, 0))) ∧ (Blk h b_2 (.cells (c_api_Asked a_Group (.bool a_All) va_Sources).toArray 34 (0, 0)))) [] (by kernel_rfl) ?_
     refine HA.val (k := 0) (v := .pointer (some ⟨bq, 0, none⟩)) rfl rfl (by kernel_rfl) (by kernel_rfl) (want_none) rfl (fun _ ⟨c384, c391⟩ => q_move rfl) ?_
     refine HA.val (k := 1) (v := .pointer (some ⟨bq, 0, none⟩)) rfl rfl (by kernel_rfl) (by kernel_rfl) (want_none) rfl (fun _ ⟨c384, c391⟩ => q_nilCheck rfl) ?_
     refine HA.val (k := 2) (v := .pointer (some ⟨bq, 1, none⟩)) rfl rfl (by kernel_rfl) (by kernel_rfl) (want_none) rfl (fun _ ⟨c384, c391⟩ => q_fieldAddr fa_73_1 rfl rfl) ?_
     refine HA.val (k := 3) (v := .pointer (some ⟨bq_at, 0, none⟩)) rfl rfl (by kernel_rfl) (by kernel_rfl) (want_none) rfl (fun _ ⟨c384, c391⟩ => q_load to_69 rfl (Blk.cell c384 rfl)) ?_
     refine HA.val (k := 4) (v := .pointer (some ⟨b_2, 0, none⟩)) rfl rfl (by kernel_rfl) (by kernel_rfl) (want_none) rfl (fun _ ⟨c384, c391⟩ => q_fieldAddr fa_34_0 rfl rfl) ?_
     refine HA.val (k := 5) (v := .agg (e_api_Addr a_Group).toArray) rfl rfl (by kernel_rfl) (by kernel_rfl) (want_none) rfl (fun _ ⟨c384, c391⟩ => q_loadAgg (cs := (e_api_Addr a_Group)) ta_30 rfl rfl (Blk.cells (k := 17) c391 rfl)) ?_
     refine HA.val (k := 7) (v := .int .i64 r_2) rfl rfl (by kernel_rfl) (by kernel_rfl) (want_none) rfl (fun _ ⟨c384, c391⟩ => q_move rfl) ?_
     refine HA.one (k := 6) ⟨⟨(hS.box 0 rfl), (hS.box 7 rfl)⟩, (Go.Wk.at_nil _ _)⟩ (by kernel_rfl) ?_
     refine HS.call rfl (want_none) rfl (ec en_41 rfl rfl) (query_key_walk (fr := (Ow.box bq 73 #[.int .i64 q_now_4, .pointer (some ⟨bq_at, 0, none⟩), .int .i64 q_first_4, .map (some rq_open)] :: Ow.box bq_at 110 #[.map (some rq_at_at)] :: Ow.map rq_at_at kT kI qm_7 :: Ow.pm rq_open (fun (x : T_api_Addr) => .agg (e_api_Addr x).toArray) pv_query_left th_query_left qm_8 (some (a_Group, (b_3, r_6))) :: Ow.box b_3 79 #[.int .i64 x_0_1, .map (some r_6)] :: Ow.map r_6 (fun (x : T_api_Addr) => .agg (e_api_Addr x).toArray) kI x_1_1 :: Ow.box b_1 26 (e_api_Tune t).toArray :: Ow.box b_2 34 (c_api_Asked a_Group (.bool a_All) va_Sources).toArray :: Ow.own 30 17 e_api_Addr vr_1 r_3 :: fr)) a_Group hS hM) ?_
     rintro _ h_17 ⟨F_11, r_7, rfl, hk, hS, hM⟩
     replace hK := hK.trans hk
     replace hL_a_Sources := hL_a_Sources.kp hk
     refine HA.one (k := 8) ⟨⟨(hS.box 0 rfl), (hS.box 7 rfl)⟩, (Go.Wk.at_nil _ _)⟩ (by kernel_rfl) ?_
     replace hS : St F_11 (Ow.box bq_at 110 #[.map (some rq_at_at)] :: Ow.map rq_at_at kT kI qm_7 :: Ow.box bq 73 #[.int .i64 q_now_4, .pointer (some ⟨bq_at, 0, none⟩), .int .i64 q_first_4, .map (some rq_open)] :: Ow.pm rq_open (fun (x : T_api_Addr) => .agg (e_api_Addr x).toArray) pv_query_left th_query_left qm_8 (some (a_Group, (b_3, r_6))) :: Ow.box b_3 79 #[.int .i64 x_0_1, .map (some r_6)] :: Ow.map r_6 (fun (x : T_api_Addr) => .agg (e_api_Addr x).toArray) kI x_1_1 :: Ow.box b_1 26 (e_api_Tune t).toArray :: Ow.box b_2 34 (c_api_Asked a_Group (.bool a_All) va_Sources).toArray :: Ow.own 30 17 e_api_Addr vr_1 r_3 :: fr) h_17 := hS.perm2 [1, 2, 0, 3, 4, 5, 6, 7, 8] 9 rfl rfl
     refine HS.call rfl (want_none) rfl (ec en_40 rfl rfl) (clock_Clock_Set_string_walk (fr := (Ow.box bq 73 #[.int .i64 q_now_4, .pointer (some ⟨bq_at, 0, none⟩), .int .i64 q_first_4, .map (some rq_open)] :: Ow.pm rq_open (fun (x : T_api_Addr) => .agg (e_api_Addr x).toArray) pv_query_left th_query_left qm_8 (some (a_Group, (b_3, r_6))) :: Ow.box b_3 79 #[.int .i64 x_0_1, .map (some r_6)] :: Ow.map r_6 (fun (x : T_api_Addr) => .agg (e_api_Addr x).toArray) kI x_1_1 :: Ow.box b_1 26 (e_api_Tune t).toArray :: Ow.box b_2 34 (c_api_Asked a_Group (.bool a_All) va_Sources).toArray :: Ow.own 30 17 e_api_Addr vr_1 r_3 :: fr)) qm_7 r_7 r_2 bq_at rq_at_at hS hM) ?_
     rintro _ h_18 ⟨F_12, r_8, cm_1, rfl, hk, hS, hM⟩
     replace hK := hK.trans hk
     replace hL_a_Sources := hL_a_Sources.kp hk
     refine HA.nil ⟨⟨(hS.box 2 rfl), (hS.box 7 rfl)⟩, (Go.Wk.at_nil _ _)⟩ (by kernel_rfl) (thenQ_normal (?_))
     refine HW.seq ?_
     refine HW.region ?_
     refine oA (.bool true) rfl rfl ?_
     refine HO.nil (thenQ_normal (?_))
     refine HW.ret (?_)
     refine ⟨.inr rfl, .bool true, res1 rfl (rt rfl), ?_⟩
     replace hM := hM b_3
     replace hM := hM r_6
     replace hS : St F_12 (Ow.box b_3 79 #[.int .i64 x_0_1, .map (some r_6)] :: Ow.map r_6 (fun (x : T_api_Addr) => .agg (e_api_Addr x).toArray) kI x_1_1 :: Ow.box bq_at 110 #[.map (some rq_at_at)] :: Ow.map rq_at_at kT kI cm_1 :: Ow.box bq 73 #[.int .i64 q_now_4, .pointer (some ⟨bq_at, 0, none⟩), .int .i64 q_first_4, .map (some rq_open)] :: Ow.pm rq_open (fun (x : T_api_Addr) => .agg (e_api_Addr x).toArray) pv_query_left th_query_left qm_8 (some (a_Group, (b_3, r_6))) :: Ow.box b_1 26 (e_api_Tune t).toArray :: Ow.box b_2 34 (c_api_Asked a_Group (.bool a_All) va_Sources).toArray :: Ow.own 30 17 e_api_Addr vr_1 r_3 :: fr) h_18 := hS.perm2 [4, 5, 0, 1, 2, 3, 6, 7, 8] 9 rfl rfl
     replace hS : St F_12 (Ow.box bq_at 110 #[.map (some rq_at_at)] :: Ow.map rq_at_at kT kI cm_1 :: Ow.box bq 73 #[.int .i64 q_now_4, .pointer (some ⟨bq_at, 0, none⟩), .int .i64 q_first_4, .map (some rq_open)] :: Ow.pm rq_open (fun (x : T_api_Addr) => .agg (e_api_Addr x).toArray) pv_query_left th_query_left (mset qm_8 a_Group ((b_3, r_6), (x_0_1, x_1_1))) none :: Ow.box b_1 26 (e_api_Tune t).toArray :: Ow.box b_2 34 (c_api_Asked a_Group (.bool a_All) va_Sources).toArray :: Ow.own 30 17 e_api_Addr vr_1 r_3 :: fr) h_18 := St.pmPut (th := th_query_left) (j := (b_3, r_6)) (y := (x_0_1, x_1_1)) (St.doboth hS) 3 rfl
     replace hS : St F_12 (Ow.box bq 73 #[.int .i64 q_now_4, .pointer (some ⟨bq_at, 0, none⟩), .int .i64 q_first_4, .map (some rq_open)] :: Ow.box bq_at 110 #[.map (some rq_at_at)] :: Ow.map rq_at_at kT kI cm_1 :: Ow.pm rq_open (fun (x : T_api_Addr) => .agg (e_api_Addr x).toArray) pv_query_left th_query_left (mset qm_8 a_Group ((b_3, r_6), (x_0_1, x_1_1))) none :: fr) h_18 := hS.perm2 [2, 0, 1, 3] 7 rfl rfl
     exact ⟨F_12, true, q_now_4, cm_1, q_first_4, mset qm_8 a_Group ((b_3, r_6), (x_0_1, x_1_1)), rfl, hK, hS, hL_a_Sources, hM⟩

def slices_Collect_api_Addr_k1_W (seq : List (T_api_Addr × (Nat × Nat) × T_query_left)) (Q : (List T_api_Addr) → Prop) : Prop :=
 ((seq).length * 17 ≤ 140737488355328) ∧ (∀ l_1 : List T_api_Addr, List.Perm l_1 (seq.map Prod.fst) → (Q l_1))
set_option maxHeartbeats 40000000 in
set_option maxRecDepth 100000 in
theorem slices_Collect_api_Addr_k1_walk {F : Fz} {fr : List Ow} {h0 : Heap} (seq : List (T_api_Addr × (Nat × Nat) × T_query_left)) (bseq : Nat) (rseq : Nat) (hS : St F (fr) h0) (hM_rseq : RoF (Ow.map rseq (fun (x : T_api_Addr) => .agg (e_api_Addr x).toArray) (pmV (β := T_query_left) pv_query_left) seq) F h0) (hB_bseq : RoF (Ow.box bseq 71 #[.map (some rseq)]) F h0) {Q : (List T_api_Addr) → Prop} (hM : slices_Collect_api_Addr_k1_W seq Q) :
  HC Try.prog 102 #[.func (.func 103) #[] #[.pointer (some ⟨bseq, 0, none⟩)]] h0 fun u h' => ∃ (F' : Fz) (r_1 : List T_api_Addr) (vr_1 : Value), u = vr_1 ∧ Kp F h0 F' h' ∧ St F' (Ow.own 30 17 e_api_Addr vr_1 r_1 :: fr) h' ∧ (RoF (Ow.map rseq (fun (x : T_api_Addr) => .agg (e_api_Addr x).toArray) (pmV (β := T_query_left) pv_query_left) seq) F' h') ∧ (RoF (Ow.box bseq 71 #[.map (some rseq)]) F' h') ∧ Q r_1 := by
 unfold slices_Collect_api_Addr_k1_W at hM
 have hK := Kp.refl F h0
 refine HC.of_HW (n := 5) Try.func102 rfl rfl (Nat.le_of_ble_eq_true rfl) ?_
 refine HW.seq ?_
 refine HW.region ?_
 refine oA (.slice none 0 0) rfl rfl ?_
 refine HO.nil (thenQ_normal (?_))
 refine HW.seq ?_
 refine HW.region ?_
 refine oM (.func (.func 103) #[] #[.pointer (some ⟨bseq, 0, none⟩)]) rfl rfl ?_
 obtain ⟨ho_1, hM⟩ := hM
 refine HO.call (want_none) rfl (ec en_126 rfl rfl) (apk_126_103 hS hB_bseq.box hM_rseq.mp ho_1) ?_
 rintro v_1 h_1 ⟨l_1, hp_1, hS, hk⟩
 replace hM := hM l_1 hp_1
 replace hK := hK.trans hk
 replace hM_rseq := hM_rseq.kp hk
 replace hB_bseq := hB_bseq.kp hk
 refine oA (v_1) rfl rfl ?_
 refine HO.nil (thenQ_normal (?_))
 refine HW.ret (?_)
 refine ⟨.inr rfl, v_1, res1 rfl (rt rfl), ?_⟩
 exact ⟨F, l_1, v_1, rfl, hK, hS, hM_rseq, hB_bseq, hM⟩

def slices_Collect_api_Addr_k2_W (seq : List (T_api_Addr × Int)) (Q : (List T_api_Addr) → Prop) : Prop :=
 ((seq).length * 17 ≤ 140737488355328) ∧ (∀ l_1 : List T_api_Addr, List.Perm l_1 (seq.map Prod.fst) → (Q l_1))
set_option maxHeartbeats 40000000 in
set_option maxRecDepth 100000 in
theorem slices_Collect_api_Addr_k2_walk {F : Fz} {fr : List Ow} {h0 : Heap} (seq : List (T_api_Addr × Int)) (bseq : Nat) (rseq : Nat) (hS : St F (fr) h0) (hM_rseq : RoF (Ow.map rseq (fun (x : T_api_Addr) => .agg (e_api_Addr x).toArray) kI seq) F h0) (hB_bseq : RoF (Ow.box bseq 77 #[.map (some rseq)]) F h0) {Q : (List T_api_Addr) → Prop} (hM : slices_Collect_api_Addr_k2_W seq Q) :
  HC Try.prog 102 #[.func (.func 104) #[] #[.pointer (some ⟨bseq, 0, none⟩)]] h0 fun u h' => ∃ (F' : Fz) (r_1 : List T_api_Addr) (vr_1 : Value), u = vr_1 ∧ Kp F h0 F' h' ∧ St F' (Ow.own 30 17 e_api_Addr vr_1 r_1 :: fr) h' ∧ (RoF (Ow.map rseq (fun (x : T_api_Addr) => .agg (e_api_Addr x).toArray) kI seq) F' h') ∧ (RoF (Ow.box bseq 77 #[.map (some rseq)]) F' h') ∧ Q r_1 := by
 unfold slices_Collect_api_Addr_k2_W at hM
 have hK := Kp.refl F h0
 refine HC.of_HW (n := 5) Try.func102 rfl rfl (Nat.le_of_ble_eq_true rfl) ?_
 refine HW.seq ?_
 refine HW.region ?_
 refine oA (.slice none 0 0) rfl rfl ?_
 refine HO.nil (thenQ_normal (?_))
 refine HW.seq ?_
 refine HW.region ?_
 refine oM (.func (.func 104) #[] #[.pointer (some ⟨bseq, 0, none⟩)]) rfl rfl ?_
 obtain ⟨ho_1, hM⟩ := hM
 refine HO.call (want_none) rfl (ec en_126 rfl rfl) (apk_126_104 hS hB_bseq.box hM_rseq.mp ho_1) ?_
 rintro v_1 h_1 ⟨l_1, hp_1, hS, hk⟩
 replace hM := hM l_1 hp_1
 replace hK := hK.trans hk
 replace hM_rseq := hM_rseq.kp hk
 replace hB_bseq := hB_bseq.kp hk
 refine oA (v_1) rfl rfl ?_
 refine HO.nil (thenQ_normal (?_))
 refine HW.ret (?_)
 refine ⟨.inr rfl, v_1, res1 rfl (rt rfl), ?_⟩
 exact ⟨F, l_1, v_1, rfl, hK, hS, hM_rseq, hB_bseq, hM⟩

def slices_SortedFunc_api_Addr_k1_W (seq : List (T_api_Addr × (Nat × Nat) × T_query_left)) (cf_cmp : T_api_Addr → T_api_Addr → Int) (Q : (List T_api_Addr) → Prop) : Prop :=
 slices_Collect_api_Addr_k1_W seq (fun r_2 => Swo cf_cmp ∧ (r_2).length < 4611686018427387904 ∧ ∀ l_1 : List T_api_Addr, List.Perm l_1 r_2 → List.Pairwise (fun x y => ¬ cf_cmp y x < 0) l_1 → (Q l_1))
set_option maxHeartbeats 40000000 in
set_option maxRecDepth 100000 in
theorem slices_SortedFunc_api_Addr_k1_walk {F : Fz} {fr : List Ow} {h0 : Heap} (seq : List (T_api_Addr × (Nat × Nat) × T_query_left)) (cf_cmp : T_api_Addr → T_api_Addr → Int) (bseq : Nat) (rseq : Nat) (g_cmp : Nat) (cs_cmp : Array Value) (hS : St F (fr) h0) (hM_rseq : RoF (Ow.map rseq (fun (x : T_api_Addr) => .agg (e_api_Addr x).toArray) (pmV (β := T_query_left) pv_query_left) seq) F h0) (hB_bseq : RoF (Ow.box bseq 71 #[.map (some rseq)]) F h0) (hF_cf_cmp : FnP Try.prog F h0 g_cmp #[] cs_cmp (fun x : T_api_Addr × T_api_Addr => [.agg (e_api_Addr x.1).toArray, .agg (e_api_Addr x.2).toArray]) (fun x => .int .i64 (cf_cmp x.1 x.2))) {Q : (List T_api_Addr) → Prop} (hM : slices_SortedFunc_api_Addr_k1_W seq cf_cmp Q) :
  HC Try.prog 77 #[.func (.func 103) #[] #[.pointer (some ⟨bseq, 0, none⟩)], .func (.func g_cmp) #[] cs_cmp] h0 fun u h' => ∃ (F' : Fz) (r_1 : List T_api_Addr) (vr_1 : Value), u = vr_1 ∧ Kp F h0 F' h' ∧ St F' (Ow.own 30 17 e_api_Addr vr_1 r_1 :: fr) h' ∧ (RoF (Ow.map rseq (fun (x : T_api_Addr) => .agg (e_api_Addr x).toArray) (pmV (β := T_query_left) pv_query_left) seq) F' h') ∧ (RoF (Ow.box bseq 71 #[.map (some rseq)]) F' h') ∧ (FnP Try.prog F' h' g_cmp #[] cs_cmp (fun x : T_api_Addr × T_api_Addr => [.agg (e_api_Addr x.1).toArray, .agg (e_api_Addr x.2).toArray]) (fun x => .int .i64 (cf_cmp x.1 x.2))) ∧ Q r_1 := by
 unfold slices_SortedFunc_api_Addr_k1_W at hM
 have hK := Kp.refl F h0
 refine HC.of_HW (n := 12) Try.func77 rfl rfl (Nat.le_of_ble_eq_true rfl) ?_
 refine HW.seq ?_
 refine HW.region ?_
 refine oA (.slice none 0 0) rfl rfl ?_
 refine HO.nil (thenQ_normal (?_))
 refine HW.seq ?_
 refine HW.region ?_
 refine oM (.func (.func 103) #[] #[.pointer (some ⟨bseq, 0, none⟩)]) rfl rfl ?_
 refine HO.call (want_none) rfl (ec en_102 rfl rfl) (slices_Collect_api_Addr_k1_walk (fr := (fr)) seq bseq rseq hS hM_rseq hB_bseq hM) ?_
 rintro vr_2 h_1 ⟨F_1, r_2, _, rfl, hk, hS, _, _, hM⟩
 replace hK := hK.trans hk
 replace hM_rseq := hM_rseq.kp hk
 replace hB_bseq := hB_bseq.kp hk
 replace hF_cf_cmp := hF_cf_cmp.kp hk
 refine oA (vr_2) rfl rfl ?_
 refine HO.nil (thenQ_normal (?_))
 refine HW.seq ?_
 refine HW.region ?_
 refine oM (vr_2) rfl rfl ?_
 refine oM (.func (.func g_cmp) #[] cs_cmp) rfl rfl ?_
 obtain ⟨ho_1, ho_2, hM⟩ := hM
 refine HO.call (want_none) rfl (ec en_71 rfl rfl) (sortFunc_own Try.sortAddr (by decide) (fun w => by kernel_rfl) (fun w => by kernel_rfl) (enc := e_api_Addr) (fun _ => rfl) (by intro a u hu; simp [e_api_Addr, encI, encN, encB, encT] at hu; rcases hu with rfl | rfl | rfl | rfl | rfl | rfl | rfl | rfl | rfl | rfl | rfl | rfl | rfl | rfl | rfl | rfl | rfl <;> rfl) ho_1 hS hF_cf_cmp ho_2) ?_
 rintro _ h_2 ⟨l_1, rfl, hk, hS, hp_1, hs_1⟩
 replace hM := hM l_1 hp_1 hs_1
 replace hK := hK.trans hk
 replace hM_rseq := hM_rseq.kp hk
 replace hB_bseq := hB_bseq.kp hk
 replace hF_cf_cmp := hF_cf_cmp.kp hk
 refine HO.nil (thenQ_normal (?_))
 refine HW.seq ?_
 refine HW.region ?_
 refine oM (vr_2) rfl rfl ?_
 refine oA (vr_2) rfl rfl ?_
 refine HO.nil (thenQ_normal (?_))
 refine HW.ret (?_)
 refine ⟨.inr rfl, vr_2, res1 rfl (rt rfl), ?_⟩
 exact ⟨F_1, l_1, vr_2, rfl, hK, hS, hM_rseq, hB_bseq, hF_cf_cmp, hM⟩

def slices_SortedFunc_api_Addr_k2_W (seq : List (T_api_Addr × Int)) (cf_cmp : T_api_Addr → T_api_Addr → Int) (Q : (List T_api_Addr) → Prop) : Prop :=
 slices_Collect_api_Addr_k2_W seq (fun r_2 => Swo cf_cmp ∧ (r_2).length < 4611686018427387904 ∧ ∀ l_1 : List T_api_Addr, List.Perm l_1 r_2 → List.Pairwise (fun x y => ¬ cf_cmp y x < 0) l_1 → (Q l_1))
set_option maxHeartbeats 40000000 in
set_option maxRecDepth 100000 in
theorem slices_SortedFunc_api_Addr_k2_walk {F : Fz} {fr : List Ow} {h0 : Heap} (seq : List (T_api_Addr × Int)) (cf_cmp : T_api_Addr → T_api_Addr → Int) (bseq : Nat) (rseq : Nat) (g_cmp : Nat) (cs_cmp : Array Value) (hS : St F (fr) h0) (hM_rseq : RoF (Ow.map rseq (fun (x : T_api_Addr) => .agg (e_api_Addr x).toArray) kI seq) F h0) (hB_bseq : RoF (Ow.box bseq 77 #[.map (some rseq)]) F h0) (hF_cf_cmp : FnP Try.prog F h0 g_cmp #[] cs_cmp (fun x : T_api_Addr × T_api_Addr => [.agg (e_api_Addr x.1).toArray, .agg (e_api_Addr x.2).toArray]) (fun x => .int .i64 (cf_cmp x.1 x.2))) {Q : (List T_api_Addr) → Prop} (hM : slices_SortedFunc_api_Addr_k2_W seq cf_cmp Q) :
  HC Try.prog 77 #[.func (.func 104) #[] #[.pointer (some ⟨bseq, 0, none⟩)], .func (.func g_cmp) #[] cs_cmp] h0 fun u h' => ∃ (F' : Fz) (r_1 : List T_api_Addr) (vr_1 : Value), u = vr_1 ∧ Kp F h0 F' h' ∧ St F' (Ow.own 30 17 e_api_Addr vr_1 r_1 :: fr) h' ∧ (RoF (Ow.map rseq (fun (x : T_api_Addr) => .agg (e_api_Addr x).toArray) kI seq) F' h') ∧ (RoF (Ow.box bseq 77 #[.map (some rseq)]) F' h') ∧ (FnP Try.prog F' h' g_cmp #[] cs_cmp (fun x : T_api_Addr × T_api_Addr => [.agg (e_api_Addr x.1).toArray, .agg (e_api_Addr x.2).toArray]) (fun x => .int .i64 (cf_cmp x.1 x.2))) ∧ Q r_1 := by
 unfold slices_SortedFunc_api_Addr_k2_W at hM
 have hK := Kp.refl F h0
 refine HC.of_HW (n := 12) Try.func77 rfl rfl (Nat.le_of_ble_eq_true rfl) ?_
 refine HW.seq ?_
 refine HW.region ?_
 refine oA (.slice none 0 0) rfl rfl ?_
 refine HO.nil (thenQ_normal (?_))
 refine HW.seq ?_
 refine HW.region ?_
 refine oM (.func (.func 104) #[] #[.pointer (some ⟨bseq, 0, none⟩)]) rfl rfl ?_
 refine HO.call (want_none) rfl (ec en_102 rfl rfl) (slices_Collect_api_Addr_k2_walk (fr := (fr)) seq bseq rseq hS hM_rseq hB_bseq hM) ?_
 rintro vr_2 h_1 ⟨F_1, r_2, _, rfl, hk, hS, _, _, hM⟩
 replace hK := hK.trans hk
 replace hM_rseq := hM_rseq.kp hk
 replace hB_bseq := hB_bseq.kp hk
 replace hF_cf_cmp := hF_cf_cmp.kp hk
 refine oA (vr_2) rfl rfl ?_
 refine HO.nil (thenQ_normal (?_))
 refine HW.seq ?_
 refine HW.region ?_
 refine oM (vr_2) rfl rfl ?_
 refine oM (.func (.func g_cmp) #[] cs_cmp) rfl rfl ?_
 obtain ⟨ho_1, ho_2, hM⟩ := hM
 refine HO.call (want_none) rfl (ec en_71 rfl rfl) (sortFunc_own Try.sortAddr (by decide) (fun w => by kernel_rfl) (fun w => by kernel_rfl) (enc := e_api_Addr) (fun _ => rfl) (by intro a u hu; simp [e_api_Addr, encI, encN, encB, encT] at hu; rcases hu with rfl | rfl | rfl | rfl | rfl | rfl | rfl | rfl | rfl | rfl | rfl | rfl | rfl | rfl | rfl | rfl | rfl <;> rfl) ho_1 hS hF_cf_cmp ho_2) ?_
 rintro _ h_2 ⟨l_1, rfl, hk, hS, hp_1, hs_1⟩
 replace hM := hM l_1 hp_1 hs_1
 replace hK := hK.trans hk
 replace hM_rseq := hM_rseq.kp hk
 replace hB_bseq := hB_bseq.kp hk
 replace hF_cf_cmp := hF_cf_cmp.kp hk
 refine HO.nil (thenQ_normal (?_))
 refine HW.seq ?_
 refine HW.region ?_
 refine oM (vr_2) rfl rfl ?_
 refine oA (vr_2) rfl rfl ?_
 refine HO.nil (thenQ_normal (?_))
 refine HW.ret (?_)
 refine ⟨.inr rfl, vr_2, res1 rfl (rt rfl), ?_⟩
 exact ⟨F_1, l_1, vr_2, rfl, hK, hS, hM_rseq, hB_bseq, hF_cf_cmp, hM⟩

def query_Queries_groups_W (q_now : Int) (q_at_at : List (Str × Int)) (q_first : Int) (q_open : List (T_api_Addr × (Nat × Nat) × T_query_left)) (Q : (List T_api_Addr) → Prop) : Prop :=
 ∃ cf_1 : T_api_Addr → T_api_Addr → Int, (∀ x0 x1, addr_Cmp_W x0 x1 (fun r => r = cf_1 x0 x1)) ∧ (slices_SortedFunc_api_Addr_k1_W q_open cf_1 (fun r_2 => Q r_2))
set_option maxHeartbeats 40000000 in
set_option maxRecDepth 100000 in
theorem query_Queries_groups_walk {F : Fz} {fr : List Ow} {h0 : Heap} (q_now : Int) (q_at_at : List (Str × Int)) (q_first : Int) (q_open : List (T_api_Addr × (Nat × Nat) × T_query_left)) (bq : Nat) (bq_at : Nat) (rq_at_at : Nat) (rq_open : Nat) (hS : St F (fr) h0) (hM_rq_at_at : RoF (Ow.map rq_at_at kT kI q_at_at) F h0) (hB_bq_at : RoF (Ow.box bq_at 110 #[.map (some rq_at_at)]) F h0) (hM_rq_open : RoF (Ow.pm rq_open (fun (x : T_api_Addr) => .agg (e_api_Addr x).toArray) pv_query_left th_query_left q_open none) F h0) (hB_bq : RoF (Ow.box bq 73 #[.int .i64 q_now, .pointer (some ⟨bq_at, 0, none⟩), .int .i64 q_first, .map (some rq_open)]) F h0) {Q : (List T_api_Addr) → Prop} (hM : query_Queries_groups_W q_now q_at_at q_first q_open Q) :
  HC Try.prog 42 #[.pointer (some ⟨bq, 0, none⟩)] h0 fun u h' => ∃ (F' : Fz) (r_1 : List T_api_Addr) (vr_1 : Value), u = vr_1 ∧ Kp F h0 F' h' ∧ St F' (Ow.own 30 17 e_api_Addr vr_1 r_1 :: fr) h' ∧ (RoF (Ow.map rq_at_at kT kI q_at_at) F' h') ∧ (RoF (Ow.box bq_at 110 #[.map (some rq_at_at)]) F' h') ∧ (RoF (Ow.pm rq_open (fun (x : T_api_Addr) => .agg (e_api_Addr x).toArray) pv_query_left th_query_left q_open none) F' h') ∧ (RoF (Ow.box bq 73 #[.int .i64 q_now, .pointer (some ⟨bq_at, 0, none⟩), .int .i64 q_first, .map (some rq_open)]) F' h') ∧ Q r_1 := by
 unfold query_Queries_groups_W at hM
 have hK := Kp.refl F h0
 refine HC.of_HW (n := 9) Try.func42 rfl rfl (Nat.le_of_ble_eq_true rfl) ?_
 refine HW.seq ?_
 refine HW.region ?_
 refine oA (.slice none 0 0) rfl rfl ?_
 refine HO.nil (thenQ_normal (?_))
 refine HW.seq ?_
 refine HW.region ?_
 refine oM (.pointer (some ⟨bq, 0, none⟩)) rfl rfl ?_
 refine oV (.pointer (some ⟨bq, 0, none⟩)) (q_nilCheck rfl) rfl ?_
 refine oV (.pointer (some ⟨bq, 3, none⟩)) (q_fieldAddr fa_73_3 rfl rfl) rfl ?_
 refine oV (.map (some rq_open)) (q_load to_71 rfl (Blk.cell hB_bq.box rfl)) rfl ?_
 refine HO.call (want_none) rfl (ec en_78 rfl rfl) (keys_hc Try.func78 rfl rfl rfl rfl hS) ?_
 rintro _ h_1 ⟨b_1, rfl, hS, hk⟩
 replace hK := hK.trans hk
 replace hM_rq_at_at := hM_rq_at_at.kp hk
 replace hB_bq_at := hB_bq_at.kp hk
 replace hM_rq_open := hM_rq_open.kp hk
 replace hB_bq := hB_bq.kp hk
 obtain ⟨cf_1, hc_1, hM⟩ := hM
 have hF_1 : FnP Try.prog F h_1 72 #[] #[] (fun x : T_api_Addr × T_api_Addr => [.agg (e_api_Addr x.1).toArray, .agg (e_api_Addr x.2).toArray]) (fun x => .int .i64 (cf_1 x.1 x.2)) := FnP.of en_72 (fun x h' hk_ => @HC.mono ⟨true⟩ _ _ _ _ _ _ (@addr_Cmp_walk ⟨true⟩ (allF h') [] h' x.1 x.2  (St.init h')  (fun r => r = cf_1 x.1 x.2) (hc_1 x.1 x.2)) (fun u h'' ⟨F', r, hu, k_, _, hr⟩ => ⟨by rw [hu, hr], F', k_⟩))
 replace hS : St F (Ow.box b_1 71 #[.map (some rq_open)] :: fr) h_1 := hS
 have hZ_1 := hS
 have hkz_1 := (hS.freeze).2
 replace hS := hS.freeze.1
 have hL_1 := hZ_1.lent
 refine HO.call (want_none) rfl (ec en_77 rfl rfl) (slices_SortedFunc_api_Addr_k1_walk (fr := (fr)) q_open cf_1 b_1 rq_open 72 (#[]) hS (hM_rq_open.kp hkz_1).pmRo hL_1 (hF_1.kp hkz_1) hM) ?_
 rintro vr_2 h_2 ⟨F_1, r_2, _, rfl, hk, hS, _, _, _, hM⟩
 obtain ⟨hS, hk⟩ := hZ_1.back hk hS
 generalize (fun bz_ => F_1 bz_ ∧ ¬ (Ow.box b_1 71 #[.map (some rq_open)]).foot bz_) = F_2 at hS hk
 replace hK := hK.trans hk
 replace hM_rq_at_at := hM_rq_at_at.kp hk
 replace hB_bq_at := hB_bq_at.kp hk
 replace hM_rq_open := hM_rq_open.kp hk
 replace hB_bq := hB_bq.kp hk
 refine oA (vr_2) rfl rfl ?_
 refine HO.nil (thenQ_normal (?_))
 refine HW.ret (?_)
 refine ⟨.inr rfl, vr_2, res1 rfl (rt rfl), ?_⟩
 replace hS : St F_2 (Ow.own 30 17 e_api_Addr vr_2 r_2 :: fr) h_2 := hS.perm2 [1] 2 rfl rfl
 exact ⟨F_2, r_2, vr_2, rfl, hK, hS, hM_rq_at_at, hB_bq_at, hM_rq_open, hB_bq, hM⟩

def query_left_asked_W (x_all : Int) (x_sources : List (T_api_Addr × Int)) (g : T_api_Addr) (Q : Bool → (Ba 16) → Bool → (List T_api_Addr) → Prop) : Prop :=
 ∃ cf_1 : T_api_Addr → T_api_Addr → Int, (∀ x0 x1, addr_Cmp_W x0 x1 (fun r => r = cf_1 x0 x1)) ∧ (slices_SortedFunc_api_Addr_k2_W x_sources cf_1 (fun r_1 => Q g.1 g.2 (decide (0 < x_all)) r_1))
set_option maxHeartbeats 40000000 in
set_option maxRecDepth 100000 in
theorem query_left_asked_walk {F : Fz} {fr : List Ow} {h0 : Heap} (x_all : Int) (x_sources : List (T_api_Addr × Int)) (g : T_api_Addr) (bx : Nat) (rx_sources : Nat) (hS : St F (fr) h0) (hM_rx_sources : RoF (Ow.map rx_sources (fun (x : T_api_Addr) => .agg (e_api_Addr x).toArray) kI x_sources) F h0) (hB_bx : RoF (Ow.box bx 79 #[.int .i64 x_all, .map (some rx_sources)]) F h0) {Q : Bool → (Ba 16) → Bool → (List T_api_Addr) → Prop} (hM : query_left_asked_W x_all x_sources g Q) :
  HC Try.prog 43 #[.pointer (some ⟨bx, 0, none⟩), .agg (e_api_Addr g).toArray] h0 fun u h' => ∃ (F' : Fz) (r_0_1 : Bool) (r_1_1 : Ba 16) (r_17_1 : Bool) (r_18_1 : List T_api_Addr) (vr_18_1 : Value), u = .agg (c_api_Asked (r_0_1, r_1_1) (.bool r_17_1) vr_18_1).toArray ∧ Kp F h0 F' h' ∧ St F' (Ow.own 30 17 e_api_Addr vr_18_1 r_18_1 :: fr) h' ∧ (RoF (Ow.map rx_sources (fun (x : T_api_Addr) => .agg (e_api_Addr x).toArray) kI x_sources) F' h') ∧ (RoF (Ow.box bx 79 #[.int .i64 x_all, .map (some rx_sources)]) F' h') ∧ Q r_0_1 r_1_1 r_17_1 r_18_1 := by
 unfold query_left_asked_W at hM
 have hK := Kp.refl F h0
 refine HC.of_HW (n := 18) Try.func43 rfl rfl (Nat.le_of_ble_eq_true rfl) ?_
 refine HW.seq ?_
 refine HW.region ?_
 refine HO.eff (want_none) rfl (st_box (c := (e_api_Addr g).toArray) (k' := 17) hS rfl rfl) ?_
 rintro _ h_1 ⟨b_1, rfl, hS, hk⟩
 replace hK := hK.trans hk
 replace hM_rx_sources := hM_rx_sources.kp hk
 replace hB_bx := hB_bx.kp hk
 refine HO.eff (want_none) rfl (st_alloc (c := (c_api_Asked (false, (default : Ba 16)) (.bool false) (.slice none 0 0)).toArray) hS tz_34 rfl) ?_
 rintro _ h_2 ⟨b_2, rfl, hS, hk⟩
 replace hK := hK.trans hk
 replace hM_rx_sources := hM_rx_sources.kp hk
 replace hB_bx := hB_bx.kp hk
 refine HO.nil (thenQ_normal (?_))
 refine HW.seq ?_
 refine HW.regionA 14 mixed (fun h => (Blk h bx (.cells #[.int .i64 x_all, .map (some rx_sources)] 79 (0, 0))) ∧ (Blk h b_1 (.cells (e_api_Addr g).toArray 30 (0, 0)))) [] (by kernel_rfl) ?_
 refine HA.val (k := 0) (v := .agg (e_api_Addr g).toArray) rfl rfl (by kernel_rfl) (by kernel_rfl) (want_none) rfl (fun _ ⟨hB_bx, c202⟩ => q_loadAgg (cs := (e_api_Addr g)) ta_30 rfl rfl (Blk.cells (k := 17) c202 rfl)) ?_
 refine HA.val (k := 1) (v := .pointer (some ⟨bx, 0, none⟩)) rfl rfl (by kernel_rfl) (by kernel_rfl) (want_none) rfl (fun _ ⟨hB_bx, c202⟩ => q_move rfl) ?_
 refine HA.val (k := 2) (v := .pointer (some ⟨bx, 0, none⟩)) rfl rfl (by kernel_rfl) (by kernel_rfl) (want_none) rfl (fun _ ⟨hB_bx, c202⟩ => q_nilCheck rfl) ?_
 refine HA.val (k := 3) (v := .pointer (some ⟨bx, 0, none⟩)) rfl rfl (by kernel_rfl) (by kernel_rfl) (want_none) rfl (fun _ ⟨hB_bx, c202⟩ => q_fieldAddr fa_79_0 rfl rfl) ?_
 refine HA.val (k := 4) (v := .int .i64 x_all) rfl rfl (by kernel_rfl) (by kernel_rfl) (want_none) rfl (fun _ ⟨hB_bx, c202⟩ => q_load to_3 rfl (Blk.cell hB_bx rfl)) ?_
 refine HA.val (k := 5) (v := .bool (decide (0 < x_all))) rfl rfl (by kernel_rfl) (by kernel_rfl) (want_none) rfl (fun _ ⟨hB_bx, c202⟩ => q_gtr rfl rfl) ?_
 refine HA.val (k := 6) (v := .pointer (some ⟨bx, 0, none⟩)) rfl rfl (by kernel_rfl) (by kernel_rfl) (want_none) rfl (fun _ ⟨hB_bx, c202⟩ => q_move rfl) ?_
 refine HA.val (k := 7) (v := .pointer (some ⟨bx, 0, none⟩)) rfl rfl (by kernel_rfl) (by kernel_rfl) (want_none) rfl (fun _ ⟨hB_bx, c202⟩ => q_nilCheck rfl) ?_
 refine HA.val (k := 8) (v := .pointer (some ⟨bx, 1, none⟩)) rfl rfl (by kernel_rfl) (by kernel_rfl) (want_none) rfl (fun _ ⟨hB_bx, c202⟩ => q_fieldAddr fa_79_1 rfl rfl) ?_
 refine HA.val (k := 9) (v := .map (some rx_sources)) rfl rfl (by kernel_rfl) (by kernel_rfl) (want_none) rfl (fun _ ⟨hB_bx, c202⟩ => q_load to_77 rfl (Blk.cell hB_bx rfl)) ?_
 refine HA.one (k := 10) ⟨⟨hB_bx.box, (hS.box 1 rfl)⟩, (Go.Wk.at_nil _ _)⟩ (by kernel_rfl) ?_
 refine HS.call rfl (want_none) rfl (ec en_79 rfl rfl) (keys_hc Try.func79 rfl rfl rfl rfl hS) ?_
 rintro _ h_3 ⟨b_3, rfl, hS, hk⟩
 replace hK := hK.trans hk
 replace hM_rx_sources := hM_rx_sources.kp hk
 replace hB_bx := hB_bx.kp hk
 refine HA.one (k := 11) ⟨⟨hB_bx.box, (hS.box 2 rfl)⟩, (Go.Wk.at_nil _ _)⟩ (by kernel_rfl) ?_
 obtain ⟨cf_1, hc_1, hM⟩ := hM
 have hF_1 : FnP Try.prog F h_3 72 #[] #[] (fun x : T_api_Addr × T_api_Addr => [.agg (e_api_Addr x.1).toArray, .agg (e_api_Addr x.2).toArray]) (fun x => .int .i64 (cf_1 x.1 x.2)) := FnP.of en_72 (fun x h' hk_ => @HC.mono ⟨true⟩ _ _ _ _ _ _ (@addr_Cmp_walk ⟨true⟩ (allF h') [] h' x.1 x.2  (St.init h')  (fun r => r = cf_1 x.1 x.2) (hc_1 x.1 x.2)) (fun u h'' ⟨F', r, hu, k_, _, hr⟩ => ⟨by rw [hu, hr], F', k_⟩))
 replace hS : St F (Ow.box b_3 77 #[.map (some rx_sources)] :: Ow.box b_2 34 (c_api_Asked (false, (default : Ba 16)) (.bool false) (.slice none 0 0)).toArray :: Ow.box b_1 30 (e_api_Addr g).toArray :: fr) h_3 := hS
 have hZ_1 := hS
 have hkz_1 := (hS.freeze).2
 replace hS := hS.freeze.1
 have hL_1 := hZ_1.lent
 refine HS.call rfl (want_none) rfl (ec en_77 rfl rfl) (slices_SortedFunc_api_Addr_k2_walk (fr := (Ow.box b_2 34 (c_api_Asked (false, (default : Ba 16)) (.bool false) (.slice none 0 0)).toArray :: Ow.box b_1 30 (e_api_Addr g).toArray :: fr)) x_sources cf_1 b_3 rx_sources 72 (#[]) hS (hM_rx_sources.kp hkz_1) hL_1 (hF_1.kp hkz_1) hM) ?_
 rintro vr_1 h_4 ⟨F_1, r_1, _, rfl, hk, hS, _, _, _, hM⟩
 obtain ⟨hS, hk⟩ := hZ_1.back hk hS
 generalize (fun bz_ => F_1 bz_ ∧ ¬ (Ow.box b_3 77 #[.map (some rx_sources)]).foot bz_) = F_2 at hS hk
 replace hK := hK.trans hk
 replace hM_rx_sources := hM_rx_sources.kp hk
 replace hB_bx := hB_bx.kp hk
 refine Go.Wk.HA.re (fun h => (Blk h bx (.cells #[.int .i64 x_all, .map (some rx_sources)] 79 (0, 0))) ∧ (OwnIs h 0 30 17 e_api_Addr vr_1 r_1) ∧ (Blk h b_1 (.cells (e_api_Addr g).toArray 30 (0, 0)))) [] (fun L_ h_ hL_ ⟨hB_bx, c270, c202⟩ hs_ => ⟨⟨hB_bx, c202⟩, (Go.Wk.at_nil _ _)⟩) ?_
 refine HA.val (k := 12) (v := .agg (c_api_Asked g (.bool (decide (0 < x_all))) vr_1).toArray) rfl rfl (by kernel_rfl) (by kernel_rfl) (want_none) rfl (fun _ ⟨hB_bx, c270, c202⟩ => q_build tp_34 (fill_cons (cs' := (c_api_Asked g (.bool false) (.slice none 0 0)).toArray) (vc := (e_api_Addr g).toArray) rfl rfl rfl (Nat.le_of_ble_eq_true rfl) rfl (fill_cons (cs' := (c_api_Asked g (.bool (decide (0 < x_all))) (.slice none 0 0)).toArray) (vc := #[.bool (decide (0 < x_all))]) rfl rfl rfl (Nat.le_of_ble_eq_true rfl) rfl (fill_cons (cs' := (c_api_Asked g (.bool (decide (0 < x_all))) vr_1).toArray) (vc := #[vr_1]) rfl (shp c270.slice).cells rfl (Nat.le_of_ble_eq_true rfl) rfl rfl)))) ?_
 refine HA.one (k := 13) ⟨⟨hB_bx.box, (hS.own 1 rfl), (hS.box 3 rfl)⟩, (Go.Wk.at_nil _ _)⟩ (by kernel_rfl) ?_
 refine HS.sto rfl (want_none) rfl (st_storeAgg (c' := (c_api_Asked g (.bool (decide (0 < x_all))) vr_1).toArray) hS (i := 2) rfl ta_34 rfl rfl rfl (List.forall_mem_cons.2 ⟨rfl, (List.forall_mem_cons.2 ⟨rfl, (List.forall_mem_cons.2 ⟨rfl, (List.forall_mem_cons.2 ⟨rfl, (List.forall_mem_cons.2 ⟨rfl, (List.forall_mem_cons.2 ⟨rfl, (List.forall_mem_cons.2 ⟨rfl, (List.forall_mem_cons.2 ⟨rfl, (List.forall_mem_cons.2 ⟨rfl, (List.forall_mem_cons.2 ⟨rfl, (List.forall_mem_cons.2 ⟨rfl, (List.forall_mem_cons.2 ⟨rfl, (List.forall_mem_cons.2 ⟨rfl, (List.forall_mem_cons.2 ⟨rfl, (List.forall_mem_cons.2 ⟨rfl, (List.forall_mem_cons.2 ⟨rfl, (List.forall_mem_cons.2 ⟨rfl, (List.forall_mem_cons.2 ⟨rfl, (List.forall_mem_cons.2 ⟨(shp (hS.own 1 rfl).slice).one, (fun _ h => by cases h)⟩)⟩)⟩)⟩)⟩)⟩)⟩)⟩)⟩)⟩)⟩)⟩)⟩)⟩)⟩)⟩)⟩)⟩)⟩) (Nat.le_of_ble_eq_true rfl) rfl) ?_
 rintro h_5 ⟨hS, hk⟩
 replace hK := hK.trans hk
 replace hM_rx_sources := hM_rx_sources.kp hk
 replace hB_bx := hB_bx.kp hk
 refine HA.nil ⟨⟨hB_bx.box, (hS.own 1 rfl), (hS.box 3 rfl)⟩, (Go.Wk.at_nil _ _)⟩ (by kernel_rfl) (thenQ_normal (?_))
 refine HW.ret (?_)
 refine ⟨.inr rfl, .agg (c_api_Asked g (.bool (decide (0 < x_all))) vr_1).toArray, res1 rfl (rca (cs := (c_api_Asked g (.bool (decide (0 < x_all))) vr_1)) ta_34 rfl rfl (Blk.cells (k := 19) (hS.box 2 rfl) rfl)), ?_⟩
 replace hS : St F_2 (Ow.own 30 17 e_api_Addr vr_1 r_1 :: fr) h_5 := hS.perm2 [1] 4 rfl rfl
 exact ⟨F_2, g.1, g.2, decide (0 < x_all), r_1, vr_1, rfl, hK, hS, hM_rx_sources, hB_bx, hM⟩

def query_Queries_Open_l1 (q_now : Int) (q_at_at : List (Str × Int)) (q_first : Int) (Q : (List T_api_Asked) → Int → (List (Str × Int)) → Int → (List (T_api_Addr × (Nat × Nat) × T_query_left)) → Prop) (r_2 : List T_api_Addr) (K_1 : (List (T_api_Addr × (Nat × Nat) × T_query_left)) → (List T_api_Asked) → Int → Prop) (q_3_2 : List (T_api_Addr × (Nat × Nat) × T_query_left)) (out_1 : List T_api_Asked) (n_1 : Int) : Prop :=
 (n_1 < (r_2.length : Int) → ((0 : Int) ≤ n_1 ∧ n_1 < (r_2.length : Int)) ∧ ((((mget q_3_2 (gi r_2 n_1)).isSome) = true → query_left_asked_W (((mget0 q_3_2 (gi r_2 n_1)).2).1) (((mget0 q_3_2 (gi r_2 n_1)).2).2) (gi r_2 n_1) (fun r_0_1 r_1_1 r_17_1 r_18_1 => ∀ vr_18_1 : Value, (((out_1.length + ([((r_0_1, r_1_1), r_17_1, (vr_18_1, r_18_1))] : List T_api_Asked).length) * 48 ≤ 140737488355328) ∧ ((I64 (n_1 + 1)) ∧ (K_1 (mset q_3_2 (gi r_2 n_1) ((mget0 q_3_2 (gi r_2 n_1)).1, (((mget0 q_3_2 (gi r_2 n_1)).2).1, ((mget0 q_3_2 (gi r_2 n_1)).2).2))) (out_1 ++ ([((r_0_1, r_1_1), r_17_1, (vr_18_1, r_18_1))] : List T_api_Asked)) (n_1 + 1)))))) ∧ (((mget q_3_2 (gi r_2 n_1)).isSome) = false → False))) ∧ (¬ (n_1 < (r_2.length : Int)) → Q out_1 q_now q_at_at q_first q_3_2)
def query_Queries_Open_W (q_now : Int) (q_at_at : List (Str × Int)) (q_first : Int) (q_open : List (T_api_Addr × (Nat × Nat) × T_query_left)) (Q : (List T_api_Asked) → Int → (List (Str × Int)) → Int → (List (T_api_Addr × (Nat × Nat) × T_query_left)) → Prop) : Prop :=
 query_Queries_groups_W q_now q_at_at q_first q_open (fun r_2 => loopW (fun (K_1 : ((List (T_api_Addr × (Nat × Nat) × T_query_left)) × List T_api_Asked × Int) → Prop) (s : (List (T_api_Addr × (Nat × Nat) × T_query_left)) × List T_api_Asked × Int) => query_Queries_Open_l1 q_now q_at_at q_first Q r_2 (fun q_3_2 out_1 n_1 => K_1 (q_3_2, out_1, n_1)) s.1 s.2.1 s.2.2) (q_open, [], 0))
set_option maxHeartbeats 40000000 in
set_option maxRecDepth 100000 in
theorem query_Queries_Open_walk {F : Fz} {fr : List Ow} {h0 : Heap} (q_now : Int) (q_at_at : List (Str × Int)) (q_first : Int) (q_open : List (T_api_Addr × (Nat × Nat) × T_query_left)) (bq : Nat) (bq_at : Nat) (rq_at_at : Nat) (rq_open : Nat) (hS : St F (Ow.box bq 73 #[.int .i64 q_now, .pointer (some ⟨bq_at, 0, none⟩), .int .i64 q_first, .map (some rq_open)] :: Ow.box bq_at 110 #[.map (some rq_at_at)] :: Ow.map rq_at_at kT kI q_at_at :: Ow.pm rq_open (fun (x : T_api_Addr) => .agg (e_api_Addr x).toArray) pv_query_left th_query_left q_open none :: fr) h0)  {Q : (List T_api_Asked) → Int → (List (Str × Int)) → Int → (List (T_api_Addr × (Nat × Nat) × T_query_left)) → Prop} (hM : query_Queries_Open_W q_now q_at_at q_first q_open Q) :
  HC Try.prog 12 #[.pointer (some ⟨bq, 0, none⟩)] h0 fun u h' => ∃ (F' : Fz) (r_1 : List T_api_Asked) (q_now_1 : Int) (qm_1 : List (Str × Int)) (q_first_1 : Int) (qm_2 : List (T_api_Addr × (Nat × Nat) × T_query_left)) (vr_1 : Value), u = vr_1 ∧ Kp F h0 F' h' ∧ St F' (Ow.own 34 19 e_api_Asked vr_1 r_1 :: Ow.box bq 73 #[.int .i64 q_now_1, .pointer (some ⟨bq_at, 0, none⟩), .int .i64 q_first_1, .map (some rq_open)] :: Ow.box bq_at 110 #[.map (some rq_at_at)] :: Ow.map rq_at_at kT kI qm_1 :: Ow.pm rq_open (fun (x : T_api_Addr) => .agg (e_api_Addr x).toArray) pv_query_left th_query_left qm_2 none :: fr) h' ∧ (NfL nf_api_Asked F' h' r_1) ∧ Q r_1 q_now_1 qm_1 q_first_1 qm_2 := by
 unfold query_Queries_Open_W at hM
 have hK := Kp.refl F h0
 refine HC.of_HW (n := 28) Try.func12 rfl rfl (Nat.le_of_ble_eq_true rfl) ?_
 refine HW.seq ?_
 refine HW.region ?_
 refine oA (.slice none 0 0) rfl rfl ?_
 refine HO.nil (thenQ_normal (?_))
 refine HW.seq ?_
 refine HW.region ?_
 refine oA (.slice none 0 0) rfl rfl ?_
 refine HO.nil (thenQ_normal (?_))
 refine HW.seq ?_
 refine HW.seq ?_
 refine HW.region ?_
 refine oM (.pointer (some ⟨bq, 0, none⟩)) rfl rfl ?_
 refine oV (.bool false) (q_eqlPnil Try.underlying22 rfl rfl rfl) rfl ?_
 refine HO.nil (thenQ_normal (?_))
 refine HW.condF rfl ?_
 refine HW.skip (thenQ_normal (?_))
 refine HW.seq ?_
 refine HW.seq ?_
 refine HW.region ?_
 refine oM (.pointer (some ⟨bq, 0, none⟩)) rfl rfl ?_
 replace hS : St F (Ow.box bq 73 #[.int .i64 q_now, .pointer (some ⟨bq_at, 0, none⟩), .int .i64 q_first, .map (some rq_open)] :: Ow.box bq_at 110 #[.map (some rq_at_at)] :: Ow.map rq_at_at kT kI q_at_at :: Ow.pm rq_open (fun (x : T_api_Addr) => .agg (e_api_Addr x).toArray) pv_query_left th_query_left q_open none :: fr) h0 := hS
 have hZ_1 := hS
 have hkz_1 := (hS.freeze).2
 replace hS := hS.freeze.1
 have hL_1 := hZ_1.lent
 replace hS : St (fun bz_ => F bz_ ∨ (Ow.box bq 73 #[.int .i64 q_now, .pointer (some ⟨bq_at, 0, none⟩), .int .i64 q_first, .map (some rq_open)]).foot bz_) (Ow.box bq_at 110 #[.map (some rq_at_at)] :: Ow.map rq_at_at kT kI q_at_at :: Ow.pm rq_open (fun (x : T_api_Addr) => .agg (e_api_Addr x).toArray) pv_query_left th_query_left q_open none :: fr) h0 := hS
 have hZ_2 := hS
 have hkz_2 := (hS.freeze).2
 replace hS := hS.freeze.1
 have hL_2 := hZ_2.lent
 replace hS : St (fun bz_ => (fun bz_ => F bz_ ∨ (Ow.box bq 73 #[.int .i64 q_now, .pointer (some ⟨bq_at, 0, none⟩), .int .i64 q_first, .map (some rq_open)]).foot bz_) bz_ ∨ (Ow.box bq_at 110 #[.map (some rq_at_at)]).foot bz_) (Ow.map rq_at_at kT kI q_at_at :: Ow.pm rq_open (fun (x : T_api_Addr) => .agg (e_api_Addr x).toArray) pv_query_left th_query_left q_open none :: fr) h0 := hS
 have hZ_3 := hS
 have hkz_3 := (hS.freeze).2
 replace hS := hS.freeze.1
 have hL_3 := hZ_3.lent
 replace hS : St (fun bz_ => (fun bz_ => (fun bz_ => F bz_ ∨ (Ow.box bq 73 #[.int .i64 q_now, .pointer (some ⟨bq_at, 0, none⟩), .int .i64 q_first, .map (some rq_open)]).foot bz_) bz_ ∨ (Ow.box bq_at 110 #[.map (some rq_at_at)]).foot bz_) bz_ ∨ (Ow.map rq_at_at kT kI q_at_at).foot bz_) (Ow.pm rq_open (fun (x : T_api_Addr) => .agg (e_api_Addr x).toArray) pv_query_left th_query_left q_open none :: fr) h0 := hS
 have hZ_4 := hS
 have hkz_4 := (hS.freeze).2
 replace hS := hS.freeze.1
 have hL_4 := hZ_4.lent
 refine HO.call (want_none) rfl (ec en_42 rfl rfl) (query_Queries_groups_walk (fr := (fr)) q_now q_at_at q_first q_open bq bq_at rq_at_at rq_open hS (hL_3.kp hkz_4) ((hL_2.kp hkz_3).kp hkz_4) hL_4 (((hL_1.kp hkz_2).kp hkz_3).kp hkz_4) hM) ?_
 rintro vr_2 h_1 ⟨F_1, r_2, _, rfl, hk, hS, _, _, _, _, hM⟩
 obtain ⟨hS, hk⟩ := hZ_4.back hk hS
 obtain ⟨hS, hk⟩ := hZ_3.back hk hS
 obtain ⟨hS, hk⟩ := hZ_2.back hk hS
 obtain ⟨hS, hk⟩ := hZ_1.back hk hS
 generalize (fun bz_ => (fun bz_ => (fun bz_ => (fun bz_ => F_1 bz_ ∧ ¬ (Ow.pm rq_open (fun (x : T_api_Addr) => .agg (e_api_Addr x).toArray) pv_query_left th_query_left q_open none).foot bz_) bz_ ∧ ¬ (Ow.map rq_at_at kT kI q_at_at).foot bz_) bz_ ∧ ¬ (Ow.box bq_at 110 #[.map (some rq_at_at)]).foot bz_) bz_ ∧ ¬ (Ow.box bq 73 #[.int .i64 q_now, .pointer (some ⟨bq_at, 0, none⟩), .int .i64 q_first, .map (some rq_open)]).foot bz_) = F_2 at hS hk
 replace hK := hK.trans hk
 refine oV (.int .i64 (r_2.length : Int)) (q_len ts_32 (shp (hS.own 4 rfl).slice) rfl rfl) rfl ?_
 refine oM (.int .i64 0) rfl rfl ?_
 refine HO.nil (thenQ_normal (?_))
 refine HW.block ?_
 obtain ⟨I_1, m_1, hI_1, hR_1⟩ := hM
 replace hS := hS.nilOwn 34 19 e_api_Asked
 have hN_3 : NfL nf_api_Asked F_2 h_1 ([] : List T_api_Asked) := NfL.nil _ _ _
 replace hS : St F_2 (Ow.box bq 73 #[.int .i64 q_now, .pointer (some ⟨bq_at, 0, none⟩), .int .i64 q_first, .map (some rq_open)] :: Ow.box bq_at 110 #[.map (some rq_at_at)] :: Ow.map rq_at_at kT kI q_at_at :: Ow.pm rq_open (fun (x : T_api_Addr) => .agg (e_api_Addr x).toArray) pv_query_left th_query_left q_open none :: Ow.own 34 19 e_api_Asked (.slice none 0 0) ([] : List T_api_Asked) :: Ow.own 30 17 e_api_Addr vr_2 r_2 :: fr) h_1 := hS.perm2 [1, 2, 3, 4, 0, 5] 6 rfl rfl
 refine HW.loop (S := (List (T_api_Addr × (Nat × Nat) × T_query_left)) × List T_api_Asked × Int) (fun s f h => match s with | (q_3_2, out_1, n_1) => ∃ (F' : Fz) (vout_1 : Value), f 0 = .pointer (some ⟨bq, 0, none⟩) ∧ f 2 = .slice none 0 0 ∧ f 3 = vout_1 ∧ f 9 = vr_2 ∧ f 10 = .int .i64 (r_2.length : Int) ∧ f 11 = .int .i64 n_1 ∧ Kp F h0 F' h ∧ St F' (Ow.box bq 73 #[.int .i64 q_now, .pointer (some ⟨bq_at, 0, none⟩), .int .i64 q_first, .map (some rq_open)] :: Ow.box bq_at 110 #[.map (some rq_at_at)] :: Ow.map rq_at_at kT kI q_at_at :: Ow.pm rq_open (fun (x : T_api_Addr) => .agg (e_api_Addr x).toArray) pv_query_left th_query_left q_3_2 none :: Ow.own 34 19 e_api_Asked vout_1 out_1 :: Ow.own 30 17 e_api_Addr vr_2 r_2 :: fr) h ∧ (NfL nf_api_Asked F' h out_1) ∧ I_1 (q_3_2, out_1, n_1)) m_1 (q_open, [], 0) ⟨F_2, .slice none 0 0, rfl, rfl, rfl, rfl, rfl, rfl, hK, hS, hN_3, hI_1⟩ ?_
 rintro ⟨q_3_2, out_1, n_1⟩ f_1 h_2 ⟨F_3, vout_1, e0, e2, e3, e9, e10, e11, hK, hS, hN_2, hI0⟩
 obtain ⟨K_1, hKe_1⟩ : ∃ K : (List (T_api_Addr × (Nat × Nat) × T_query_left)) → (List T_api_Asked) → Int → Prop, K = fun q_3_2' out_1' n_1' => I_1 (q_3_2', out_1', n_1') ∧ m_1 (q_3_2', out_1', n_1') < m_1 (q_3_2, out_1, n_1) := ⟨_, rfl⟩
 have hM : query_Queries_Open_l1 q_now q_at_at q_first Q r_2 K_1 q_3_2 out_1 n_1 := by rw [hKe_1]; exact hR_1 (q_3_2, out_1, n_1) hI0
 unfold query_Queries_Open_l1 at hM
 refine HW.fr [(0, .pointer (some ⟨bq, 0, none⟩)), (2, .slice none 0 0), (3, vout_1), (9, vr_2), (10, .int .i64 (r_2.length : Int)), (11, .int .i64 n_1)] ⟨e0, e2, e3, e9, e10, e11, trivial⟩ ?_
 refine HW.seq ?_
 refine HW.region ?_
 refine oV (.bool (decide (n_1 < (r_2.length : Int)))) (q_lss rfl rfl) rfl ?_
 refine HO.nil (thenQ_normal (?_))
 refine HW.seq ?_
 refine HW.cond (decide (n_1 < (r_2.length : Int))) rfl (fun c_1 => ?_) (fun c_1 => ?_)
 ·
  replace hM := hM.1 (of_decide_eq_true c_1)
  refine HW.skip (thenQ_normal (?_))
  refine HW.seq ?_
  refine HW.block ?_
  refine HW.seq ?_
  refine HW.region ?_
  obtain ⟨ho_1, hM⟩ := hM
  refine oV (elemPtr 17 vr_2 (n_1).toNat) (q_idx ts_32 (hS.own 5 rfl).slice rfl rfl ho_1) rfl ?_
  refine oV (.agg (e_api_Addr (gi r_2 n_1)).toArray) (q_ldElemAgg (cs := (e_api_Addr (gi r_2 n_1))) ta_30 (hS.own 5 rfl).slice rfl ho_1 rfl) rfl ?_
  refine HO.eff (want_none) rfl (st_alloc (c := (e_api_Addr (false, (default : Ba 16))).toArray) hS tz_30 rfl) ?_
  rintro _ h_3 ⟨b_1, rfl, hS, hk⟩
  replace hK := hK.trans hk
  replace hN_2 := hN_2.kp hk
  refine HO.sto (want_none) rfl (st_storeAgg (c' := (e_api_Addr (gi r_2 n_1)).toArray) hS (i := 0) rfl ta_30 rfl rfl rfl (one_e_api_Addr _) (Nat.le_of_ble_eq_true rfl) rfl) ?_
  rintro h_4 ⟨hS, hk⟩
  replace hK := hK.trans hk
  replace hN_2 := hN_2.kp hk
  refine HO.nil (thenQ_normal (?_))
  refine HW.regionA 12 mixed (fun h => (Blk h b_1 (.cells (e_api_Addr (gi r_2 n_1)).toArray 30 (0, 0))) ∧ (Blk h bq (.cells #[.int .i64 q_now, .pointer (some ⟨bq_at, 0, none⟩), .int .i64 q_first, .map (some rq_open)] 73 (0, 0))) ∧ (MapIs h rq_open (fun (x : T_api_Addr) => .agg (e_api_Addr x).toArray) (pmV (β := T_query_left) pv_query_left) q_3_2)) [] (by kernel_rfl) ?_
  refine HA.val (k := 0) (v := vout_1) rfl rfl (by kernel_rfl) (by kernel_rfl) (want_none) rfl (fun _ ⟨c372, c365, c368⟩ => q_move rfl) ?_
  refine HA.val (k := 1) (v := .pointer (some ⟨bq, 0, none⟩)) rfl rfl (by kernel_rfl) (by kernel_rfl) (want_none) rfl (fun _ ⟨c372, c365, c368⟩ => q_move rfl) ?_
  refine HA.val (k := 2) (v := .pointer (some ⟨bq, 0, none⟩)) rfl rfl (by kernel_rfl) (by kernel_rfl) (want_none) rfl (fun _ ⟨c372, c365, c368⟩ => q_nilCheck rfl) ?_
  refine HA.val (k := 3) (v := .pointer (some ⟨bq, 3, none⟩)) rfl rfl (by kernel_rfl) (by kernel_rfl) (want_none) rfl (fun _ ⟨c372, c365, c368⟩ => q_fieldAddr fa_73_3 rfl rfl) ?_
  refine HA.val (k := 4) (v := .map (some rq_open)) rfl rfl (by kernel_rfl) (by kernel_rfl) (want_none) rfl (fun _ ⟨c372, c365, c368⟩ => q_load to_71 rfl (Blk.cell c365 rfl)) ?_
  refine HA.val (k := 5) (v := .agg (e_api_Addr (gi r_2 n_1)).toArray) rfl rfl (by kernel_rfl) (by kernel_rfl) (want_none) rfl (fun _ ⟨c372, c365, c368⟩ => q_loadAgg (cs := (e_api_Addr (gi r_2 n_1))) ta_30 rfl rfl (Blk.cells (k := 17) c372 rfl)) ?_
  rcases Bool.eq_false_or_eq_true ((mget q_3_2 (gi r_2 n_1)).isSome) with c_2 | c_2
  ·
   replace hM := hM.1 c_2
   refine HA.val (k := 6) (v := .pointer (some ⟨(mget0 q_3_2 (gi r_2 n_1)).1.1, 0, none⟩)) rfl rfl (by kernel_rfl) (by kernel_rfl) (want_none) rfl (fun _ ⟨c372, c365, c368⟩ => q_pmYes (k := (gi r_2 n_1)) ka_30 tmk_71 c368 rfl rfl (pm_some c_2)) ?_
   replace hS : St F_3 (Ow.box (mget0 q_3_2 (gi r_2 n_1)).1.1 79 #[.int .i64 (((mget0 q_3_2 (gi r_2 n_1)).2).1), .map (some ((mget0 q_3_2 (gi r_2 n_1)).1.2))] :: Ow.map (mget0 q_3_2 (gi r_2 n_1)).1.2 (fun (x : T_api_Addr) => .agg (e_api_Addr x).toArray) kI (((mget0 q_3_2 (gi r_2 n_1)).2).2) :: Ow.box b_1 30 (e_api_Addr (gi r_2 n_1)).toArray :: Ow.box bq 73 #[.int .i64 q_now, .pointer (some ⟨bq_at, 0, none⟩), .int .i64 q_first, .map (some rq_open)] :: Ow.box bq_at 110 #[.map (some rq_at_at)] :: Ow.map rq_at_at kT kI q_at_at :: Ow.pm rq_open (fun (x : T_api_Addr) => .agg (e_api_Addr x).toArray) pv_query_left th_query_left q_3_2 (some ((gi r_2 n_1), ((mget0 q_3_2 (gi r_2 n_1)).1.1, (mget0 q_3_2 (gi r_2 n_1)).1.2))) :: Ow.own 34 19 e_api_Asked vout_1 out_1 :: Ow.own 30 17 e_api_Addr vr_2 r_2 :: fr) h_4 := (St.pmTake (th := th_query_left) hS 4 rfl (pm_some c_2)).unbm
   refine HA.val (k := 7) (v := .agg (e_api_Addr (gi r_2 n_1)).toArray) rfl rfl (by kernel_rfl) (by kernel_rfl) (want_none) rfl (fun _ ⟨c372, c365, c368⟩ => q_loadAgg (cs := (e_api_Addr (gi r_2 n_1))) ta_30 rfl rfl (Blk.cells (k := 17) c372 rfl)) ?_
   refine HA.one (k := 8) ⟨⟨(hS.box 2 rfl), (hS.box 3 rfl), (hS.pmi 6 rfl).map⟩, (Go.Wk.at_nil _ _)⟩ (by kernel_rfl) ?_
   replace hS : St F_3 (Ow.box (mget0 q_3_2 (gi r_2 n_1)).1.1 79 #[.int .i64 (((mget0 q_3_2 (gi r_2 n_1)).2).1), .map (some ((mget0 q_3_2 (gi r_2 n_1)).1.2))] :: Ow.map (mget0 q_3_2 (gi r_2 n_1)).1.2 (fun (x : T_api_Addr) => .agg (e_api_Addr x).toArray) kI (((mget0 q_3_2 (gi r_2 n_1)).2).2) :: Ow.box b_1 30 (e_api_Addr (gi r_2 n_1)).toArray :: Ow.box bq 73 #[.int .i64 q_now, .pointer (some ⟨bq_at, 0, none⟩), .int .i64 q_first, .map (some rq_open)] :: Ow.box bq_at 110 #[.map (some rq_at_at)] :: Ow.map rq_at_at kT kI q_at_at :: Ow.pm rq_open (fun (x : T_api_Addr) => .agg (e_api_Addr x).toArray) pv_query_left th_query_left q_3_2 (some ((gi r_2 n_1), ((mget0 q_3_2 (gi r_2 n_1)).1.1, (mget0 q_3_2 (gi r_2 n_1)).1.2))) :: Ow.own 34 19 e_api_Asked vout_1 out_1 :: Ow.own 30 17 e_api_Addr vr_2 r_2 :: fr) h_4 := hS
   have hZ_5 := hS
   have hkz_5 := (hS.freeze).2
   replace hS := hS.freeze.1
   have hL_5 := hZ_5.lent
   replace hS : St (fun bz_ => F_3 bz_ ∨ (Ow.box (mget0 q_3_2 (gi r_2 n_1)).1.1 79 #[.int .i64 (((mget0 q_3_2 (gi r_2 n_1)).2).1), .map (some ((mget0 q_3_2 (gi r_2 n_1)).1.2))]).foot bz_) (Ow.map (mget0 q_3_2 (gi r_2 n_1)).1.2 (fun (x : T_api_Addr) => .agg (e_api_Addr x).toArray) kI (((mget0 q_3_2 (gi r_2 n_1)).2).2) :: Ow.box b_1 30 (e_api_Addr (gi r_2 n_1)).toArray :: Ow.box bq 73 #[.int .i64 q_now, .pointer (some ⟨bq_at, 0, none⟩), .int .i64 q_first, .map (some rq_open)] :: Ow.box bq_at 110 #[.map (some rq_at_at)] :: Ow.map rq_at_at kT kI q_at_at :: Ow.pm rq_open (fun (x : T_api_Addr) => .agg (e_api_Addr x).toArray) pv_query_left th_query_left q_3_2 (some ((gi r_2 n_1), ((mget0 q_3_2 (gi r_2 n_1)).1.1, (mget0 q_3_2 (gi r_2 n_1)).1.2))) :: Ow.own 34 19 e_api_Asked vout_1 out_1 :: Ow.own 30 17 e_api_Addr vr_2 r_2 :: fr) h_4 := hS
   have hZ_6 := hS
   have hkz_6 := (hS.freeze).2
   replace hS := hS.freeze.1
   have hL_6 := hZ_6.lent
   refine HS.call rfl (want_none) rfl (ec en_43 rfl rfl) (query_left_asked_walk (fr := (Ow.box b_1 30 (e_api_Addr (gi r_2 n_1)).toArray :: Ow.box bq 73 #[.int .i64 q_now, .pointer (some ⟨bq_at, 0, none⟩), .int .i64 q_first, .map (some rq_open)] :: Ow.box bq_at 110 #[.map (some rq_at_at)] :: Ow.map rq_at_at kT kI q_at_at :: Ow.pm rq_open (fun (x : T_api_Addr) => .agg (e_api_Addr x).toArray) pv_query_left th_query_left q_3_2 (some ((gi r_2 n_1), ((mget0 q_3_2 (gi r_2 n_1)).1.1, (mget0 q_3_2 (gi r_2 n_1)).1.2))) :: Ow.own 34 19 e_api_Asked vout_1 out_1 :: Ow.own 30 17 e_api_Addr vr_2 r_2 :: fr)) (((mget0 q_3_2 (gi r_2 n_1)).2).1) (((mget0 q_3_2 (gi r_2 n_1)).2).2) (gi r_2 n_1) ((mget0 q_3_2 (gi r_2 n_1)).1.1) ((mget0 q_3_2 (gi r_2 n_1)).1.2) hS hL_6 (hL_5.kp hkz_6) hM) ?_
   rintro _ h_5 ⟨F_4, r_0_1, r_1_1, r_17_1, r_18_1, vr_18_1, rfl, hk, hS, _, _, hM⟩
   obtain ⟨hS, hk⟩ := hZ_6.back hk hS
   obtain ⟨hS, hk⟩ := hZ_5.back hk hS
   generalize (fun bz_ => (fun bz_ => F_4 bz_ ∧ ¬ (Ow.map (mget0 q_3_2 (gi r_2 n_1)).1.2 (fun (x : T_api_Addr) => .agg (e_api_Addr x).toArray) kI (((mget0 q_3_2 (gi r_2 n_1)).2).2)).foot bz_) bz_ ∧ ¬ (Ow.box (mget0 q_3_2 (gi r_2 n_1)).1.1 79 #[.int .i64 (((mget0 q_3_2 (gi r_2 n_1)).2).1), .map (some ((mget0 q_3_2 (gi r_2 n_1)).1.2))]).foot bz_) = F_5 at hS hk
   replace hK := hK.trans hk
   replace hN_2 := hN_2.kp hk
   refine HA.one (k := 9) ⟨⟨(hS.box 3 rfl), (hS.box 4 rfl), (hS.pmi 7 rfl).map⟩, (Go.Wk.at_nil _ _)⟩ (by kernel_rfl) ?_
   replace hS : St F_5 (Ow.own 30 17 e_api_Addr vr_18_1 r_18_1 :: Ow.box (mget0 q_3_2 (gi r_2 n_1)).1.1 79 #[.int .i64 (((mget0 q_3_2 (gi r_2 n_1)).2).1), .map (some ((mget0 q_3_2 (gi r_2 n_1)).1.2))] :: Ow.map (mget0 q_3_2 (gi r_2 n_1)).1.2 (fun (x : T_api_Addr) => .agg (e_api_Addr x).toArray) kI (((mget0 q_3_2 (gi r_2 n_1)).2).2) :: Ow.box b_1 30 (e_api_Addr (gi r_2 n_1)).toArray :: Ow.box bq 73 #[.int .i64 q_now, .pointer (some ⟨bq_at, 0, none⟩), .int .i64 q_first, .map (some rq_open)] :: Ow.box bq_at 110 #[.map (some rq_at_at)] :: Ow.map rq_at_at kT kI q_at_at :: Ow.pm rq_open (fun (x : T_api_Addr) => .agg (e_api_Addr x).toArray) pv_query_left th_query_left q_3_2 (some ((gi r_2 n_1), ((mget0 q_3_2 (gi r_2 n_1)).1.1, (mget0 q_3_2 (gi r_2 n_1)).1.2))) :: Ow.own 34 19 e_api_Asked vout_1 out_1 :: Ow.own 30 17 e_api_Addr vr_2 r_2 :: fr) h_5 := hS.perm2 [2, 0, 1, 3, 4, 5, 6, 7, 8, 9] 10 rfl rfl
   obtain ⟨F_6, hS, hk, hL_7⟩ := hS.freezeOwn
   replace hK := hK.trans hk
   replace hN_2 := hN_2.kp hk
   replace hM := hM vr_18_1
   refine HS.eff rfl (want_none) rfl (st_lit (enc := e_api_Asked) (cells := #[.bool r_0_1, .int .u8 (b8 r_1_1 0), .int .u8 (b8 r_1_1 1), .int .u8 (b8 r_1_1 2), .int .u8 (b8 r_1_1 3), .int .u8 (b8 r_1_1 4), .int .u8 (b8 r_1_1 5), .int .u8 (b8 r_1_1 6), .int .u8 (b8 r_1_1 7), .int .u8 (b8 r_1_1 8), .int .u8 (b8 r_1_1 9), .int .u8 (b8 r_1_1 10), .int .u8 (b8 r_1_1 11), .int .u8 (b8 r_1_1 12), .int .u8 (b8 r_1_1 13), .int .u8 (b8 r_1_1 14), .int .u8 (b8 r_1_1 15), .bool r_17_1, vr_18_1]) #[.bool false, .int .u8 0, .int .u8 0, .int .u8 0, .int .u8 0, .int .u8 0, .int .u8 0, .int .u8 0, .int .u8 0, .int .u8 0, .int .u8 0, .int .u8 0, .int .u8 0, .int .u8 0, .int .u8 0, .int .u8 0, .int .u8 0, .bool false, .slice none 0 0] ([((r_0_1, r_1_1), r_17_1, (vr_18_1, r_18_1))] : List T_api_Asked) hS tl_35 (by decide) (by decide) (by kernel_rfl) (by kernel_rfl) rfl (by intro x hx; rfl) rfl) ?_
   rintro _ h_6 ⟨b_2, rfl, hS, hk⟩
   replace hK := hK.trans hk
   replace hN_2 := hN_2.kp hk
   replace hL_7 := hL_7.kp hk
   have hN_4 : NfL nf_api_Asked F_6 h_6 ([((r_0_1, r_1_1), r_17_1, (vr_18_1, r_18_1))] : List T_api_Asked) := (NfL.cons (nfm_api_Asked ((r_0_1, r_1_1), r_17_1, (vr_18_1, r_18_1)) hL_7) (NfL.nil _ _ _))
   refine HA.one (k := 10) ⟨⟨(hS.box 3 rfl), (hS.box 4 rfl), (hS.pmi 7 rfl).map⟩, (Go.Wk.at_nil _ _)⟩ (by kernel_rfl) ?_
   obtain ⟨ho_2, hM⟩ := hM
   refine HS.eff rfl (want_none) rfl (st_append te_35 hS (i := 8) rfl (hS.own 0 rfl).slice rfl rfl rfl (fun a_ ha_ => nfo_api_Asked (hN_4.is.all a_ ha_)) ho_2 (by omega)) ?_
   rintro v_1 h_7 ⟨hS, hk⟩
   replace hK := hK.trans hk
   replace hN_2 := hN_2.kp hk
   replace hN_4 := hN_4.kp hk
   have hN_5 : NfL nf_api_Asked F_6 h_7 (out_1 ++ ([((r_0_1, r_1_1), r_17_1, (vr_18_1, r_18_1))] : List T_api_Asked)) := NfL.app hN_2 hN_4
   refine HA.val (k := 11) (v := v_1) rfl rfl (by kernel_rfl) (by kernel_rfl) (want_none) rfl (fun _ ⟨c372, c365, c368⟩ => q_assign rfl) ?_
   refine HA.nil ⟨⟨(hS.box 3 rfl), (hS.box 4 rfl), (hS.pmi 7 rfl).map⟩, (Go.Wk.at_nil _ _)⟩ (by kernel_rfl) (blockQ_normal (thenQ_normal (?_)))
   refine HW.region ?_
   obtain ⟨ho_3, hM⟩ := hM
   refine oV (.int .i64 (n_1 + 1)) (q_addN _ rfl rfl rfl ho_3.1 ho_3.2) rfl ?_
   refine oM (.int .i64 (n_1 + 1)) rfl rfl ?_
   refine HO.nil (thenQ_normal (?_))
   replace hS : St F_6 (Ow.box (mget0 q_3_2 (gi r_2 n_1)).1.1 79 #[.int .i64 (((mget0 q_3_2 (gi r_2 n_1)).2).1), .map (some ((mget0 q_3_2 (gi r_2 n_1)).1.2))] :: Ow.map (mget0 q_3_2 (gi r_2 n_1)).1.2 (fun (x : T_api_Addr) => .agg (e_api_Addr x).toArray) kI (((mget0 q_3_2 (gi r_2 n_1)).2).2) :: Ow.own 34 19 e_api_Asked (.slice (some ⟨b_2, 0, none⟩) 1 1) ([((r_0_1, r_1_1), r_17_1, (vr_18_1, r_18_1))] : List T_api_Asked) :: Ow.box b_1 30 (e_api_Addr (gi r_2 n_1)).toArray :: Ow.box bq 73 #[.int .i64 q_now, .pointer (some ⟨bq_at, 0, none⟩), .int .i64 q_first, .map (some rq_open)] :: Ow.box bq_at 110 #[.map (some rq_at_at)] :: Ow.map rq_at_at kT kI q_at_at :: Ow.pm rq_open (fun (x : T_api_Addr) => .agg (e_api_Addr x).toArray) pv_query_left th_query_left q_3_2 (some ((gi r_2 n_1), ((mget0 q_3_2 (gi r_2 n_1)).1.1, (mget0 q_3_2 (gi r_2 n_1)).1.2))) :: Ow.own 34 19 e_api_Asked v_1 (out_1 ++ ([((r_0_1, r_1_1), r_17_1, (vr_18_1, r_18_1))] : List T_api_Asked)) :: Ow.own 30 17 e_api_Addr vr_2 r_2 :: fr) h_7 := hS.perm2 [1, 2, 0, 3, 4, 5, 6, 7, 8, 9] 10 rfl rfl
   replace hS : St F_6 (Ow.own 34 19 e_api_Asked (.slice (some ⟨b_2, 0, none⟩) 1 1) ([((r_0_1, r_1_1), r_17_1, (vr_18_1, r_18_1))] : List T_api_Asked) :: Ow.box b_1 30 (e_api_Addr (gi r_2 n_1)).toArray :: Ow.box bq 73 #[.int .i64 q_now, .pointer (some ⟨bq_at, 0, none⟩), .int .i64 q_first, .map (some rq_open)] :: Ow.box bq_at 110 #[.map (some rq_at_at)] :: Ow.map rq_at_at kT kI q_at_at :: Ow.pm rq_open (fun (x : T_api_Addr) => .agg (e_api_Addr x).toArray) pv_query_left th_query_left (mset q_3_2 (gi r_2 n_1) ((mget0 q_3_2 (gi r_2 n_1)).1, (((mget0 q_3_2 (gi r_2 n_1)).2).1, ((mget0 q_3_2 (gi r_2 n_1)).2).2))) none :: Ow.own 34 19 e_api_Asked v_1 (out_1 ++ ([((r_0_1, r_1_1), r_17_1, (vr_18_1, r_18_1))] : List T_api_Asked)) :: Ow.own 30 17 e_api_Addr vr_2 r_2 :: fr) h_7 := St.pmPut (th := th_query_left) (j := (mget0 q_3_2 (gi r_2 n_1)).1) (y := (((mget0 q_3_2 (gi r_2 n_1)).2).1, ((mget0 q_3_2 (gi r_2 n_1)).2).2)) (St.doboth hS) 5 rfl
   replace hS : St F_6 (Ow.box bq 73 #[.int .i64 q_now, .pointer (some ⟨bq_at, 0, none⟩), .int .i64 q_first, .map (some rq_open)] :: Ow.box bq_at 110 #[.map (some rq_at_at)] :: Ow.map rq_at_at kT kI q_at_at :: Ow.pm rq_open (fun (x : T_api_Addr) => .agg (e_api_Addr x).toArray) pv_query_left th_query_left (mset q_3_2 (gi r_2 n_1) ((mget0 q_3_2 (gi r_2 n_1)).1, (((mget0 q_3_2 (gi r_2 n_1)).2).1, ((mget0 q_3_2 (gi r_2 n_1)).2).2))) none :: Ow.own 34 19 e_api_Asked v_1 (out_1 ++ ([((r_0_1, r_1_1), r_17_1, (vr_18_1, r_18_1))] : List T_api_Asked)) :: Ow.own 30 17 e_api_Addr vr_2 r_2 :: fr) h_7 := hS.perm2 [2, 3, 4, 5, 6, 7] 8 rfl rfl
   rw [hKe_1] at hM
   exact ⟨(mset q_3_2 (gi r_2 n_1) ((mget0 q_3_2 (gi r_2 n_1)).1, (((mget0 q_3_2 (gi r_2 n_1)).2).1, ((mget0 q_3_2 (gi r_2 n_1)).2).2)), out_1 ++ ([((r_0_1, r_1_1), r_17_1, (vr_18_1, r_18_1))] : List T_api_Asked), n_1 + 1), ⟨F_6, v_1, rfl, rfl, rfl, rfl, rfl, rfl, hK, hS, hN_5, hM.1⟩, hM.2⟩
  ·
   replace hM := hM.2 c_2
   refine HA.val (k := 6) (v := .pointer none) rfl rfl (by kernel_rfl) (by kernel_rfl) (want_none) rfl (fun _ ⟨c372, c365, c368⟩ => q_pmNo (k := (gi r_2 n_1)) ka_30 tmk_71 c368 rfl rfl (pm_none c_2)) ?_
   refine HA.val (k := 7) (v := .agg (e_api_Addr (gi r_2 n_1)).toArray) rfl rfl (by kernel_rfl) (by kernel_rfl) (want_none) rfl (fun _ ⟨c372, c365, c368⟩ => q_loadAgg (cs := (e_api_Addr (gi r_2 n_1))) ta_30 rfl rfl (Blk.cells (k := 17) c372 rfl)) ?_
   refine HA.one (k := 8) ⟨⟨(hS.box 0 rfl), (hS.box 1 rfl), (hS.pmi 4 rfl).map⟩, (Go.Wk.at_nil _ _)⟩ (by kernel_rfl) ?_
   exact hM.elim
 ·
  replace hM := hM.2 (of_decide_eq_false c_1)
  refine HW.exit (thenQ_exit (thenQ_exit (blockQ_exit (thenQ_normal (?_)))))
  refine HW.seq ?_
  refine HW.region ?_
  refine oM (vout_1) rfl rfl ?_
  refine oA (vout_1) rfl rfl ?_
  refine HO.nil (thenQ_normal (?_))
  refine HW.ret (?_)
  refine ⟨.inr rfl, vout_1, res1 rfl (rt rfl), ?_⟩
  replace hS : St F_3 (Ow.own 34 19 e_api_Asked vout_1 out_1 :: Ow.box bq 73 #[.int .i64 q_now, .pointer (some ⟨bq_at, 0, none⟩), .int .i64 q_first, .map (some rq_open)] :: Ow.box bq_at 110 #[.map (some rq_at_at)] :: Ow.map rq_at_at kT kI q_at_at :: Ow.pm rq_open (fun (x : T_api_Addr) => .agg (e_api_Addr x).toArray) pv_query_left th_query_left q_3_2 none :: fr) h_2 := hS.perm2 [4, 0, 1, 2, 3] 6 rfl rfl
  exact ⟨F_3, out_1, q_now, q_at_at, q_first, q_3_2, vout_1, rfl, hK, hS, hN_2, hM⟩

def tune_Startup_W (t : T_api_Tune) (Q : Int → Int → Prop) : Prop :=
 (I64 (t.2.1.tdiv 4)) ∧ (Q (max (t.2.1.tdiv 4) 1) t.1)
set_option maxHeartbeats 40000000 in
set_option maxRecDepth 100000 in
theorem tune_Startup_walk {F : Fz} {fr : List Ow} {h0 : Heap} (t : T_api_Tune) (hS : St F (fr) h0)  {Q : Int → Int → Prop} (hM : tune_Startup_W t Q) :
  HC Try.prog 65 #[.agg (e_api_Tune t).toArray] h0 fun u h' => ∃ (F' : Fz) (r0_1 : Int) (r1_1 : Int), u = .tuple #[.int .i64 r0_1, .int .i64 r1_1] ∧ Kp F h0 F' h' ∧ St F' (fr) h' ∧ Q r0_1 r1_1 := by
 unfold tune_Startup_W at hM
 have hK := Kp.refl F h0
 refine HC.of_HW (n := 10) Try.func65 rfl rfl (Nat.le_of_ble_eq_true rfl) ?_
 refine HW.seq ?_
 refine HW.region ?_
 refine HO.eff (want_none) rfl (st_box (c := (e_api_Tune t).toArray) (k' := 5) hS rfl rfl) ?_
 rintro _ h_1 ⟨b_1, rfl, hS, hk⟩
 replace hK := hK.trans hk
 refine oA (.int .i64 0) rfl rfl ?_
 refine oA (.int .i64 0) rfl rfl ?_
 refine HO.nil (thenQ_normal (?_))
 refine HW.seq ?_
 refine HW.regionA 8 mixed (fun h => (Blk h b_1 (.cells (e_api_Tune t).toArray 26 (0, 0)))) [] (by kernel_rfl) ?_
 refine HA.val (k := 0) (v := .pointer (some ⟨b_1, 1, none⟩)) rfl rfl (by kernel_rfl) (by kernel_rfl) (want_none) rfl (fun _ c201 => q_fieldAddr fa_26_1 rfl rfl) ?_
 refine HA.val (k := 1) (v := .int .i64 t.2.1) rfl rfl (by kernel_rfl) (by kernel_rfl) (want_none) rfl (fun _ c201 => q_load to_3 rfl (Blk.cell c201 rfl)) ?_
 obtain ⟨ho_1, hM⟩ := hM
 refine HA.val (k := 2) (v := .int .i64 (t.2.1.tdiv 4)) rfl rfl (by kernel_rfl) (by kernel_rfl) (want_none) rfl (fun _ c201 => q_quoN _ rfl rfl (by decide) rfl ho_1.1 ho_1.2) ?_
 refine HA.val (k := 3) (v := .int .i64 (max (t.2.1.tdiv 4) 1)) rfl rfl (by kernel_rfl) (by kernel_rfl) (want_none) rfl (fun _ c201 => q_max rfl rfl) ?_
 refine HA.val (k := 4) (v := .pointer (some ⟨b_1, 0, none⟩)) rfl rfl (by kernel_rfl) (by kernel_rfl) (want_none) rfl (fun _ c201 => q_fieldAddr fa_26_0 rfl rfl) ?_
 refine HA.val (k := 5) (v := .int .i64 t.1) rfl rfl (by kernel_rfl) (by kernel_rfl) (want_none) rfl (fun _ c201 => q_load to_3 rfl (Blk.cell c201 rfl)) ?_
 refine HA.val (k := 6) (v := .int .i64 (max (t.2.1.tdiv 4) 1)) rfl rfl (by kernel_rfl) (by kernel_rfl) (want_none) rfl (fun _ c201 => q_assign rfl) ?_
 refine HA.val (k := 7) (v := .int .i64 t.1) rfl rfl (by kernel_rfl) (by kernel_rfl) (want_none) rfl (fun _ c201 => q_assign rfl) ?_
 refine HA.nil ⟨(hS.box 0 rfl), (Go.Wk.at_nil _ _)⟩ (by kernel_rfl) (thenQ_normal (?_))
 refine HW.ret (?_)
 refine ⟨.inr rfl, .tuple #[.int .i64 (max (t.2.1.tdiv 4) 1), .int .i64 t.1], res2 rfl (rt rfl) (rt rfl), ?_⟩
 replace hS : St F (fr) h_1 := hS.perm2 [] 1 rfl rfl
 exact ⟨F, max (t.2.1.tdiv 4) 1, t.1, rfl, hK, hS, hM⟩

def query_Queries_Start_W (q_now : Int) (q_at_at : List (Str × Int)) (q_first : Int) (q_open : List (T_api_Addr × (Nat × Nat) × T_query_left)) (now : Int) (t : T_api_Tune) (Q : Int → (List (Str × Int)) → Int → (List (T_api_Addr × (Nat × Nat) × T_query_left)) → Prop) : Prop :=
 tune_Startup_W t (fun r0_1 r1_1 => query_Queries_settle_W q_now q_at_at r1_1 q_open now (fun r_1 q_now_2 qm_3 q_first_2 qm_4 => clock_Clock_Set_string_W qm_3 [] r_1 (fun r_2 cm_1 => Q q_now_2 cm_1 q_first_2 qm_4)))
set_option maxHeartbeats 40000000 in
set_option maxRecDepth 100000 in
theorem query_Queries_Start_walk {F : Fz} {fr : List Ow} {h0 : Heap} (q_now : Int) (q_at_at : List (Str × Int)) (q_first : Int) (q_open : List (T_api_Addr × (Nat × Nat) × T_query_left)) (now : Int) (t : T_api_Tune) (bq : Nat) (bq_at : Nat) (rq_at_at : Nat) (rq_open : Nat) (hS : St F (Ow.box bq 73 #[.int .i64 q_now, .pointer (some ⟨bq_at, 0, none⟩), .int .i64 q_first, .map (some rq_open)] :: Ow.box bq_at 110 #[.map (some rq_at_at)] :: Ow.map rq_at_at kT kI q_at_at :: Ow.pm rq_open (fun (x : T_api_Addr) => .agg (e_api_Addr x).toArray) pv_query_left th_query_left q_open none :: fr) h0)  {Q : Int → (List (Str × Int)) → Int → (List (T_api_Addr × (Nat × Nat) × T_query_left)) → Prop} (hM : query_Queries_Start_W q_now q_at_at q_first q_open now t Q) :
  HC Try.prog 31 #[.pointer (some ⟨bq, 0, none⟩), .int .i64 now, .agg (e_api_Tune t).toArray] h0 fun u h' => ∃ (F' : Fz) (q_now_1 : Int) (qm_1 : List (Str × Int)) (q_first_1 : Int) (qm_2 : List (T_api_Addr × (Nat × Nat) × T_query_left)), u = .tuple #[] ∧ Kp F h0 F' h' ∧ St F' (Ow.box bq 73 #[.int .i64 q_now_1, .pointer (some ⟨bq_at, 0, none⟩), .int .i64 q_first_1, .map (some rq_open)] :: Ow.box bq_at 110 #[.map (some rq_at_at)] :: Ow.map rq_at_at kT kI qm_1 :: Ow.pm rq_open (fun (x : T_api_Addr) => .agg (e_api_Addr x).toArray) pv_query_left th_query_left qm_2 none :: fr) h' ∧ Q q_now_1 qm_1 q_first_1 qm_2 := by
 unfold query_Queries_Start_W at hM
 have hK := Kp.refl F h0
 refine HC.of_HW (n := 24) Try.func31 rfl rfl (Nat.le_of_ble_eq_true rfl) ?_
 refine HW.seq ?_
 refine HW.region ?_
 refine HO.eff (want_none) rfl (st_box (c := (e_api_Tune t).toArray) (k' := 5) hS rfl rfl) ?_
 rintro _ h_1 ⟨b_1, rfl, hS, hk⟩
 replace hK := hK.trans hk
 refine HO.nil (thenQ_normal (?_))
 refine HW.seq ?_
 refine HW.seq ?_
 refine HW.region ?_
 refine oM (.pointer (some ⟨bq, 0, none⟩)) rfl rfl ?_
 refine oV (.bool false) (q_eqlPnil Try.underlying22 rfl rfl rfl) rfl ?_
 refine HO.nil (thenQ_normal (?_))
 refine HW.condF rfl ?_
 refine HW.skip (thenQ_normal (?_))
 refine HW.seq ?_
 refine HW.region ?_
 refine oM (.pointer (some ⟨bq, 0, none⟩)) rfl rfl ?_
 refine oV (.agg (e_api_Tune t).toArray) (q_loadAgg (cs := (e_api_Tune t)) ta_26 rfl rfl (Blk.cells (k := 5) (hS.box 0 rfl) rfl)) rfl ?_
 refine HO.call (want_none) rfl (ec en_65 rfl rfl) (tune_Startup_walk (fr := (Ow.box b_1 26 (e_api_Tune t).toArray :: Ow.box bq 73 #[.int .i64 q_now, .pointer (some ⟨bq_at, 0, none⟩), .int .i64 q_first, .map (some rq_open)] :: Ow.box bq_at 110 #[.map (some rq_at_at)] :: Ow.map rq_at_at kT kI q_at_at :: Ow.pm rq_open (fun (x : T_api_Addr) => .agg (e_api_Addr x).toArray) pv_query_left th_query_left q_open none :: fr)) t hS hM) ?_
 rintro _ h_2 ⟨F_1, r0_1, r1_1, rfl, hk, hS, hM⟩
 replace hK := hK.trans hk
 refine oM (.tuple #[.int .i64 r0_1, .int .i64 r1_1]) rfl rfl ?_
 refine oV (.int .i64 r0_1) (q_extract rfl rfl) rfl ?_
 refine oV (.int .i64 r1_1) (q_extract rfl rfl) rfl ?_
 refine oV (.pointer (some ⟨bq, 0, none⟩)) (q_nilCheck rfl) rfl ?_
 refine oV (.pointer (some ⟨bq, 2, none⟩)) (q_fieldAddr fa_73_2 rfl rfl) rfl ?_
 refine HO.sto (want_none) rfl (st_store (c' := #[.int .i64 q_now, .pointer (some ⟨bq_at, 0, none⟩), .int .i64 r1_1, .map (some rq_open)]) hS (i := 1) rfl to_3 rfl rfl rfl rfl (Nat.le_of_ble_eq_true rfl) rfl) ?_
 rintro h_3 ⟨hS, hk⟩
 replace hK := hK.trans hk
 refine HO.nil (thenQ_normal (?_))
 refine HW.regionA 8 mixed (fun h => (hcell h bq 1 = some (.pointer (some ⟨bq_at, 0, none⟩)))) [] (by kernel_rfl) ?_
 refine HA.val (k := 0) (v := .pointer (some ⟨bq, 0, none⟩)) rfl rfl (by kernel_rfl) (by kernel_rfl) (want_none) rfl (fun _ k1_1 => q_move rfl) ?_
 refine HA.val (k := 1) (v := .pointer (some ⟨bq, 0, none⟩)) rfl rfl (by kernel_rfl) (by kernel_rfl) (want_none) rfl (fun _ k1_1 => q_nilCheck rfl) ?_
 refine HA.val (k := 2) (v := .pointer (some ⟨bq, 1, none⟩)) rfl rfl (by kernel_rfl) (by kernel_rfl) (want_none) rfl (fun _ k1_1 => q_fieldAddr fa_73_1 rfl rfl) ?_
 refine HA.val (k := 3) (v := .pointer (some ⟨bq_at, 0, none⟩)) rfl rfl (by kernel_rfl) (by kernel_rfl) (want_none) rfl (fun _ k1_1 => q_load to_69 rfl k1_1) ?_
 refine HA.val (k := 4) (v := .pointer (some ⟨bq, 0, none⟩)) rfl rfl (by kernel_rfl) (by kernel_rfl) (want_none) rfl (fun _ k1_1 => q_move rfl) ?_
 refine HA.val (k := 5) (v := .int .i64 now) rfl rfl (by kernel_rfl) (by kernel_rfl) (want_none) rfl (fun _ k1_1 => q_move rfl) ?_
 refine HA.one (k := 6) ⟨(Blk.cell (hS.box 1 rfl) rfl), (Go.Wk.at_nil _ _)⟩ (by kernel_rfl) ?_
 replace hS : St F_1 (Ow.box bq 73 #[.int .i64 q_now, .pointer (some ⟨bq_at, 0, none⟩), .int .i64 r1_1, .map (some rq_open)] :: Ow.box bq_at 110 #[.map (some rq_at_at)] :: Ow.map rq_at_at kT kI q_at_at :: Ow.pm rq_open (fun (x : T_api_Addr) => .agg (e_api_Addr x).toArray) pv_query_left th_query_left q_open none :: Ow.box b_1 26 (e_api_Tune t).toArray :: fr) h_3 := hS.perm2 [1, 2, 3, 4, 0] 5 rfl rfl
 refine HS.call rfl (want_none) rfl (ec en_35 rfl rfl) (query_Queries_settle_walk (fr := (Ow.box b_1 26 (e_api_Tune t).toArray :: fr)) q_now q_at_at r1_1 q_open now bq bq_at rq_at_at rq_open hS hM) ?_
 rintro _ h_4 ⟨F_2, r_1, q_now_2, qm_3, q_first_2, qm_4, rfl, hk, hS, hM⟩
 replace hK := hK.trans hk
 refine HA.one (k := 7) ⟨(Blk.cell (hS.box 0 rfl) rfl), (Go.Wk.at_nil _ _)⟩ (by kernel_rfl) ?_
 replace hS : St F_2 (Ow.box bq_at 110 #[.map (some rq_at_at)] :: Ow.map rq_at_at kT kI qm_3 :: Ow.box bq 73 #[.int .i64 q_now_2, .pointer (some ⟨bq_at, 0, none⟩), .int .i64 q_first_2, .map (some rq_open)] :: Ow.pm rq_open (fun (x : T_api_Addr) => .agg (e_api_Addr x).toArray) pv_query_left th_query_left qm_4 none :: Ow.box b_1 26 (e_api_Tune t).toArray :: fr) h_4 := hS.perm2 [1, 2, 0, 3, 4] 5 rfl rfl
 refine HS.call rfl (want_none) rfl (ec en_40 rfl rfl) (clock_Clock_Set_string_walk (fr := (Ow.box bq 73 #[.int .i64 q_now_2, .pointer (some ⟨bq_at, 0, none⟩), .int .i64 q_first_2, .map (some rq_open)] :: Ow.pm rq_open (fun (x : T_api_Addr) => .agg (e_api_Addr x).toArray) pv_query_left th_query_left qm_4 none :: Ow.box b_1 26 (e_api_Tune t).toArray :: fr)) qm_3 [] r_1 bq_at rq_at_at hS hM) ?_
 rintro _ h_5 ⟨F_3, r_2, cm_1, rfl, hk, hS, hM⟩
 replace hK := hK.trans hk
 refine HA.nil ⟨(Blk.cell (hS.box 2 rfl) rfl), (Go.Wk.at_nil _ _)⟩ (by kernel_rfl) (?_)
 refine ⟨.inl rfl, .tuple #[], res0 rfl , ?_⟩
 replace hS : St F_3 (Ow.box bq 73 #[.int .i64 q_now_2, .pointer (some ⟨bq_at, 0, none⟩), .int .i64 q_first_2, .map (some rq_open)] :: Ow.box bq_at 110 #[.map (some rq_at_at)] :: Ow.map rq_at_at kT kI cm_1 :: Ow.pm rq_open (fun (x : T_api_Addr) => .agg (e_api_Addr x).toArray) pv_query_left th_query_left qm_4 none :: fr) h_5 := hS.perm2 [2, 0, 1, 3] 5 rfl rfl
 exact ⟨F_3, q_now_2, cm_1, q_first_2, qm_4, rfl, hK, hS, hM⟩

def clock_Clock_At_string_W (c_at : List (Str × Int)) (key : Str) (Q : Int → Bool → Prop) : Prop :=
 Q (mget0 c_at key) ((mget c_at key).isSome)
set_option maxHeartbeats 40000000 in
set_option maxRecDepth 100000 in
theorem clock_Clock_At_string_walk {F : Fz} {fr : List Ow} {h0 : Heap} (c_at : List (Str × Int)) (key : Str) (bc : Nat) (rc_at : Nat) (hS : St F (fr) h0) (hM_rc_at : RoF (Ow.map rc_at kT kI c_at) F h0) (hB_bc : RoF (Ow.box bc 110 #[.map (some rc_at)]) F h0) {Q : Int → Bool → Prop} (hM : clock_Clock_At_string_W c_at key Q) :
  HC Try.prog 45 #[.pointer (some ⟨bc, 0, none⟩), .string (bs key)] h0 fun u h' => ∃ (F' : Fz) (r0_1 : Int) (r1_1 : Bool), u = .tuple #[.int .i64 r0_1, .bool r1_1] ∧ Kp F h0 F' h' ∧ St F' (fr) h' ∧ (RoF (Ow.map rc_at kT kI c_at) F' h') ∧ (RoF (Ow.box bc 110 #[.map (some rc_at)]) F' h') ∧ Q r0_1 r1_1 := by
 unfold clock_Clock_At_string_W at hM
 have hK := Kp.refl F h0
 refine HC.of_HW (n := 21) Try.func45 rfl rfl (Nat.le_of_ble_eq_true rfl) ?_
 refine HW.seq ?_
 refine HW.region ?_
 refine oA (.int .i64 0) rfl rfl ?_
 refine oA (.bool false) rfl rfl ?_
 refine HO.nil (thenQ_normal (?_))
 refine HW.seq ?_
 refine HW.seq ?_
 refine HW.region ?_
 refine oM (.pointer (some ⟨bc, 0, none⟩)) rfl rfl ?_
 refine oV (.bool false) (q_eqlPnil Try.underlying69 rfl rfl rfl) rfl ?_
 refine HO.nil (thenQ_normal (?_))
 refine HW.condF rfl ?_
 refine HW.skip (thenQ_normal (?_))
 refine HW.seq ?_
 refine HW.region ?_
 refine oM (.pointer (some ⟨bc, 0, none⟩)) rfl rfl ?_
 refine oV (.pointer (some ⟨bc, 0, none⟩)) (q_nilCheck rfl) rfl ?_
 refine oV (.pointer (some ⟨bc, 0, none⟩)) (q_fieldAddr fa_110_0 rfl rfl) rfl ?_
 refine oV (.map (some rc_at)) (q_load to_108 rfl (Blk.cell hB_bc.box rfl)) rfl ?_
 refine oM (.string (bs key)) rfl rfl ?_
 refine oV (.tuple #[.int .i64 (mget0 c_at key), .bool ((mget c_at key).isSome)]) ((q_lookupOk (k := key) ka_9 tmk_108 hM_rc_at.mp rfl rfl).of_eq (congrArg (fun v => Value.tuple #[v, _]) (mval0 (z := .int .i64 0) rfl))) rfl ?_
 refine oM (.tuple #[.int .i64 (mget0 c_at key), .bool ((mget c_at key).isSome)]) rfl rfl ?_
 refine oV (.int .i64 (mget0 c_at key)) (q_extract rfl rfl) rfl ?_
 refine oV (.bool ((mget c_at key).isSome)) (q_extract rfl rfl) rfl ?_
 refine oA (.int .i64 (mget0 c_at key)) rfl rfl ?_
 refine oA (.bool ((mget c_at key).isSome)) rfl rfl ?_
 refine HO.nil (thenQ_normal (?_))
 refine HW.seq ?_
 refine HW.region ?_
 refine oM (.int .i64 (mget0 c_at key)) rfl rfl ?_
 refine oM (.bool ((mget c_at key).isSome)) rfl rfl ?_
 refine oA (.int .i64 (mget0 c_at key)) rfl rfl ?_
 refine oA (.bool ((mget c_at key).isSome)) rfl rfl ?_
 refine HO.nil (thenQ_normal (?_))
 refine HW.ret (?_)
 refine ⟨.inr rfl, .tuple #[.int .i64 (mget0 c_at key), .bool ((mget c_at key).isSome)], res2 rfl (rt rfl) (rt rfl), ?_⟩
 exact ⟨F, mget0 c_at key, (mget c_at key).isSome, rfl, hK, hS, hM_rc_at, hB_bc, hM⟩

def query_Queries_generals_j2 (q_now : Int) (q_at_at : List (Str × Int)) (q_first : Int) (q_open : List (T_api_Addr × (Nat × Nat) × T_query_left)) (Q : Bool → Int → (List (Str × Int)) → Int → (List (T_api_Addr × (Nat × Nat) × T_query_left)) → Prop) (gap_1 : Int) : Prop :=
 (I64 (q_now + gap_1)) ∧ (clock_Clock_Set_string_W q_at_at [] (q_now + gap_1) (fun r_2 cm_1 => Q true q_now cm_1 (q_first - 1) q_open))
def query_Queries_generals_j1 (q_now : Int) (q_at_at : List (Str × Int)) (q_first : Int) (q_open : List (T_api_Addr × (Nat × Nat) × T_query_left)) (t : T_api_Tune) (Q : Bool → Int → (List (Str × Int)) → Int → (List (T_api_Addr × (Nat × Nat) × T_query_left)) → Prop) (b_2 : Bool) : Prop :=
 (b_2 = true → Q false q_now q_at_at q_first q_open) ∧ (b_2 = false → tune_Startup_W t (fun r0_2 r1_2 => (I64 (q_first - 1)) ∧ (((q_first - 1) ≤ 0 → query_Queries_generals_j2 q_now q_at_at q_first q_open Q t.2.1) ∧ (¬ ((q_first - 1) ≤ 0) → query_Queries_generals_j2 q_now q_at_at q_first q_open Q r0_2))))
def query_Queries_generals_W (q_now : Int) (q_at_at : List (Str × Int)) (q_first : Int) (q_open : List (T_api_Addr × (Nat × Nat) × T_query_left)) (t : T_api_Tune) (Q : Bool → Int → (List (Str × Int)) → Int → (List (T_api_Addr × (Nat × Nat) × T_query_left)) → Prop) : Prop :=
 clock_Clock_At_string_W q_at_at [] (fun r0_1 r1_1 => ((!r1_1) = true → query_Queries_generals_j1 q_now q_at_at q_first q_open t Q true) ∧ ((!r1_1) = false → query_Queries_generals_j1 q_now q_at_at q_first q_open t Q (decide (q_now < r0_1))))
set_option maxHeartbeats 40000000 in
set_option maxRecDepth 100000 in
theorem query_Queries_generals_walk {F : Fz} {fr : List Ow} {h0 : Heap} (q_now : Int) (q_at_at : List (Str × Int)) (q_first : Int) (q_open : List (T_api_Addr × (Nat × Nat) × T_query_left)) (t : T_api_Tune) (bq : Nat) (bq_at : Nat) (rq_at_at : Nat) (rq_open : Nat) (hS : St F (Ow.box bq 73 #[.int .i64 q_now, .pointer (some ⟨bq_at, 0, none⟩), .int .i64 q_first, .map (some rq_open)] :: Ow.box bq_at 110 #[.map (some rq_at_at)] :: Ow.map rq_at_at kT kI q_at_at :: Ow.pm rq_open (fun (x : T_api_Addr) => .agg (e_api_Addr x).toArray) pv_query_left th_query_left q_open none :: fr) h0)  {Q : Bool → Int → (List (Str × Int)) → Int → (List (T_api_Addr × (Nat × Nat) × T_query_left)) → Prop} (hM : query_Queries_generals_W q_now q_at_at q_first q_open t Q) :
  HC Try.prog 44 #[.pointer (some ⟨bq, 0, none⟩), .agg (e_api_Tune t).toArray] h0 fun u h' => ∃ (F' : Fz) (r_1 : Bool) (q_now_1 : Int) (qm_1 : List (Str × Int)) (q_first_1 : Int) (qm_2 : List (T_api_Addr × (Nat × Nat) × T_query_left)), u = .bool r_1 ∧ Kp F h0 F' h' ∧ St F' (Ow.box bq 73 #[.int .i64 q_now_1, .pointer (some ⟨bq_at, 0, none⟩), .int .i64 q_first_1, .map (some rq_open)] :: Ow.box bq_at 110 #[.map (some rq_at_at)] :: Ow.map rq_at_at kT kI qm_1 :: Ow.pm rq_open (fun (x : T_api_Addr) => .agg (e_api_Addr x).toArray) pv_query_left th_query_left qm_2 none :: fr) h' ∧ Q r_1 q_now_1 qm_1 q_first_1 qm_2 := by
 unfold query_Queries_generals_W at hM
 have hK := Kp.refl F h0
 refine HC.of_HW (n := 57) Try.func44 rfl rfl (Nat.le_of_ble_eq_true rfl) ?_
 refine HW.seq ?_
 refine HW.region ?_
 refine HO.eff (want_none) rfl (st_box (c := (e_api_Tune t).toArray) (k' := 5) hS rfl rfl) ?_
 rintro _ h_1 ⟨b_1, rfl, hS, hk⟩
 replace hK := hK.trans hk
 refine oA (.bool false) rfl rfl ?_
 refine HO.nil (thenQ_normal (?_))
 refine HW.seq ?_
 refine HW.region ?_
 refine oM (.pointer (some ⟨bq, 0, none⟩)) rfl rfl ?_
 refine oV (.pointer (some ⟨bq, 0, none⟩)) (q_nilCheck rfl) rfl ?_
 refine oV (.pointer (some ⟨bq, 1, none⟩)) (q_fieldAddr fa_73_1 rfl rfl) rfl ?_
 refine oV (.pointer (some ⟨bq_at, 0, none⟩)) (q_load to_69 rfl (Blk.cell (hS.box 1 rfl) rfl)) rfl ?_
 replace hS : St F (Ow.box bq_at 110 #[.map (some rq_at_at)] :: Ow.box b_1 26 (e_api_Tune t).toArray :: Ow.box bq 73 #[.int .i64 q_now, .pointer (some ⟨bq_at, 0, none⟩), .int .i64 q_first, .map (some rq_open)] :: Ow.map rq_at_at kT kI q_at_at :: Ow.pm rq_open (fun (x : T_api_Addr) => .agg (e_api_Addr x).toArray) pv_query_left th_query_left q_open none :: fr) h_1 := hS.perm2 [2, 0, 1, 3, 4] 5 rfl rfl
 have hZ_1 := hS
 have hkz_1 := (hS.freeze).2
 replace hS := hS.freeze.1
 have hL_1 := hZ_1.lent
 replace hS : St (fun bz_ => F bz_ ∨ (Ow.box bq_at 110 #[.map (some rq_at_at)]).foot bz_) (Ow.map rq_at_at kT kI q_at_at :: Ow.box b_1 26 (e_api_Tune t).toArray :: Ow.box bq 73 #[.int .i64 q_now, .pointer (some ⟨bq_at, 0, none⟩), .int .i64 q_first, .map (some rq_open)] :: Ow.pm rq_open (fun (x : T_api_Addr) => .agg (e_api_Addr x).toArray) pv_query_left th_query_left q_open none :: fr) h_1 := hS.perm2 [2, 0, 1, 3] 4 rfl rfl
 have hZ_2 := hS
 have hkz_2 := (hS.freeze).2
 replace hS := hS.freeze.1
 have hL_2 := hZ_2.lent
 refine HO.call (want_none) rfl (ec en_45 rfl rfl) (clock_Clock_At_string_walk (fr := (Ow.box b_1 26 (e_api_Tune t).toArray :: Ow.box bq 73 #[.int .i64 q_now, .pointer (some ⟨bq_at, 0, none⟩), .int .i64 q_first, .map (some rq_open)] :: Ow.pm rq_open (fun (x : T_api_Addr) => .agg (e_api_Addr x).toArray) pv_query_left th_query_left q_open none :: fr)) q_at_at [] bq_at rq_at_at hS hL_2 (hL_1.kp hkz_2) hM) ?_
 rintro _ h_2 ⟨F_1, r0_1, r1_1, rfl, hk, hS, _, _, hM⟩
 obtain ⟨hS, hk⟩ := hZ_2.back hk hS
 obtain ⟨hS, hk⟩ := hZ_1.back hk hS
 generalize (fun bz_ => (fun bz_ => F_1 bz_ ∧ ¬ (Ow.map rq_at_at kT kI q_at_at).foot bz_) bz_ ∧ ¬ (Ow.box bq_at 110 #[.map (some rq_at_at)]).foot bz_) = F_2 at hS hk
 replace hK := hK.trans hk
 refine oM (.tuple #[.int .i64 r0_1, .bool r1_1]) rfl rfl ?_
 refine oV (.int .i64 r0_1) (q_extract rfl rfl) rfl ?_
 refine oV (.bool r1_1) (q_extract rfl rfl) rfl ?_
 refine oA (.int .i64 r0_1) rfl rfl ?_
 refine oA (.bool r1_1) rfl rfl ?_
 refine HO.nil (thenQ_normal (?_))
 refine HW.seq ?_
 refine HW.seq_mid (fun f h => ∃ (F' : Fz) (b_2 : Bool), f 0 = .pointer (some ⟨bq, 0, none⟩) ∧ f 3 = .pointer (some ⟨b_1, 0, none⟩) ∧ f 4 = .bool false ∧ f 26 = .bool b_2 ∧ Kp F h0 F' h ∧ St F' (Ow.box bq 73 #[.int .i64 q_now, .pointer (some ⟨bq_at, 0, none⟩), .int .i64 q_first, .map (some rq_open)] :: Ow.box bq_at 110 #[.map (some rq_at_at)] :: Ow.map rq_at_at kT kI q_at_at :: Ow.pm rq_open (fun (x : T_api_Addr) => .agg (e_api_Addr x).toArray) pv_query_left th_query_left q_open none :: Ow.box b_1 26 (e_api_Tune t).toArray :: fr) h ∧ query_Queries_generals_j1 q_now q_at_at q_first q_open t Q b_2) ?_ ?_
 ·
  refine HW.region ?_
  refine oM (.bool r1_1) rfl rfl ?_
  refine oV (.bool (!r1_1)) (q_not rfl) rfl ?_
  refine oM (.bool (!r1_1)) rfl rfl ?_
  rcases Bool.eq_false_or_eq_true (!r1_1) with c_1 | c_1
  ·
   replace hM := hM.1 c_1
   refine HO.past (past_by rfl rfl c_1) rfl ?_
   refine HO.past (past_by rfl rfl c_1) rfl ?_
   refine HO.past (past_by rfl rfl c_1) rfl ?_
   refine HO.past (past_by rfl rfl c_1) rfl ?_
   refine HO.past (past_by rfl rfl c_1) rfl ?_
   refine HO.past (past_by rfl rfl c_1) rfl ?_
   refine oV (.bool true) (q_pickK true rfl c_1 rfl) rfl ?_
   refine HO.nil (thenQ_normal (?_))
   replace hS : St F_2 (Ow.box bq 73 #[.int .i64 q_now, .pointer (some ⟨bq_at, 0, none⟩), .int .i64 q_first, .map (some rq_open)] :: Ow.box bq_at 110 #[.map (some rq_at_at)] :: Ow.map rq_at_at kT kI q_at_at :: Ow.pm rq_open (fun (x : T_api_Addr) => .agg (e_api_Addr x).toArray) pv_query_left th_query_left q_open none :: Ow.box b_1 26 (e_api_Tune t).toArray :: fr) h_2 := hS.perm2 [3, 0, 1, 4, 2] 5 rfl rfl
   exact ⟨F_2, true, rfl, rfl, rfl, rfl, hK, hS, hM⟩
  ·
   replace hM := hM.2 c_1
   refine HO.val (v := .int .i64 r0_1) (want_by rfl rfl c_1) rfl (q_move rfl) ?_
   refine HO.val (v := .pointer (some ⟨bq, 0, none⟩)) (want_by rfl rfl c_1) rfl (q_move rfl) ?_
   refine HO.val (v := .pointer (some ⟨bq, 0, none⟩)) (want_by rfl rfl c_1) rfl (q_nilCheck rfl) ?_
   refine HO.val (v := .pointer (some ⟨bq, 0, none⟩)) (want_by rfl rfl c_1) rfl (q_fieldAddr fa_73_0 rfl rfl) ?_
   refine HO.val (v := .int .i64 q_now) (want_by rfl rfl c_1) rfl (q_load to_3 rfl (Blk.cell (hS.box 3 rfl) rfl)) ?_
   refine HO.val (v := .bool (decide (q_now < r0_1))) (want_by rfl rfl c_1) rfl (q_gtr rfl rfl) ?_
   refine oV (.bool (decide (q_now < r0_1))) (q_pickK false rfl c_1 rfl) rfl ?_
   refine HO.nil (thenQ_normal (?_))
   replace hS : St F_2 (Ow.box bq 73 #[.int .i64 q_now, .pointer (some ⟨bq_at, 0, none⟩), .int .i64 q_first, .map (some rq_open)] :: Ow.box bq_at 110 #[.map (some rq_at_at)] :: Ow.map rq_at_at kT kI q_at_at :: Ow.pm rq_open (fun (x : T_api_Addr) => .agg (e_api_Addr x).toArray) pv_query_left th_query_left q_open none :: Ow.box b_1 26 (e_api_Tune t).toArray :: fr) h_2 := hS.perm2 [3, 0, 1, 4, 2] 5 rfl rfl
   exact ⟨F_2, decide (q_now < r0_1), rfl, rfl, rfl, rfl, hK, hS, hM⟩
 ·
  rintro f_1 h_3 ⟨F_3, b_2, e0, e3, e4, e26, hK, hS, hM⟩
  unfold query_Queries_generals_j1 at hM
  refine HW.fr [(0, .pointer (some ⟨bq, 0, none⟩)), (3, .pointer (some ⟨b_1, 0, none⟩)), (4, .bool false), (26, .bool b_2)] ⟨e0, e3, e4, e26, trivial⟩ ?_
  refine HW.cond b_2 rfl (fun c_2 => ?_) (fun c_2 => ?_)
  ·
   replace hM := hM.1 c_2
   refine HW.seq ?_
   refine HW.region ?_
   refine oA (.bool false) rfl rfl ?_
   refine HO.nil (thenQ_normal (?_))
   refine HW.ret (thenQ_ret (?_))
   refine ⟨.inr rfl, .bool false, res1 rfl (rt rfl), ?_⟩
   replace hS : St F_3 (Ow.box bq 73 #[.int .i64 q_now, .pointer (some ⟨bq_at, 0, none⟩), .int .i64 q_first, .map (some rq_open)] :: Ow.box bq_at 110 #[.map (some rq_at_at)] :: Ow.map rq_at_at kT kI q_at_at :: Ow.pm rq_open (fun (x : T_api_Addr) => .agg (e_api_Addr x).toArray) pv_query_left th_query_left q_open none :: fr) h_3 := hS.perm2 [0, 1, 2, 3] 5 rfl rfl
   exact ⟨F_3, false, q_now, q_at_at, q_first, q_open, rfl, hK, hS, hM⟩
  ·
   replace hM := hM.2 c_2
   refine HW.skip (thenQ_normal (?_))
   refine HW.seq ?_
   refine HW.region ?_
   refine oV (.agg (e_api_Tune t).toArray) (q_loadAgg (cs := (e_api_Tune t)) ta_26 rfl rfl (Blk.cells (k := 5) (hS.box 4 rfl) rfl)) rfl ?_
   refine HO.call (want_none) rfl (ec en_65 rfl rfl) (tune_Startup_walk (fr := (Ow.box bq 73 #[.int .i64 q_now, .pointer (some ⟨bq_at, 0, none⟩), .int .i64 q_first, .map (some rq_open)] :: Ow.box bq_at 110 #[.map (some rq_at_at)] :: Ow.map rq_at_at kT kI q_at_at :: Ow.pm rq_open (fun (x : T_api_Addr) => .agg (e_api_Addr x).toArray) pv_query_left th_query_left q_open none :: Ow.box b_1 26 (e_api_Tune t).toArray :: fr)) t hS hM) ?_
   rintro _ h_4 ⟨F_4, r0_2, r1_2, rfl, hk, hS, hM⟩
   replace hK := hK.trans hk
   refine oM (.tuple #[.int .i64 r0_2, .int .i64 r1_2]) rfl rfl ?_
   refine oV (.int .i64 r0_2) (q_extract rfl rfl) rfl ?_
   refine oV (.int .i64 r1_2) (q_extract rfl rfl) rfl ?_
   refine oA (.int .i64 r0_2) rfl rfl ?_
   refine oA (.int .i64 r1_2) rfl rfl ?_
   refine HO.nil (thenQ_normal (?_))
   refine HW.seq_mid (fun f h => ∃ (F' : Fz) (gap_1 : Int), f 0 = .pointer (some ⟨bq, 0, none⟩) ∧ f 4 = .bool false ∧ f 7 = .int .i64 gap_1 ∧ Kp F h0 F' h ∧ St F' (Ow.box bq 73 #[.int .i64 q_now, .pointer (some ⟨bq_at, 0, none⟩), .int .i64 (q_first - 1), .map (some rq_open)] :: Ow.box bq_at 110 #[.map (some rq_at_at)] :: Ow.map rq_at_at kT kI q_at_at :: Ow.pm rq_open (fun (x : T_api_Addr) => .agg (e_api_Addr x).toArray) pv_query_left th_query_left q_open none :: fr) h ∧ query_Queries_generals_j2 q_now q_at_at q_first q_open Q gap_1) ?_ ?_
   ·
    refine HW.seq ?_
    refine HW.region ?_
    refine oM (.pointer (some ⟨bq, 0, none⟩)) rfl rfl ?_
    refine oV (.pointer (some ⟨bq, 0, none⟩)) (q_nilCheck rfl) rfl ?_
    refine oV (.pointer (some ⟨bq, 2, none⟩)) (q_fieldAddr fa_73_2 rfl rfl) rfl ?_
    refine oV (.int .i64 q_first) (q_load to_3 rfl (Blk.cell (hS.box 0 rfl) rfl)) rfl ?_
    obtain ⟨ho_1, hM⟩ := hM
    refine oV (.int .i64 (q_first - 1)) (q_subN _ rfl rfl rfl ho_1.1 ho_1.2) rfl ?_
    refine oV (.pointer (some ⟨bq, 0, none⟩)) (q_nilCheck rfl) rfl ?_
    refine oV (.pointer (some ⟨bq, 2, none⟩)) (q_fieldAddr fa_73_2 rfl rfl) rfl ?_
    refine HO.sto (want_none) rfl (st_store (c' := #[.int .i64 q_now, .pointer (some ⟨bq_at, 0, none⟩), .int .i64 (q_first - 1), .map (some rq_open)]) hS (i := 0) rfl to_3 rfl rfl rfl rfl (Nat.le_of_ble_eq_true rfl) rfl) ?_
    rintro h_5 ⟨hS, hk⟩
    replace hK := hK.trans hk
    refine HO.nil (thenQ_normal (?_))
    refine HW.seq ?_
    refine HW.region ?_
    refine oM (.pointer (some ⟨bq, 0, none⟩)) rfl rfl ?_
    refine oV (.pointer (some ⟨bq, 0, none⟩)) (q_nilCheck rfl) rfl ?_
    refine oV (.pointer (some ⟨bq, 2, none⟩)) (q_fieldAddr fa_73_2 rfl rfl) rfl ?_
    refine oV (.int .i64 (q_first - 1)) (q_load to_3 rfl (Blk.cell (hS.box 0 rfl) rfl)) rfl ?_
    refine oV (.bool (decide ((q_first - 1) ≤ 0))) (q_leq rfl rfl) rfl ?_
    refine HO.nil (thenQ_normal (?_))
    refine HW.cond (decide ((q_first - 1) ≤ 0)) rfl (fun c_3 => ?_) (fun c_3 => ?_)
    ·
     replace hM := hM.1 (of_decide_eq_true c_3)
     refine HW.region ?_
     refine oV (.pointer (some ⟨b_1, 1, none⟩)) (q_fieldAddr fa_26_1 rfl rfl) rfl ?_
     refine oV (.int .i64 t.2.1) (q_load to_3 rfl (Blk.cell (hS.box 4 rfl) rfl)) rfl ?_
     refine oA (.int .i64 t.2.1) rfl rfl ?_
     refine HO.nil (thenQ_normal (?_))
     replace hS : St F_4 (Ow.box bq 73 #[.int .i64 q_now, .pointer (some ⟨bq_at, 0, none⟩), .int .i64 (q_first - 1), .map (some rq_open)] :: Ow.box bq_at 110 #[.map (some rq_at_at)] :: Ow.map rq_at_at kT kI q_at_at :: Ow.pm rq_open (fun (x : T_api_Addr) => .agg (e_api_Addr x).toArray) pv_query_left th_query_left q_open none :: fr) h_5 := hS.perm2 [0, 1, 2, 3] 5 rfl rfl
     exact ⟨F_4, t.2.1, rfl, rfl, rfl, hK, hS, hM⟩
    ·
     replace hM := hM.2 (of_decide_eq_false c_3)
     refine HW.skip (thenQ_normal (?_))
     replace hS : St F_4 (Ow.box bq 73 #[.int .i64 q_now, .pointer (some ⟨bq_at, 0, none⟩), .int .i64 (q_first - 1), .map (some rq_open)] :: Ow.box bq_at 110 #[.map (some rq_at_at)] :: Ow.map rq_at_at kT kI q_at_at :: Ow.pm rq_open (fun (x : T_api_Addr) => .agg (e_api_Addr x).toArray) pv_query_left th_query_left q_open none :: fr) h_5 := hS.perm2 [0, 1, 2, 3] 5 rfl rfl
     exact ⟨F_4, r0_2, rfl, rfl, rfl, hK, hS, hM⟩
   ·
    rintro f_2 h_6 ⟨F_5, gap_1, e0, e4, e7, hK, hS, hM⟩
    unfold query_Queries_generals_j2 at hM
    refine HW.fr [(0, .pointer (some ⟨bq, 0, none⟩)), (4, .bool false), (7, .int .i64 gap_1)] ⟨e0, e4, e7, trivial⟩ ?_
    refine HW.seq ?_
    refine HW.regionA 11 mixed (fun h => (Blk h bq (.cells #[.int .i64 q_now, .pointer (some ⟨bq_at, 0, none⟩), .int .i64 (q_first - 1), .map (some rq_open)] 73 (0, 0)))) [] (by kernel_rfl) ?_
    refine HA.val (k := 0) (v := .pointer (some ⟨bq, 0, none⟩)) rfl rfl (by kernel_rfl) (by kernel_rfl) (want_none) rfl (fun _ c219 => q_move rfl) ?_
    refine HA.val (k := 1) (v := .pointer (some ⟨bq, 0, none⟩)) rfl rfl (by kernel_rfl) (by kernel_rfl) (want_none) rfl (fun _ c219 => q_nilCheck rfl) ?_
    refine HA.val (k := 2) (v := .pointer (some ⟨bq, 1, none⟩)) rfl rfl (by kernel_rfl) (by kernel_rfl) (want_none) rfl (fun _ c219 => q_fieldAddr fa_73_1 rfl rfl) ?_
    refine HA.val (k := 3) (v := .pointer (some ⟨bq_at, 0, none⟩)) rfl rfl (by kernel_rfl) (by kernel_rfl) (want_none) rfl (fun _ c219 => q_load to_69 rfl (Blk.cell c219 rfl)) ?_
    refine HA.val (k := 4) (v := .pointer (some ⟨bq, 0, none⟩)) rfl rfl (by kernel_rfl) (by kernel_rfl) (want_none) rfl (fun _ c219 => q_move rfl) ?_
    refine HA.val (k := 5) (v := .pointer (some ⟨bq, 0, none⟩)) rfl rfl (by kernel_rfl) (by kernel_rfl) (want_none) rfl (fun _ c219 => q_nilCheck rfl) ?_
    refine HA.val (k := 6) (v := .pointer (some ⟨bq, 0, none⟩)) rfl rfl (by kernel_rfl) (by kernel_rfl) (want_none) rfl (fun _ c219 => q_fieldAddr fa_73_0 rfl rfl) ?_
    refine HA.val (k := 7) (v := .int .i64 q_now) rfl rfl (by kernel_rfl) (by kernel_rfl) (want_none) rfl (fun _ c219 => q_load to_3 rfl (Blk.cell c219 rfl)) ?_
    refine HA.val (k := 8) (v := .int .i64 gap_1) rfl rfl (by kernel_rfl) (by kernel_rfl) (want_none) rfl (fun _ c219 => q_move rfl) ?_
    obtain ⟨ho_2, hM⟩ := hM
    refine HA.val (k := 9) (v := .int .i64 (q_now + gap_1)) rfl rfl (by kernel_rfl) (by kernel_rfl) (want_none) rfl (fun _ c219 => q_addN _ rfl rfl rfl ho_2.1 ho_2.2) ?_
    refine HA.one (k := 10) ⟨(hS.box 0 rfl), (Go.Wk.at_nil _ _)⟩ (by kernel_rfl) ?_
    replace hS : St F_5 (Ow.box bq_at 110 #[.map (some rq_at_at)] :: Ow.map rq_at_at kT kI q_at_at :: Ow.box bq 73 #[.int .i64 q_now, .pointer (some ⟨bq_at, 0, none⟩), .int .i64 (q_first - 1), .map (some rq_open)] :: Ow.pm rq_open (fun (x : T_api_Addr) => .agg (e_api_Addr x).toArray) pv_query_left th_query_left q_open none :: fr) h_6 := hS.perm2 [1, 2, 0, 3] 4 rfl rfl
    refine HS.call rfl (want_none) rfl (ec en_40 rfl rfl) (clock_Clock_Set_string_walk (fr := (Ow.box bq 73 #[.int .i64 q_now, .pointer (some ⟨bq_at, 0, none⟩), .int .i64 (q_first - 1), .map (some rq_open)] :: Ow.pm rq_open (fun (x : T_api_Addr) => .agg (e_api_Addr x).toArray) pv_query_left th_query_left q_open none :: fr)) q_at_at [] (q_now + gap_1) bq_at rq_at_at hS hM) ?_
    rintro _ h_7 ⟨F_6, r_2, cm_1, rfl, hk, hS, hM⟩
    replace hK := hK.trans hk
    refine HA.nil ⟨(hS.box 2 rfl), (Go.Wk.at_nil _ _)⟩ (by kernel_rfl) (thenQ_normal (?_))
    refine HW.seq ?_
    refine HW.region ?_
    refine oA (.bool true) rfl rfl ?_
    refine HO.nil (thenQ_normal (?_))
    refine HW.ret (?_)
    refine ⟨.inr rfl, .bool true, res1 rfl (rt rfl), ?_⟩
    replace hS : St F_6 (Ow.box bq 73 #[.int .i64 q_now, .pointer (some ⟨bq_at, 0, none⟩), .int .i64 (q_first - 1), .map (some rq_open)] :: Ow.box bq_at 110 #[.map (some rq_at_at)] :: Ow.map rq_at_at kT kI cm_1 :: Ow.pm rq_open (fun (x : T_api_Addr) => .agg (e_api_Addr x).toArray) pv_query_left th_query_left q_open none :: fr) h_7 := hS.perm2 [2, 0, 1, 3] 4 rfl rfl
    exact ⟨F_6, true, q_now, cm_1, q_first - 1, q_open, rfl, hK, hS, hM⟩

def maps_DeleteFunc_map_api_Addr_int_api_Addr_int_l1 (cf_del : T_api_Addr → Int → Bool) (Q : (List (T_api_Addr × Int)) → Prop) (K_1 : (List (T_api_Addr × Int)) → (List (T_api_Addr × Int)) → Prop) (a0_2 : List (T_api_Addr × Int)) (rem_1 : List (T_api_Addr × Int)) : Prop :=
 (rem_1 = [] → Q a0_2) ∧ (∀ (p_1 : T_api_Addr × Int) (rem_2 : List (T_api_Addr × Int)), List.Perm rem_1 (p_1 :: rem_2) → ((cf_del p_1.1 p_1.2) = true → K_1 (mdel a0_2 p_1.1) rem_2) ∧ ((cf_del p_1.1 p_1.2) = false → K_1 a0_2 rem_2))
def maps_DeleteFunc_map_api_Addr_int_api_Addr_int_W (m1 : List (T_api_Addr × Int)) (cf_del : T_api_Addr → Int → Bool) (Q : (List (T_api_Addr × Int)) → Prop) : Prop :=
 loopW (fun (K_1 : ((List (T_api_Addr × Int)) × List (T_api_Addr × Int)) → Prop) (s : (List (T_api_Addr × Int)) × List (T_api_Addr × Int)) => maps_DeleteFunc_map_api_Addr_int_api_Addr_int_l1 cf_del Q (fun a0_2 rem_1 => K_1 (a0_2, rem_1)) s.1 s.2) (m1, m1)
set_option maxHeartbeats 40000000 in
set_option maxRecDepth 100000 in
theorem maps_DeleteFunc_map_api_Addr_int_api_Addr_int_walk {F : Fz} {fr : List Ow} {h0 : Heap} (m1 : List (T_api_Addr × Int)) (cf_del : T_api_Addr → Int → Bool) (rm : Nat) (g_del : Nat) (fs_del : Array Value) (cs_del : Array Value) (hS : St F (Ow.map rm (fun (x : T_api_Addr) => .agg (e_api_Addr x).toArray) kI m1 :: fr) h0) (hF_cf_del : FnP Try.prog F h0 g_del fs_del cs_del (fun x : T_api_Addr × Int => [.agg (e_api_Addr x.1).toArray, .int .i64 x.2]) (fun x => .bool (cf_del x.1 x.2))) {Q : (List (T_api_Addr × Int)) → Prop} (hM : maps_DeleteFunc_map_api_Addr_int_api_Addr_int_W m1 cf_del Q) :
  HC Try.prog 80 #[.map (some rm), .func (.func g_del) fs_del cs_del] h0 fun u h' => ∃ (F' : Fz) (a0m_1 : List (T_api_Addr × Int)), u = .tuple #[] ∧ Kp F h0 F' h' ∧ St F' (Ow.map rm (fun (x : T_api_Addr) => .agg (e_api_Addr x).toArray) kI a0m_1 :: fr) h' ∧ (FnP Try.prog F' h' g_del fs_del cs_del (fun x : T_api_Addr × Int => [.agg (e_api_Addr x.1).toArray, .int .i64 x.2]) (fun x => .bool (cf_del x.1 x.2))) ∧ Q a0m_1 := by
 unfold maps_DeleteFunc_map_api_Addr_int_api_Addr_int_W at hM
 have hK := Kp.refl F h0
 refine HC.of_HW (n := 19) Try.func80 rfl rfl (Nat.le_of_ble_eq_true rfl) ?_
 refine HW.seq ?_
 refine HW.region ?_
 refine oM (.map (some rm)) rfl rfl ?_
 refine HO.eff (want_none) rfl (st_range hS (i := 0) rfl Try.underlying77 rfl) ?_
 rintro _ h_1 ⟨it_1, rfl, hS, hk⟩
 replace hK := hK.trans hk
 replace hF_cf_del := hF_cf_del.kp hk
 refine HO.nil (thenQ_normal (?_))
 refine HW.block ?_
 obtain ⟨I_1, m_1, hI_1, hR_1⟩ := hM
 refine HW.loop (S := (List (T_api_Addr × Int)) × List (T_api_Addr × Int)) (fun s f h => match s with | (a0_2, rem_1) => ∃ (F' : Fz), f 0 = .map (some rm) ∧ f 1 = .func (.func g_del) fs_del cs_del ∧ f 7 = .pointer (some ⟨it_1, 0, none⟩) ∧ Kp F h0 F' h ∧ St F' (Ow.iter it_1 rm (fun (x : T_api_Addr) => .agg (e_api_Addr x).toArray) kI a0_2 rem_1 :: fr) h ∧ (FnP Try.prog F' h g_del fs_del cs_del (fun x : T_api_Addr × Int => [.agg (e_api_Addr x.1).toArray, .int .i64 x.2]) (fun x => .bool (cf_del x.1 x.2))) ∧ I_1 (a0_2, rem_1)) m_1 (m1, m1) ⟨F, rfl, rfl, rfl, hK, hS, hF_cf_del, hI_1⟩ ?_
 rintro ⟨a0_2, rem_1⟩ f_1 h_2 ⟨F_1, e0, e1, e7, hK, hS, hF_cf_del, hI0⟩
 obtain ⟨K_1, hKe_1⟩ : ∃ K : (List (T_api_Addr × Int)) → (List (T_api_Addr × Int)) → Prop, K = fun a0_2' rem_1' => I_1 (a0_2', rem_1') ∧ m_1 (a0_2', rem_1') < m_1 (a0_2, rem_1) := ⟨_, rfl⟩
 have hM : maps_DeleteFunc_map_api_Addr_int_api_Addr_int_l1 cf_del Q K_1 a0_2 rem_1 := by rw [hKe_1]; exact hR_1 (a0_2, rem_1) hI0
 unfold maps_DeleteFunc_map_api_Addr_int_api_Addr_int_l1 at hM
 refine HW.fr [(0, .map (some rm)), (1, .func (.func g_del) fs_del cs_del), (7, .pointer (some ⟨it_1, 0, none⟩))] ⟨e0, e1, e7, trivial⟩ ?_
 refine HW.seq ?_
 refine HW.region ?_
 refine HO.eff (want_none) rfl (st_next hS (i := 0) rfl rfl) ?_
 rintro _ h_3 (⟨hrem, rfl, hEq⟩ | ⟨p_1, rem_2, hperm, rfl, hS, hk⟩)
 ·
  rw [hEq]
  replace hM := hM.1 hrem
  replace hS := hS.done 0 rfl
  refine oV (.bool false) (q_extract rfl rfl) rfl ?_
  refine HO.nil (thenQ_normal (?_))
  refine HW.seq ?_
  refine HW.condF rfl ?_
  refine HW.exit (thenQ_exit (thenQ_exit (blockQ_exit (?_))))
  refine ⟨.inl rfl, .tuple #[], res0 rfl , ?_⟩
  exact ⟨F_1, a0_2, rfl, hK, hS, hF_cf_del, hM⟩
 ·
  replace hM := hM.2 p_1 rem_2 hperm
  replace hK := hK.trans hk
  replace hF_cf_del := hF_cf_del.kp hk
  refine oV (.bool true) (q_extract rfl rfl) rfl ?_
  refine HO.nil (thenQ_normal (?_))
  refine HW.seq ?_
  refine HW.condT rfl ?_
  refine HW.skip (thenQ_normal (?_))
  refine HW.block ?_
  refine HW.seq ?_
  refine HW.region ?_
  refine oV (.tuple #[.agg (e_api_Addr p_1.1).toArray, .int .i64 p_1.2]) (q_entry (hS.cu 0 rfl) rfl) rfl ?_
  refine oV (.agg (e_api_Addr p_1.1).toArray) (q_extract rfl rfl) rfl ?_
  refine oV (.int .i64 p_1.2) (q_extract rfl rfl) rfl ?_
  refine HO.eff (want_none) rfl (st_alloc (c := (e_api_Addr (false, (default : Ba 16))).toArray) hS tz_30 rfl) ?_
  rintro _ h_4 ⟨b_1, rfl, hS, hk⟩
  replace hK := hK.trans hk
  replace hF_cf_del := hF_cf_del.kp hk
  refine HO.sto (want_none) rfl (st_storeAgg (c' := (e_api_Addr p_1.1).toArray) hS (i := 0) rfl ta_30 rfl rfl rfl (one_e_api_Addr _) (Nat.le_of_ble_eq_true rfl) rfl) ?_
  rintro h_5 ⟨hS, hk⟩
  replace hK := hK.trans hk
  replace hF_cf_del := hF_cf_del.kp hk
  refine oA (.int .i64 p_1.2) rfl rfl ?_
  refine HO.nil (thenQ_normal (?_))
  refine HW.seq ?_
  refine HW.region ?_
  refine oM (.func (.func g_del) fs_del cs_del) rfl rfl ?_
  refine oV (.agg (e_api_Addr p_1.1).toArray) (q_loadAgg (cs := (e_api_Addr p_1.1)) ta_30 rfl rfl (Blk.cells (k := 17) (hS.box 0 rfl) rfl)) rfl ?_
  refine oM (.int .i64 p_1.2) rfl rfl ?_
  refine HO.call (want_none) rfl (hF_cf_del.ec (p_1.1, p_1.2) rfl rfl) (hF_cf_del.hc (p_1.1, p_1.2) hS) ?_
  rintro _ h_6 ⟨rfl, hS, hk⟩
  replace hK := hK.trans hk
  replace hF_cf_del := hF_cf_del.kp hk
  refine HO.nil (thenQ_normal (?_))
  refine HW.cond (cf_del p_1.1 p_1.2) rfl (fun c_1 => ?_) (fun c_1 => ?_)
  ·
   replace hM := hM.1 c_1
   refine HW.region ?_
   refine oM (.map (some rm)) rfl rfl ?_
   refine oV (.agg (e_api_Addr p_1.1).toArray) (q_loadAgg (cs := (e_api_Addr p_1.1)) ta_30 rfl rfl (Blk.cells (k := 17) (hS.box 0 rfl) rfl)) rfl ?_
   refine HO.eff (want_none) rfl (st_deleteCur hS (i := 1) rfl ka_30 tmk_77 rfl rfl rfl) ?_
   rintro _ h_7 ⟨rfl, hS, hk⟩
   replace hK := hK.trans hk
   replace hF_cf_del := hF_cf_del.kp hk
   refine HO.nil (blockQ_normal (thenQ_normal (?_)))
   replace hS : St F_1 (Ow.iter it_1 rm (fun (x : T_api_Addr) => .agg (e_api_Addr x).toArray) kI (mdel a0_2 p_1.1) rem_2 :: fr) h_7 := hS.perm2 [1] 2 rfl rfl
   rw [hKe_1] at hM
   exact ⟨(mdel a0_2 p_1.1, rem_2), ⟨F_1, rfl, rfl, rfl, hK, hS, hF_cf_del, hM.1⟩, hM.2⟩
  ·
   replace hM := hM.2 c_1
   refine HW.skip (blockQ_normal (thenQ_normal (?_)))
   replace hS := hS.again 1 rfl
   replace hS : St F_1 (Ow.iter it_1 rm (fun (x : T_api_Addr) => .agg (e_api_Addr x).toArray) kI a0_2 rem_2 :: fr) h_6 := hS.perm2 [1] 2 rfl rfl
   rw [hKe_1] at hM
   exact ⟨(a0_2, rem_2), ⟨F_1, rfl, rfl, rfl, hK, hS, hF_cf_del, hM.1⟩, hM.2⟩

def query_left_tell_1_W (x : T_api_Addr) (n : Int) (Q : Bool → Prop) : Prop :=
 Q (decide (n ≤ 0))
set_option maxHeartbeats 40000000 in
set_option maxRecDepth 100000 in
theorem query_left_tell_1_walk {F : Fz} {fr : List Ow} {h0 : Heap} (x : T_api_Addr) (n : Int) (hS : St F (fr) h0)  {Q : Bool → Prop} (hM : query_left_tell_1_W x n Q) :
  HC Try.prog 81 #[.agg (e_api_Addr x).toArray, .int .i64 n] h0 fun u h' => ∃ (F' : Fz) (r_1 : Bool), u = .bool r_1 ∧ Kp F h0 F' h' ∧ St F' (fr) h' ∧ Q r_1 := by
 unfold query_left_tell_1_W at hM
 have hK := Kp.refl F h0
 refine HC.of_HW (n := 7) Try.func81 rfl rfl (Nat.le_of_ble_eq_true rfl) ?_
 refine HW.seq ?_
 refine HW.region ?_
 refine HO.eff (want_none) rfl (st_box (c := (e_api_Addr x).toArray) (k' := 17) hS rfl rfl) ?_
 rintro _ h_1 ⟨b_1, rfl, hS, hk⟩
 replace hK := hK.trans hk
 refine oA (.bool false) rfl rfl ?_
 refine HO.nil (thenQ_normal (?_))
 refine HW.seq ?_
 refine HW.region ?_
 refine oM (.int .i64 n) rfl rfl ?_
 refine oV (.bool (decide (n ≤ 0))) (q_leq rfl rfl) rfl ?_
 refine oA (.bool (decide (n ≤ 0))) rfl rfl ?_
 refine HO.nil (thenQ_normal (?_))
 refine HW.ret (?_)
 refine ⟨.inr rfl, .bool (decide (n ≤ 0)), res1 rfl (rt rfl), ?_⟩
 replace hS : St F (fr) h_1 := hS.perm2 [] 1 rfl rfl
 exact ⟨F, decide (n ≤ 0), rfl, hK, hS, hM⟩
end Go.Wk
