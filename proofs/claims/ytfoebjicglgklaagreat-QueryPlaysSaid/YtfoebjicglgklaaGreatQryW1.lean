/- Walks of Query. -/
import Derived.Test.YtfoebjicglgklaaGreatTxt
import Derived.Test.YtfoebjicglgklaaGreatNest
import Derived.Test.YtfoebjicglgklaaGreatTight
import Derived.Test.YtfoebjicglgklaaGreatKy
import Derived.Test.YtfoebjicglgklaaGreatPool
import Derived.Test.YtfoebjicglgklaaGreatIterT
import Derived.Test.YtfoebjicglgklaaGreatLayQ
import Derived.Test.YtfoebjicglgklaaGreatProg
set_option linter.unusedSimpArgs false
set_option linter.unusedVariables false
set_option linter.unusedSectionVars false
set_option maxHeartbeats 40000000
set_option maxRecDepth 100000
namespace Go.Wk
open Go.HL
open Go.Proofs hiding encI
variable [DM]
abbrev TA := Bool × Ba 16
abbrev TqL := Int × List (TA × Int)
abbrev TrL := TA × Int
abbrev TrO := TA × Int × Int × SV × List TrL
abbrev T_api_Tune := Int × Int × Int × Int × Int
abbrev T_api_Asked := TA × Bool × (Value × List TA)
abbrev T_acequiaref22_Act := Int × Int × T_api_Asked
def eA (x : TA) : List Value := [.bool x.1, .int .u8 (b8 x.2 0), .int .u8 (b8 x.2 1), .int .u8 (b8 x.2 2), .int .u8 (b8 x.2 3), .int .u8 (b8 x.2 4), .int .u8 (b8 x.2 5), .int .u8 (b8 x.2 6), .int .u8 (b8 x.2 7), .int .u8 (b8 x.2 8), .int .u8 (b8 x.2 9), .int .u8 (b8 x.2 10), .int .u8 (b8 x.2 11), .int .u8 (b8 x.2 12), .int .u8 (b8 x.2 13), .int .u8 (b8 x.2 14), .int .u8 (b8 x.2 15)]
def pv_query_left (i : Nat × Nat) : Value := .pointer (some ⟨i.1, 0, none⟩)
def th_query_left (i : Nat × Nat) (x : TqL) : Ow := Ow.both (Ow.box i.1 179 #[.int .i64 x.1, .map (some i.2)]) (Ow.map i.2 (fun (x : TA) => .agg (eA x).toArray) kI x.2)
def erL (x : TrL) : List Value := [.bool x.1.1, .int .u8 (b8 x.1.2 0), .int .u8 (b8 x.1.2 1), .int .u8 (b8 x.1.2 2), .int .u8 (b8 x.1.2 3), .int .u8 (b8 x.1.2 4), .int .u8 (b8 x.1.2 5), .int .u8 (b8 x.1.2 6), .int .u8 (b8 x.1.2 7), .int .u8 (b8 x.1.2 8), .int .u8 (b8 x.1.2 9), .int .u8 (b8 x.1.2 10), .int .u8 (b8 x.1.2 11), .int .u8 (b8 x.1.2 12), .int .u8 (b8 x.1.2 13), .int .u8 (b8 x.1.2 14), .int .u8 (b8 x.1.2 15), .int .i64 x.2]
def erO (x : TrO) : List Value := [.bool x.1.1, .int .u8 (b8 x.1.2 0), .int .u8 (b8 x.1.2 1), .int .u8 (b8 x.1.2 2), .int .u8 (b8 x.1.2 3), .int .u8 (b8 x.1.2 4), .int .u8 (b8 x.1.2 5), .int .u8 (b8 x.1.2 6), .int .u8 (b8 x.1.2 7), .int .u8 (b8 x.1.2 8), .int .u8 (b8 x.1.2 9), .int .u8 (b8 x.1.2 10), .int .u8 (b8 x.1.2 11), .int .u8 (b8 x.1.2 12), .int .u8 (b8 x.1.2 13), .int .u8 (b8 x.1.2 14), .int .u8 (b8 x.1.2 15), .int .i64 x.2.1, .int .i64 x.2.2.1, svV x.2.2.2.1]
def e_api_Tune (x : T_api_Tune) : List Value := [.int .i64 x.1, .int .i64 x.2.1, .int .i64 x.2.2.1, .int .i64 x.2.2.2.1, .int .i64 x.2.2.2.2]
def c_api_Asked (a0 : TA) (a1 : Value) (a2 : Value) : List Value := [.bool a0.1, .int .u8 (b8 a0.2 0), .int .u8 (b8 a0.2 1), .int .u8 (b8 a0.2 2), .int .u8 (b8 a0.2 3), .int .u8 (b8 a0.2 4), .int .u8 (b8 a0.2 5), .int .u8 (b8 a0.2 6), .int .u8 (b8 a0.2 7), .int .u8 (b8 a0.2 8), .int .u8 (b8 a0.2 9), .int .u8 (b8 a0.2 10), .int .u8 (b8 a0.2 11), .int .u8 (b8 a0.2 12), .int .u8 (b8 a0.2 13), .int .u8 (b8 a0.2 14), .int .u8 (b8 a0.2 15), a1, a2]
def e_api_Asked (x : T_api_Asked) : List Value := [.bool x.1.1, .int .u8 (b8 x.1.2 0), .int .u8 (b8 x.1.2 1), .int .u8 (b8 x.1.2 2), .int .u8 (b8 x.1.2 3), .int .u8 (b8 x.1.2 4), .int .u8 (b8 x.1.2 5), .int .u8 (b8 x.1.2 6), .int .u8 (b8 x.1.2 7), .int .u8 (b8 x.1.2 8), .int .u8 (b8 x.1.2 9), .int .u8 (b8 x.1.2 10), .int .u8 (b8 x.1.2 11), .int .u8 (b8 x.1.2 12), .int .u8 (b8 x.1.2 13), .int .u8 (b8 x.1.2 14), .int .u8 (b8 x.1.2 15), .bool x.2.1, x.2.2.1]
def nf_api_Asked : Nf T_api_Asked := ((Nf.sl 17 eA).on fun x : T_api_Asked => x.2.2)
def c_acequiaref22_Act (a0 : Value) (a1 : Value) (a2 : TA) (a3 : Value) (a4 : Value) : List Value := [a0, a1, .bool a2.1, .int .u8 (b8 a2.2 0), .int .u8 (b8 a2.2 1), .int .u8 (b8 a2.2 2), .int .u8 (b8 a2.2 3), .int .u8 (b8 a2.2 4), .int .u8 (b8 a2.2 5), .int .u8 (b8 a2.2 6), .int .u8 (b8 a2.2 7), .int .u8 (b8 a2.2 8), .int .u8 (b8 a2.2 9), .int .u8 (b8 a2.2 10), .int .u8 (b8 a2.2 11), .int .u8 (b8 a2.2 12), .int .u8 (b8 a2.2 13), .int .u8 (b8 a2.2 14), .int .u8 (b8 a2.2 15), a3, a4]
def c_acequiaref22_One (a0 : TA) (a1 : Value) (a2 : Value) (a3 : Value) : List Value := [.bool a0.1, .int .u8 (b8 a0.2 0), .int .u8 (b8 a0.2 1), .int .u8 (b8 a0.2 2), .int .u8 (b8 a0.2 3), .int .u8 (b8 a0.2 4), .int .u8 (b8 a0.2 5), .int .u8 (b8 a0.2 6), .int .u8 (b8 a0.2 7), .int .u8 (b8 a0.2 8), .int .u8 (b8 a0.2 9), .int .u8 (b8 a0.2 10), .int .u8 (b8 a0.2 11), .int .u8 (b8 a0.2 12), .int .u8 (b8 a0.2 13), .int .u8 (b8 a0.2 14), .int .u8 (b8 a0.2 15), a1, a2, a3]
def e_acequiaref22_Act (x : T_acequiaref22_Act) : List Value := [.int .i64 x.1, .int .i64 x.2.1, .bool x.2.2.1.1, .int .u8 (b8 x.2.2.1.2 0), .int .u8 (b8 x.2.2.1.2 1), .int .u8 (b8 x.2.2.1.2 2), .int .u8 (b8 x.2.2.1.2 3), .int .u8 (b8 x.2.2.1.2 4), .int .u8 (b8 x.2.2.1.2 5), .int .u8 (b8 x.2.2.1.2 6), .int .u8 (b8 x.2.2.1.2 7), .int .u8 (b8 x.2.2.1.2 8), .int .u8 (b8 x.2.2.1.2 9), .int .u8 (b8 x.2.2.1.2 10), .int .u8 (b8 x.2.2.1.2 11), .int .u8 (b8 x.2.2.1.2 12), .int .u8 (b8 x.2.2.1.2 13), .int .u8 (b8 x.2.2.1.2 14), .int .u8 (b8 x.2.2.1.2 15), .bool x.2.2.2.1, x.2.2.2.2.1]
def nf_acequiaref22_Act : Nf T_acequiaref22_Act := ((Nf.sl 17 eA).on fun x : T_acequiaref22_Act => x.2.2.2.2)
theorem one_e_api_Addr (x : TA) : ∀ v ∈ eA x, v.oneCell' = true := by intro v hv; simp [eA] at hv; rcases hv with rfl | rfl | rfl | rfl | rfl | rfl | rfl | rfl | rfl | rfl | rfl | rfl | rfl | rfl | rfl | rfl | rfl <;> rfl
theorem one_e_api_Tune (x : T_api_Tune) : ∀ v ∈ e_api_Tune x, v.oneCell' = true := by intro v hv; simp [e_api_Tune] at hv; rcases hv with rfl | rfl | rfl | rfl | rfl <;> rfl
theorem fa_56_0 : FieldAt Tryz.prog 56 0 0 := fun a w => by kernel_rfl
theorem to_3 : TOne Tryz.prog 3 := ⟨Tryz.isAgg3, Tryz.sizeOf3⟩
theorem fa_56_4 : FieldAt Tryz.prog 56 4 4 := fun a w => by kernel_rfl
theorem fa_56_1 : FieldAt Tryz.prog 56 1 1 := fun a w => by kernel_rfl
theorem fa_56_2 : FieldAt Tryz.prog 56 2 2 := fun a w => by kernel_rfl
theorem fa_56_3 : FieldAt Tryz.prog 56 3 3 := fun a w => by kernel_rfl
theorem tp_222 : TPlaces Tryz.prog 222 #[(0, 1)] #[.map none] := tplaces Tryz.runUnderlying222 Tryz.zeroValue222 rfl (fun w => by kernel_rfl)
theorem en_108 (args : Array Value) (w : World) : (callFunc 108 args).run Tryz.prog w = .ok (.enter 108 args) w := by kernel_rfl
theorem tp_167 : TPlaces Tryz.prog 167 #[(0, 1), (1, 1), (2, 1), (3, 1)] #[.int .i64 0, .pointer none, .int .i64 0, .map none] := tplaces Tryz.runUnderlying167 Tryz.zeroValue167 rfl (fun w => by kernel_rfl)
theorem tz_56 : TZero Tryz.prog 56 (.agg (e_api_Tune (0, 0, 0, 0, 0)).toArray) := Tryz.zeroValue56
theorem tp_56 : TPlaces Tryz.prog 56 #[(0, 1), (1, 1), (2, 1), (3, 1), (4, 1)] #[.int .i64 0, .int .i64 0, .int .i64 0, .int .i64 0, .int .i64 0] := tplaces Tryz.runUnderlying56 Tryz.zeroValue56 rfl (fun w => by kernel_rfl)
theorem ta_56 : TAgg Tryz.prog 56 5 := ⟨Tryz.isAgg56, Tryz.sizeOf56⟩
theorem mixed : Tryz.prog.follows .mixedOrders = true := by kernel_rfl
theorem fa_167_0 : FieldAt Tryz.prog 167 0 0 := fun a w => by kernel_rfl
theorem fa_222_0 : FieldAt Tryz.prog 222 0 0 := fun a w => by kernel_rfl
theorem to_220 : TOne Tryz.prog 220 := ⟨Tryz.isAgg220, Tryz.sizeOf220⟩
theorem tz_3 : TZero Tryz.prog 3 (.int .i64 0) := Tryz.zeroValue3
theorem tmk_220 : TMapK Tryz.prog 220 9 3 (.int .i64 0) := ⟨Tryz.underlying220, tz_3⟩
theorem ka_9 : KeyAt Tryz.prog 9 kT := keyAt_of keyOk_T Tryz.underlying9
theorem en_109 (args : Array Value) (w : World) : (callFunc 109 args).run Tryz.prog w = .ok (.enter 109 args) w := by kernel_rfl
theorem fa_167_2 : FieldAt Tryz.prog 167 2 2 := fun a w => by kernel_rfl
theorem fa_167_1 : FieldAt Tryz.prog 167 1 1 := fun a w => by kernel_rfl
theorem to_163 : TOne Tryz.prog 163 := ⟨Tryz.isAgg163, Tryz.sizeOf163⟩
theorem en_111 (args : Array Value) (w : World) : (callFunc 111 args).run Tryz.prog w = .ok (.enter 111 args) w := by kernel_rfl
theorem en_110 (args : Array Value) (w : World) : (callFunc 110 args).run Tryz.prog w = .ok (.enter 110 args) w := by kernel_rfl
theorem en_124 (args : Array Value) (w : World) : (callFunc 124 args).run Tryz.prog w = .ok (.enter 124 args) w := by kernel_rfl
theorem tz_28 : TZero Tryz.prog 28 (.agg #[.bool false, .int .u8 0, .int .u8 0, .int .u8 0, .int .u8 0, .int .u8 0, .int .u8 0, .int .u8 0, .int .u8 0, .int .u8 0, .int .u8 0, .int .u8 0, .int .u8 0, .int .u8 0, .int .u8 0, .int .u8 0, .int .u8 0]) := Tryz.zeroValue28
theorem en_212 (args : Array Value) (w : World) : (callFunc 212 args).run Tryz.prog w = .ok (.enter 212 args) w := by kernel_rfl
theorem te_29 : TElem Tryz.prog 29 28 17 17 := ⟨Tryz.underlying29, ⟨Tryz.t28, .agg #[.bool false, .int .u8 0, .int .u8 0, .int .u8 0, .int .u8 0, .int .u8 0, .int .u8 0, .int .u8 0, .int .u8 0, .int .u8 0, .int .u8 0, .int .u8 0, .int .u8 0, .int .u8 0, .int .u8 0, .int .u8 0, .int .u8 0], by kernel_rfl, by kernel_rfl, by kernel_rfl, by kernel_rfl, by kernel_rfl⟩, by decide⟩
theorem ta_28 : TAgg Tryz.prog 28 17 := ⟨Tryz.isAgg28, Tryz.sizeOf28⟩
theorem to_29 : TOne Tryz.prog 29 := ⟨Tryz.isAgg29, Tryz.sizeOf29⟩
theorem to_165 : TOne Tryz.prog 165 := ⟨Tryz.isAgg165, Tryz.sizeOf165⟩
theorem ts_29 : TSlice Tryz.prog 29 28 17 := ⟨Tryz.underlying29, Tryz.sizeOf28⟩
theorem tl_29 : TLit Tryz.prog 29 28 17 #[.bool false, .int .u8 0, .int .u8 0, .int .u8 0, .int .u8 0, .int .u8 0, .int .u8 0, .int .u8 0, .int .u8 0, .int .u8 0, .int .u8 0, .int .u8 0, .int .u8 0, .int .u8 0, .int .u8 0, .int .u8 0, .int .u8 0] := tlit ts_29 tz_28 rfl
theorem apk_220_212 {F : Fz} {os : List Ow} {h : Heap} {b r : Nat} {ν : Type} {en : ν → Value} {m : List (TA × ν)} (hS : St F os h) (hB : Blk h b (.cells #[.map (some r)] 165 (0, 0))) (hM : MapIs h r (fun x => .agg (eA x).toArray) en m) (hN : m.length * 17 ≤ 140737488355328) :
    HC Tryz.prog 220 #[.slice none 0 0, .func (.func 212) #[] #[.pointer (some ⟨b, 0, none⟩)]] h fun u h' => ∃ xs : List TA, xs.Perm (m.map Prod.fst) ∧ St F (Ow.own 28 17 eA u xs :: os) h' ∧ Kp F h F h' :=
  appendK_hc (enc := eA) Tryz.func220 rfl rfl rfl Tryz.func212 rfl rfl rfl en_212 te_29 Tryz.underlying165 ta_28 to_29 to_165 tz_28 rfl tl_29 (by decide) (fun _ => rfl) (by intro a u hu; simp [eA, encI, encN, encB, encT] at hu; rcases hu with rfl | rfl | rfl | rfl | rfl | rfl | rfl | rfl | rfl | rfl | rfl | rfl | rfl | rfl | rfl | rfl | rfl <;> rfl) hS hB hM hN (by omega)
theorem en_220 (args : Array Value) (w : World) : (callFunc 220 args).run Tryz.prog w = .ok (.enter 220 args) w := by kernel_rfl
theorem en_213 (args : Array Value) (w : World) : (callFunc 213 args).run Tryz.prog w = .ok (.enter 213 args) w := by kernel_rfl
theorem to_177 : TOne Tryz.prog 177 := ⟨Tryz.isAgg177, Tryz.sizeOf177⟩
theorem apk_220_213 {F : Fz} {os : List Ow} {h : Heap} {b r : Nat} {ν : Type} {en : ν → Value} {m : List (TA × ν)} (hS : St F os h) (hB : Blk h b (.cells #[.map (some r)] 177 (0, 0))) (hM : MapIs h r (fun x => .agg (eA x).toArray) en m) (hN : m.length * 17 ≤ 140737488355328) :
    HC Tryz.prog 220 #[.slice none 0 0, .func (.func 213) #[] #[.pointer (some ⟨b, 0, none⟩)]] h fun u h' => ∃ xs : List TA, xs.Perm (m.map Prod.fst) ∧ St F (Ow.own 28 17 eA u xs :: os) h' ∧ Kp F h F h' :=
  appendK_hc (enc := eA) Tryz.func220 rfl rfl rfl Tryz.func213 rfl rfl rfl en_213 te_29 Tryz.underlying177 ta_28 to_29 to_177 tz_28 rfl tl_29 (by decide) (fun _ => rfl) (by intro a u hu; simp [eA, encI, encN, encB, encT] at hu; rcases hu with rfl | rfl | rfl | rfl | rfl | rfl | rfl | rfl | rfl | rfl | rfl | rfl | rfl | rfl | rfl | rfl | rfl <;> rfl) hS hB hM hN (by omega)
theorem en_197 (args : Array Value) (w : World) : (callFunc 197 args).run Tryz.prog w = .ok (.enter 197 args) w := by kernel_rfl
theorem en_181 (args : Array Value) (w : World) : (callFunc 181 args).run Tryz.prog w = .ok (.enter 181 args) w := by kernel_rfl
theorem fa_28_0 : FieldAt Tryz.prog 28 0 0 := fun a w => by kernel_rfl
theorem to_4 : TOne Tryz.prog 4 := ⟨Tryz.isAgg4, Tryz.sizeOf4⟩
theorem fa_28_1 : FieldAt Tryz.prog 28 1 1 := fun a w => by kernel_rfl
theorem to_5 : TOne Tryz.prog 5 := ⟨Tryz.isAgg5, Tryz.sizeOf5⟩
theorem tr_26 : TArr Tryz.prog 26 16 5 := ⟨Tryz.underlying26, to_5, Tryz.underlying5, ⟨Tryz.t5, by kernel_rfl⟩, by kernel_rfl⟩
theorem ts_248 : TSlice Tryz.prog 248 5 1 := ⟨Tryz.underlying248, Tryz.sizeOf5⟩
theorem en_195 (args : Array Value) (w : World) : (callFunc 195 args).run Tryz.prog w = .ok (.enter 195 args) w := by kernel_rfl
theorem en_194 (args : Array Value) (w : World) : (callFunc 194 args).run Tryz.prog w = .ok (.enter 194 args) w := by kernel_rfl
theorem fa_167_3 : FieldAt Tryz.prog 167 3 3 := fun a w => by kernel_rfl
theorem en_185 (args : Array Value) (w : World) : (callFunc 185 args).run Tryz.prog w = .ok (.enter 185 args) w := by kernel_rfl
theorem en_148 (args : Array Value) (w : World) : (callFunc 148 args).run Tryz.prog w = .ok (.enter 148 args) w := by kernel_rfl
theorem en_152 (args : Array Value) (w : World) : (callFunc 152 args).run Tryz.prog w = .ok (.enter 152 args) w := by kernel_rfl
theorem en_183 (args : Array Value) (w : World) : (callFunc 183 args).run Tryz.prog w = .ok (.enter 183 args) w := by kernel_rfl
theorem tz_97 : TZero Tryz.prog 97 (.agg #[.bool false, .int .u8 0, .int .u8 0, .int .u8 0, .int .u8 0, .int .u8 0, .int .u8 0, .int .u8 0, .int .u8 0, .int .u8 0, .int .u8 0, .int .u8 0, .int .u8 0, .int .u8 0, .int .u8 0, .int .u8 0, .int .u8 0, .bool false, .slice none 0 0]) := Tryz.zeroValue97
theorem fa_179_0 : FieldAt Tryz.prog 179 0 0 := fun a w => by kernel_rfl
theorem fa_179_1 : FieldAt Tryz.prog 179 1 1 := fun a w => by kernel_rfl
theorem en_186 (args : Array Value) (w : World) : (callFunc 186 args).run Tryz.prog w = .ok (.enter 186 args) w := by kernel_rfl
theorem tp_97 : TPlaces Tryz.prog 97 #[(0, 17), (17, 1), (18, 1)] #[.bool false, .int .u8 0, .int .u8 0, .int .u8 0, .int .u8 0, .int .u8 0, .int .u8 0, .int .u8 0, .int .u8 0, .int .u8 0, .int .u8 0, .int .u8 0, .int .u8 0, .int .u8 0, .int .u8 0, .int .u8 0, .int .u8 0, .bool false, .slice none 0 0] := tplaces Tryz.runUnderlying97 Tryz.zeroValue97 rfl (fun w => by kernel_rfl)
theorem ta_97 : TAgg Tryz.prog 97 19 := ⟨Tryz.isAgg97, Tryz.sizeOf97⟩
theorem tmk_177 : TMapK Tryz.prog 177 28 3 (.int .i64 0) := ⟨Tryz.underlying177, tz_3⟩
theorem teq_26 (d : Nat) (a b : Ba 16) (w : World) : (Op.equalIn (d + 2) 26 (.agg (arrCells a).toArray) (.agg (arrCells b).toArray)).run Tryz.prog w = .ok (decide (a = b)) w := teqArr tr_26 d a b w
theorem teq_28 (d : Nat) (a b : TA) (w : World) : (Op.equalIn (d + 3) 28 (.agg (eA a).toArray) (.agg (eA b).toArray)).run Tryz.prog w = .ok (decide (a = b)) w := by
  refine (eqs w (d + 2) 28 _ _ Tryz.underlying28 (by kernel_rfl) (eqf_cons w (a := .bool a.1) (b := .bool b.1) (by decide) (by kernel_rfl) (by kernel_rfl) (run_equalIn_bool' w _ _ _ _ Tryz.underlying4) (eqf_cons w (a := .agg (arrCells a.2).toArray) (b := .agg (arrCells b.2).toArray) (by decide) (by kernel_rfl) (by kernel_rfl) (teq_26 (d + 0) _ _ w) (eqf_nil w)))).trans ?_
  congr 1; rw [Bool.eq_iff_iff]; simp [Prod.ext_iff]
theorem ka_28 : KeyAt Tryz.prog 28 (fun x : TA => .agg (eA x).toArray) := keyAt_struct Tryz.underlying28 (fun a => ⟨_, rfl⟩) (fun a b w => teq_28 9997 a b w) (fun e a w => by kernel_rfl) (fun a => sameBits_agg 9999 [.bool a.1, .int .u8 (b8 a.2 0), .int .u8 (b8 a.2 1), .int .u8 (b8 a.2 2), .int .u8 (b8 a.2 3), .int .u8 (b8 a.2 4), .int .u8 (b8 a.2 5), .int .u8 (b8 a.2 6), .int .u8 (b8 a.2 7), .int .u8 (b8 a.2 8), .int .u8 (b8 a.2 9), .int .u8 (b8 a.2 10), .int .u8 (b8 a.2 11), .int .u8 (b8 a.2 12), .int .u8 (b8 a.2 13), .int .u8 (b8 a.2 14), .int .u8 (b8 a.2 15)] (by intro c hc; simp at hc; rcases hc with rfl | rfl | rfl | rfl | rfl | rfl | rfl | rfl | rfl | rfl | rfl | rfl | rfl | rfl | rfl | rfl | rfl <;> first | exact sameBits_int _ _ _ | exact sameBits_bool _ _ | exact sameBits_str _ _))
theorem en_188 (args : Array Value) (w : World) : (callFunc 188 args).run Tryz.prog w = .ok (.enter 188 args) w := by kernel_rfl
theorem en_187 (args : Array Value) (w : World) : (callFunc 187 args).run Tryz.prog w = .ok (.enter 187 args) w := by kernel_rfl
theorem tz_175 : TZero Tryz.prog 175 (.pointer none) := Tryz.zeroValue175
theorem tmk_165 : TMapK Tryz.prog 165 28 175 (.pointer none) := ⟨Tryz.underlying165, tz_175⟩
theorem en_117 (args : Array Value) (w : World) : (callFunc 117 args).run Tryz.prog w = .ok (.enter 117 args) w := by kernel_rfl
theorem en_114 (args : Array Value) (w : World) : (callFunc 114 args).run Tryz.prog w = .ok (.enter 114 args) w := by kernel_rfl
theorem en_122 (args : Array Value) (w : World) : (callFunc 122 args).run Tryz.prog w = .ok (.enter 122 args) w := by kernel_rfl
theorem en_123 (args : Array Value) (w : World) : (callFunc 123 args).run Tryz.prog w = .ok (.enter 123 args) w := by kernel_rfl
theorem nfm_api_Asked {F : Fz} {h : Heap} (x : T_api_Asked) (s0 : SliceF F h 17 eA x.2.2.1 x.2.2.2) : (nf_api_Asked).p F h x := s0
theorem nfi_api_Asked_18 {h : Heap} {x : T_api_Asked} (s : (nf_api_Asked).q h x) : SliceIs h 17 eA x.2.2.1 x.2.2.2 := s
theorem nfo_api_Asked {h : Heap} {x : T_api_Asked} (s : (nf_api_Asked).q h x) : ∀ u ∈ e_api_Asked x, u.oneCell' = true := by
  intro u hu; simp [e_api_Asked] at hu; rcases hu with rfl | rfl | rfl | rfl | rfl | rfl | rfl | rfl | rfl | rfl | rfl | rfl | rfl | rfl | rfl | rfl | rfl | rfl | rfl
  · rfl
  · rfl
  · rfl
  · rfl
  · rfl
  · rfl
  · rfl
  · rfl
  · rfl
  · rfl
  · rfl
  · rfl
  · rfl
  · rfl
  · rfl
  · rfl
  · rfl
  · rfl
  · exact (shp (nfi_api_Asked_18 s)).one
theorem en_125 (args : Array Value) (w : World) : (callFunc 125 args).run Tryz.prog w = .ok (.enter 125 args) w := by kernel_rfl
theorem ts_58 : TSlice Tryz.prog 58 97 19 := ⟨Tryz.underlying58, Tryz.sizeOf97⟩
theorem tl_58 : TLit Tryz.prog 58 97 19 #[.bool false, .int .u8 0, .int .u8 0, .int .u8 0, .int .u8 0, .int .u8 0, .int .u8 0, .int .u8 0, .int .u8 0, .int .u8 0, .int .u8 0, .int .u8 0, .int .u8 0, .int .u8 0, .int .u8 0, .int .u8 0, .int .u8 0, .bool false, .slice none 0 0] := tlit ts_58 tz_97 rfl
theorem te_58 : TElem Tryz.prog 58 97 19 48 := ⟨Tryz.underlying58, ⟨Tryz.t97, .agg #[.bool false, .int .u8 0, .int .u8 0, .int .u8 0, .int .u8 0, .int .u8 0, .int .u8 0, .int .u8 0, .int .u8 0, .int .u8 0, .int .u8 0, .int .u8 0, .int .u8 0, .int .u8 0, .int .u8 0, .int .u8 0, .int .u8 0, .bool false, .slice none 0 0], by kernel_rfl, by kernel_rfl, by kernel_rfl, by kernel_rfl, by kernel_rfl⟩, by decide⟩
theorem en_126 (args : Array Value) (w : World) : (callFunc 126 args).run Tryz.prog w = .ok (.enter 126 args) w := by kernel_rfl
theorem en_121 (args : Array Value) (w : World) : (callFunc 121 args).run Tryz.prog w = .ok (.enter 121 args) w := by kernel_rfl
theorem en_41 (args : Array Value) (w : World) : (callFunc 41 args).run Tryz.prog w = .ok (.enter 41 args) w := by kernel_rfl
theorem en_21 (args : Array Value) (w : World) : (callFunc 21 args).run Tryz.prog w = .ok (.enter 21 args) w := by kernel_rfl
theorem en_43 (args : Array Value) (w : World) : (callFunc 43 args).run Tryz.prog w = .ok (.enter 43 args) w := by kernel_rfl
theorem en_51 (args : Array Value) (w : World) : (callFunc 51 args).run Tryz.prog w = .ok (.enter 51 args) w := by kernel_rfl
theorem tz_99 : TZero Tryz.prog 99 (.agg #[.int .i64 0, .int .i64 0, .bool false, .int .u8 0, .int .u8 0, .int .u8 0, .int .u8 0, .int .u8 0, .int .u8 0, .int .u8 0, .int .u8 0, .int .u8 0, .int .u8 0, .int .u8 0, .int .u8 0, .int .u8 0, .int .u8 0, .int .u8 0, .int .u8 0, .bool false, .slice none 0 0]) := Tryz.zeroValue99
theorem fa_99_2 : FieldAt Tryz.prog 99 2 2 := fun a w => by kernel_rfl
theorem fa_97_2 : FieldAt Tryz.prog 97 2 18 := fun a w => by kernel_rfl
theorem en_58 (args : Array Value) (w : World) : (callFunc 58 args).run Tryz.prog w = .ok (.enter 58 args) w := by kernel_rfl
theorem fa_99_1 : FieldAt Tryz.prog 99 1 1 := fun a w => by kernel_rfl
theorem ta_99 : TAgg Tryz.prog 99 21 := ⟨Tryz.isAgg99, Tryz.sizeOf99⟩
theorem en_66 (args : Array Value) (w : World) : (callFunc 66 args).run Tryz.prog w = .ok (.enter 66 args) w := by kernel_rfl
theorem fa_95_0 : FieldAt Tryz.prog 95 0 0 := fun a w => by kernel_rfl
theorem en_112 (args : Array Value) (w : World) : (callFunc 112 args).run Tryz.prog w = .ok (.enter 112 args) w := by kernel_rfl
theorem fa_95_1 : FieldAt Tryz.prog 95 1 1 := fun a w => by kernel_rfl
theorem fa_95_2 : FieldAt Tryz.prog 95 2 2 := fun a w => by kernel_rfl
theorem fa_95_3 : FieldAt Tryz.prog 95 3 3 := fun a w => by kernel_rfl
theorem en_178 (args : Array Value) (w : World) : (callFunc 178 args).run Tryz.prog w = .ok (.enter 178 args) w := by kernel_rfl
theorem en_177 (args : Array Value) (w : World) : (callFunc 177 args).run Tryz.prog w = .ok (.enter 177 args) w := by kernel_rfl
theorem en_113 (args : Array Value) (w : World) : (callFunc 113 args).run Tryz.prog w = .ok (.enter 113 args) w := by kernel_rfl
theorem ts_171 : TSlice Tryz.prog 171 9 1 := ⟨Tryz.underlying171, Tryz.sizeOf9⟩
theorem to_9 : TOne Tryz.prog 9 := ⟨Tryz.isAgg9, Tryz.sizeOf9⟩
theorem fa_95_4 : FieldAt Tryz.prog 95 4 4 := fun a w => by kernel_rfl
theorem to_93 : TOne Tryz.prog 93 := ⟨Tryz.isAgg93, Tryz.sizeOf93⟩
theorem en_193 (args : Array Value) (w : World) : (callFunc 193 args).run Tryz.prog w = .ok (.enter 193 args) w := by kernel_rfl
theorem tz_26 : TZero Tryz.prog 26 (.agg #[.int .u8 0, .int .u8 0, .int .u8 0, .int .u8 0, .int .u8 0, .int .u8 0, .int .u8 0, .int .u8 0, .int .u8 0, .int .u8 0, .int .u8 0, .int .u8 0, .int .u8 0, .int .u8 0, .int .u8 0, .int .u8 0]) := Tryz.zeroValue26
theorem tb_26 : TBuildA Tryz.prog 26 #[.int .u8 0, .int .u8 0, .int .u8 0, .int .u8 0, .int .u8 0, .int .u8 0, .int .u8 0, .int .u8 0, .int .u8 0, .int .u8 0, .int .u8 0, .int .u8 0, .int .u8 0, .int .u8 0, .int .u8 0, .int .u8 0] := tbuildA tr_26 tz_26 rfl
theorem tp_28 : TPlaces Tryz.prog 28 #[(0, 1), (1, 16)] #[.bool false, .int .u8 0, .int .u8 0, .int .u8 0, .int .u8 0, .int .u8 0, .int .u8 0, .int .u8 0, .int .u8 0, .int .u8 0, .int .u8 0, .int .u8 0, .int .u8 0, .int .u8 0, .int .u8 0, .int .u8 0, .int .u8 0] := tplaces Tryz.runUnderlying28 Tryz.zeroValue28 rfl (fun w => by kernel_rfl)
theorem en_143 (args : Array Value) (w : World) : (callFunc 143 args).run Tryz.prog w = .ok (.enter 143 args) w := by kernel_rfl
theorem en_68 (args : Array Value) (w : World) : (callFunc 68 args).run Tryz.prog w = .ok (.enter 68 args) w := by kernel_rfl
theorem en_142 (args : Array Value) (w : World) : (callFunc 142 args).run Tryz.prog w = .ok (.enter 142 args) w := by kernel_rfl
theorem en_180 (args : Array Value) (w : World) : (callFunc 180 args).run Tryz.prog w = .ok (.enter 180 args) w := by kernel_rfl
theorem en_179 (args : Array Value) (w : World) : (callFunc 179 args).run Tryz.prog w = .ok (.enter 179 args) w := by kernel_rfl
theorem en_182 (args : Array Value) (w : World) : (callFunc 182 args).run Tryz.prog w = .ok (.enter 182 args) w := by kernel_rfl
theorem en_144 (args : Array Value) (w : World) : (callFunc 144 args).run Tryz.prog w = .ok (.enter 144 args) w := by kernel_rfl
theorem tp_179 : TPlaces Tryz.prog 179 #[(0, 1), (1, 1)] #[.int .i64 0, .map none] := tplaces Tryz.runUnderlying179 Tryz.zeroValue179 rfl (fun w => by kernel_rfl)
theorem en_115 (args : Array Value) (w : World) : (callFunc 115 args).run Tryz.prog w = .ok (.enter 115 args) w := by kernel_rfl
theorem fa_97_0 : FieldAt Tryz.prog 97 0 0 := fun a w => by kernel_rfl
theorem en_69 (args : Array Value) (w : World) : (callFunc 69 args).run Tryz.prog w = .ok (.enter 69 args) w := by kernel_rfl
theorem fa_97_1 : FieldAt Tryz.prog 97 1 17 := fun a w => by kernel_rfl
theorem en_116 (args : Array Value) (w : World) : (callFunc 116 args).run Tryz.prog w = .ok (.enter 116 args) w := by kernel_rfl
theorem en_95 (args : Array Value) (w : World) : (callFunc 95 args).run Tryz.prog w = .ok (.enter 95 args) w := by kernel_rfl
theorem en_86 (args : Array Value) (w : World) : (callFunc 86 args).run Tryz.prog w = .ok (.enter 86 args) w := by kernel_rfl
theorem en_100 (args : Array Value) (w : World) : (callFunc 100 args).run Tryz.prog w = .ok (.enter 100 args) w := by kernel_rfl
theorem en_184 (args : Array Value) (w : World) : (callFunc 184 args).run Tryz.prog w = .ok (.enter 184 args) w := by kernel_rfl
theorem ts_93 : TSlice Tryz.prog 93 184 20 := ⟨Tryz.underlying93, Tryz.sizeOf184⟩
theorem fa_184_0 : FieldAt Tryz.prog 184 0 0 := fun a w => by kernel_rfl
theorem ts_182 : TSlice Tryz.prog 182 190 18 := ⟨Tryz.underlying182, Tryz.sizeOf190⟩
theorem fa_190_0 : FieldAt Tryz.prog 190 0 0 := fun a w => by kernel_rfl
theorem fa_190_1 : FieldAt Tryz.prog 190 1 17 := fun a w => by kernel_rfl
theorem tp_190 : TPlaces Tryz.prog 190 #[(0, 17), (17, 1)] #[.bool false, .int .u8 0, .int .u8 0, .int .u8 0, .int .u8 0, .int .u8 0, .int .u8 0, .int .u8 0, .int .u8 0, .int .u8 0, .int .u8 0, .int .u8 0, .int .u8 0, .int .u8 0, .int .u8 0, .int .u8 0, .int .u8 0, .int .i64 0] := tplaces Tryz.runUnderlying190 Tryz.zeroValue190 rfl (fun w => by kernel_rfl)
theorem tz_190 : TZero Tryz.prog 190 (.agg #[.bool false, .int .u8 0, .int .u8 0, .int .u8 0, .int .u8 0, .int .u8 0, .int .u8 0, .int .u8 0, .int .u8 0, .int .u8 0, .int .u8 0, .int .u8 0, .int .u8 0, .int .u8 0, .int .u8 0, .int .u8 0, .int .u8 0, .int .i64 0]) := Tryz.zeroValue190
theorem tl_182 : TLit Tryz.prog 182 190 18 #[.bool false, .int .u8 0, .int .u8 0, .int .u8 0, .int .u8 0, .int .u8 0, .int .u8 0, .int .u8 0, .int .u8 0, .int .u8 0, .int .u8 0, .int .u8 0, .int .u8 0, .int .u8 0, .int .u8 0, .int .u8 0, .int .u8 0, .int .i64 0] := tlit ts_182 tz_190 rfl
theorem te_182 : TElem Tryz.prog 182 190 18 32 := ⟨Tryz.underlying182, ⟨Tryz.t190, .agg #[.bool false, .int .u8 0, .int .u8 0, .int .u8 0, .int .u8 0, .int .u8 0, .int .u8 0, .int .u8 0, .int .u8 0, .int .u8 0, .int .u8 0, .int .u8 0, .int .u8 0, .int .u8 0, .int .u8 0, .int .u8 0, .int .u8 0, .int .i64 0], by kernel_rfl, by kernel_rfl, by kernel_rfl, by kernel_rfl, by kernel_rfl⟩, by decide⟩
theorem en_118 (args : Array Value) (w : World) : (callFunc 118 args).run Tryz.prog w = .ok (.enter 118 args) w := by kernel_rfl
theorem en_87 (args : Array Value) (w : World) : (callFunc 87 args).run Tryz.prog w = .ok (.enter 87 args) w := by kernel_rfl
theorem en_119 (args : Array Value) (w : World) : (callFunc 119 args).run Tryz.prog w = .ok (.enter 119 args) w := by kernel_rfl
theorem tp_184 : TPlaces Tryz.prog 184 #[(0, 17), (17, 1), (18, 1), (19, 1)] #[.bool false, .int .u8 0, .int .u8 0, .int .u8 0, .int .u8 0, .int .u8 0, .int .u8 0, .int .u8 0, .int .u8 0, .int .u8 0, .int .u8 0, .int .u8 0, .int .u8 0, .int .u8 0, .int .u8 0, .int .u8 0, .int .u8 0, .int .i64 0, .int .i64 0, .slice none 0 0] := tplaces Tryz.runUnderlying184 Tryz.zeroValue184 rfl (fun w => by kernel_rfl)
theorem tz_184 : TZero Tryz.prog 184 (.agg #[.bool false, .int .u8 0, .int .u8 0, .int .u8 0, .int .u8 0, .int .u8 0, .int .u8 0, .int .u8 0, .int .u8 0, .int .u8 0, .int .u8 0, .int .u8 0, .int .u8 0, .int .u8 0, .int .u8 0, .int .u8 0, .int .u8 0, .int .i64 0, .int .i64 0, .slice none 0 0]) := Tryz.zeroValue184
theorem tl_93 : TLit Tryz.prog 93 184 20 #[.bool false, .int .u8 0, .int .u8 0, .int .u8 0, .int .u8 0, .int .u8 0, .int .u8 0, .int .u8 0, .int .u8 0, .int .u8 0, .int .u8 0, .int .u8 0, .int .u8 0, .int .u8 0, .int .u8 0, .int .u8 0, .int .u8 0, .int .i64 0, .int .i64 0, .slice none 0 0] := tlit ts_93 tz_184 rfl
theorem te_93 : TElem Tryz.prog 93 184 20 64 := ⟨Tryz.underlying93, ⟨Tryz.t184, .agg #[.bool false, .int .u8 0, .int .u8 0, .int .u8 0, .int .u8 0, .int .u8 0, .int .u8 0, .int .u8 0, .int .u8 0, .int .u8 0, .int .u8 0, .int .u8 0, .int .u8 0, .int .u8 0, .int .u8 0, .int .u8 0, .int .u8 0, .int .i64 0, .int .i64 0, .slice none 0 0], by kernel_rfl, by kernel_rfl, by kernel_rfl, by kernel_rfl, by kernel_rfl⟩, by decide⟩
theorem fa_184_1 : FieldAt Tryz.prog 184 1 17 := fun a w => by kernel_rfl
theorem fa_184_2 : FieldAt Tryz.prog 184 2 18 := fun a w => by kernel_rfl
theorem fa_184_3 : FieldAt Tryz.prog 184 3 19 := fun a w => by kernel_rfl
theorem to_182 : TOne Tryz.prog 182 := ⟨Tryz.isAgg182, Tryz.sizeOf182⟩
theorem en_120 (args : Array Value) (w : World) : (callFunc 120 args).run Tryz.prog w = .ok (.enter 120 args) w := by kernel_rfl
theorem en_127 (args : Array Value) (w : World) : (callFunc 127 args).run Tryz.prog w = .ok (.enter 127 args) w := by kernel_rfl
theorem ta_184 : TAgg Tryz.prog 184 20 := ⟨Tryz.isAgg184, Tryz.sizeOf184⟩
theorem en_128 (args : Array Value) (w : World) : (callFunc 128 args).run Tryz.prog w = .ok (.enter 128 args) w := by kernel_rfl
theorem en_234 (args : Array Value) (w : World) : (callFunc 234 args).run Tryz.prog w = .ok (.enter 234 args) w := by kernel_rfl
theorem en_235 (args : Array Value) (w : World) : (callFunc 235 args).run Tryz.prog w = .ok (.enter 235 args) w := by kernel_rfl
theorem ts_265 : TSlice Tryz.prog 265 3 1 := ⟨Tryz.underlying265, Tryz.sizeOf3⟩
theorem en_215 (args : Array Value) (w : World) : (callFunc 215 args).run Tryz.prog w = .ok (.enter 215 args) w := by kernel_rfl
theorem en_216 (args : Array Value) (w : World) : (callFunc 216 args).run Tryz.prog w = .ok (.enter 216 args) w := by kernel_rfl
theorem tl_265 : TLit Tryz.prog 265 3 1 #[.int .i64 0] := tlit ts_265 tz_3 rfl
theorem en_214 (args : Array Value) (w : World) : (callFunc 214 args).run Tryz.prog w = .ok (.enter 214 args) w := by kernel_rfl
theorem en_189 (args : Array Value) (w : World) : (callFunc 189 args).run Tryz.prog w = .ok (.enter 189 args) w := by kernel_rfl
theorem en_129 (args : Array Value) (w : World) : (callFunc 129 args).run Tryz.prog w = .ok (.enter 129 args) w := by kernel_rfl
theorem nff_acequiaref22_Act_20 {F : Fz} {h : Heap} {x : T_acequiaref22_Act} (s : (nf_acequiaref22_Act).p F h x) : SliceF F h 17 eA x.2.2.2.2.1 x.2.2.2.2.2 := s
theorem en_39 (args : Array Value) (w : World) : (callFunc 39 args).run Tryz.prog w = .ok (.enter 39 args) w := by kernel_rfl
theorem en_40 (args : Array Value) (w : World) : (callFunc 40 args).run Tryz.prog w = .ok (.enter 40 args) w := by kernel_rfl
theorem tp_95 : TPlaces Tryz.prog 95 #[(0, 1), (1, 1), (2, 1), (3, 1), (4, 1)] #[.int .i64 0, .bool false, .int .i64 0, .int .i64 0, .slice none 0 0] := tplaces Tryz.runUnderlying95 Tryz.zeroValue95 rfl (fun w => by kernel_rfl)
theorem ts_88 : TSlice Tryz.prog 88 99 21 := ⟨Tryz.underlying88, Tryz.sizeOf99⟩
theorem en_42 (args : Array Value) (w : World) : (callFunc 42 args).run Tryz.prog w = .ok (.enter 42 args) w := by kernel_rfl
theorem fa_99_0 : FieldAt Tryz.prog 99 0 0 := fun a w => by kernel_rfl
theorem en_44 (args : Array Value) (w : World) : (callFunc 44 args).run Tryz.prog w = .ok (.enter 44 args) w := by kernel_rfl
theorem en_45 (args : Array Value) (w : World) : (callFunc 45 args).run Tryz.prog w = .ok (.enter 45 args) w := by kernel_rfl
theorem en_46 (args : Array Value) (w : World) : (callFunc 46 args).run Tryz.prog w = .ok (.enter 46 args) w := by kernel_rfl
theorem en_47 (args : Array Value) (w : World) : (callFunc 47 args).run Tryz.prog w = .ok (.enter 47 args) w := by kernel_rfl
theorem en_48 (args : Array Value) (w : World) : (callFunc 48 args).run Tryz.prog w = .ok (.enter 48 args) w := by kernel_rfl
theorem en_49 (args : Array Value) (w : World) : (callFunc 49 args).run Tryz.prog w = .ok (.enter 49 args) w := by kernel_rfl
theorem en_50 (args : Array Value) (w : World) : (callFunc 50 args).run Tryz.prog w = .ok (.enter 50 args) w := by kernel_rfl
theorem en_52 (args : Array Value) (w : World) : (callFunc 52 args).run Tryz.prog w = .ok (.enter 52 args) w := by kernel_rfl
theorem en_53 (args : Array Value) (w : World) : (callFunc 53 args).run Tryz.prog w = .ok (.enter 53 args) w := by kernel_rfl
theorem en_54 (args : Array Value) (w : World) : (callFunc 54 args).run Tryz.prog w = .ok (.enter 54 args) w := by kernel_rfl
theorem en_55 (args : Array Value) (w : World) : (callFunc 55 args).run Tryz.prog w = .ok (.enter 55 args) w := by kernel_rfl
theorem en_56 (args : Array Value) (w : World) : (callFunc 56 args).run Tryz.prog w = .ok (.enter 56 args) w := by kernel_rfl
theorem en_57 (args : Array Value) (w : World) : (callFunc 57 args).run Tryz.prog w = .ok (.enter 57 args) w := by kernel_rfl
def ref14_Good_j1 (t : T_api_Tune) (Q : Bool → Prop) (b_2 : Bool) : Prop :=
 (b_2 = true → Q false) ∧ (b_2 = false → (0 < t.2.2.1 → (t.2.2.1 < 31745 → (0 < t.2.2.2.1 → (t.2.2.2.1 < 31745 → Q (decide (t.2.2.1 ≤ t.2.1))) ∧ (¬ (t.2.2.2.1 < 31745) → Q false)) ∧ (¬ (0 < t.2.2.2.1) → Q false)) ∧ (¬ (t.2.2.1 < 31745) → Q false)) ∧ (¬ (0 < t.2.2.1) → Q false))
def ref14_Good_W (t : T_api_Tune) (Q : Bool → Prop) : Prop :=
 (t.1 < 1 → ref14_Good_j1 t Q true) ∧ (¬ (t.1 < 1) → (7 < t.1 → ref14_Good_j1 t Q true) ∧ (¬ (7 < t.1) → (t.2.2.2.2 < 1 → ref14_Good_j1 t Q true) ∧ (¬ (t.2.2.2.2 < 1) → (7 < t.2.2.2.2 → ref14_Good_j1 t Q true) ∧ (¬ (7 < t.2.2.2.2) → (t.2.1 < 1 → ref14_Good_j1 t Q true) ∧ (¬ (t.2.1 < 1) → ref14_Good_j1 t Q (decide (317440 < t.2.1)))))))
theorem ref14_Good_walk {F : Fz} {fr : List Ow} {h0 : Heap} (t : T_api_Tune) (hS : St F (fr) h0)  {Q : Bool → Prop} (hM : ref14_Good_W t Q) :
  HC Tryz.prog 39 #[.agg (e_api_Tune t).toArray] h0 fun u h' => ∃ (F' : Fz) (r_1 : Bool), u = .bool r_1 ∧ Kp F h0 F' h' ∧ St F' (fr) h' ∧ Q r_1 := by
 unfold ref14_Good_W at hM
 have hK := Kp.refl F h0
 refine HC.of_HW (n := 56) Tryz.func39 rfl rfl (Nat.le_of_ble_eq_true rfl) ?_
 refine HW.seq ?_
 refine HW.region ?_
 refine HO.eff (want_none) rfl (st_box (c := (e_api_Tune t).toArray) (k' := 5) hS rfl rfl) ?_
 rintro _ h_1 ⟨b_1, rfl, hS, hk⟩
 replace hK := hK.trans hk
 refine oA (.bool false) rfl rfl ?_
 refine HO.nil (thenQ_normal (?_))
 refine HW.seq ?_
 refine HW.seq_mid (fun f h => ∃ (F' : Fz) (b_2 : Bool), f 1 = .pointer (some ⟨b_1, 0, none⟩) ∧ f 2 = .bool false ∧ f 30 = .bool b_2 ∧ Kp F h0 F' h ∧ St F' (Ow.box b_1 56 (e_api_Tune t).toArray :: fr) h ∧ ref14_Good_j1 t Q b_2) ?_ ?_
 ·
  refine HW.region ?_
  refine oV (.pointer (some ⟨b_1, 0, none⟩)) (q_fieldAddr fa_56_0 rfl rfl) rfl ?_
  refine oV (.int .i64 t.1) (q_load to_3 rfl (Blk.cell (hS.box 0 rfl) rfl)) rfl ?_
  refine oV (.bool (decide (t.1 < 1))) (q_lss rfl rfl) rfl ?_
  refine oM (.bool (decide (t.1 < 1))) rfl rfl ?_
  rcases Bool.eq_false_or_eq_true (decide (t.1 < 1)) with c_1 | c_1
  ·
   replace hM := hM.1 (of_decide_eq_true c_1)
   refine HO.past (past_by rfl rfl c_1) rfl ?_
   refine HO.past (past_by rfl rfl c_1) rfl ?_
   refine HO.past (past_by rfl rfl c_1) rfl ?_
   refine oV (.bool true) (q_pickK true rfl c_1 rfl) rfl ?_
   refine oM (.bool true) rfl rfl ?_
   refine HO.past (past_some rfl rfl) rfl ?_
   refine HO.past (past_some rfl rfl) rfl ?_
   refine HO.past (past_some rfl rfl) rfl ?_
   refine oV (.bool true) (q_pick rfl rfl) rfl ?_
   refine oM (.bool true) rfl rfl ?_
   refine HO.past (past_some rfl rfl) rfl ?_
   refine HO.past (past_some rfl rfl) rfl ?_
   refine HO.past (past_some rfl rfl) rfl ?_
   refine oV (.bool true) (q_pick rfl rfl) rfl ?_
   refine oM (.bool true) rfl rfl ?_
   refine HO.past (past_some rfl rfl) rfl ?_
   refine HO.past (past_some rfl rfl) rfl ?_
   refine HO.past (past_some rfl rfl) rfl ?_
   refine oV (.bool true) (q_pick rfl rfl) rfl ?_
   refine oM (.bool true) rfl rfl ?_
   refine HO.past (past_some rfl rfl) rfl ?_
   refine HO.past (past_some rfl rfl) rfl ?_
   refine HO.past (past_some rfl rfl) rfl ?_
   refine oV (.bool true) (q_pick rfl rfl) rfl ?_
   refine HO.nil (thenQ_normal (?_))
   exact ⟨F, true, rfl, rfl, rfl, hK, hS, hM⟩
  ·
   replace hM := hM.2 (of_decide_eq_false c_1)
   refine HO.val (v := .pointer (some ⟨b_1, 0, none⟩)) (want_by rfl rfl c_1) rfl (q_fieldAddr fa_56_0 rfl rfl) ?_
   refine HO.val (v := .int .i64 t.1) (want_by rfl rfl c_1) rfl (q_load to_3 rfl (Blk.cell (hS.box 0 rfl) rfl)) ?_
   refine HO.val (v := .bool (decide (7 < t.1))) (want_by rfl rfl c_1) rfl (q_gtr rfl rfl) ?_
   refine oV (.bool (decide (7 < t.1))) (q_pickK false rfl c_1 rfl) rfl ?_
   refine oM (.bool (decide (7 < t.1))) rfl rfl ?_
   rcases Bool.eq_false_or_eq_true (decide (7 < t.1)) with c_2 | c_2
   ·
    replace hM := hM.1 (of_decide_eq_true c_2)
    refine HO.past (past_by rfl rfl c_2) rfl ?_
    refine HO.past (past_by rfl rfl c_2) rfl ?_
    refine HO.past (past_by rfl rfl c_2) rfl ?_
    refine oV (.bool true) (q_pickK true rfl c_2 rfl) rfl ?_
    refine oM (.bool true) rfl rfl ?_
    refine HO.past (past_some rfl rfl) rfl ?_
    refine HO.past (past_some rfl rfl) rfl ?_
    refine HO.past (past_some rfl rfl) rfl ?_
    refine oV (.bool true) (q_pick rfl rfl) rfl ?_
    refine oM (.bool true) rfl rfl ?_
    refine HO.past (past_some rfl rfl) rfl ?_
    refine HO.past (past_some rfl rfl) rfl ?_
    refine HO.past (past_some rfl rfl) rfl ?_
    refine oV (.bool true) (q_pick rfl rfl) rfl ?_
    refine oM (.bool true) rfl rfl ?_
    refine HO.past (past_some rfl rfl) rfl ?_
    refine HO.past (past_some rfl rfl) rfl ?_
    refine HO.past (past_some rfl rfl) rfl ?_
    refine oV (.bool true) (q_pick rfl rfl) rfl ?_
    refine HO.nil (thenQ_normal (?_))
    exact ⟨F, true, rfl, rfl, rfl, hK, hS, hM⟩
   ·
    replace hM := hM.2 (of_decide_eq_false c_2)
    refine HO.val (v := .pointer (some ⟨b_1, 4, none⟩)) (want_by rfl rfl c_2) rfl (q_fieldAddr fa_56_4 rfl rfl) ?_
    refine HO.val (v := .int .i64 t.2.2.2.2) (want_by rfl rfl c_2) rfl (q_load to_3 rfl (Blk.cell (hS.box 0 rfl) rfl)) ?_
    refine HO.val (v := .bool (decide (t.2.2.2.2 < 1))) (want_by rfl rfl c_2) rfl (q_lss rfl rfl) ?_
    refine oV (.bool (decide (t.2.2.2.2 < 1))) (q_pickK false rfl c_2 rfl) rfl ?_
    refine oM (.bool (decide (t.2.2.2.2 < 1))) rfl rfl ?_
    rcases Bool.eq_false_or_eq_true (decide (t.2.2.2.2 < 1)) with c_3 | c_3
    ·
     replace hM := hM.1 (of_decide_eq_true c_3)
     refine HO.past (past_by rfl rfl c_3) rfl ?_
     refine HO.past (past_by rfl rfl c_3) rfl ?_
     refine HO.past (past_by rfl rfl c_3) rfl ?_
     refine oV (.bool true) (q_pickK true rfl c_3 rfl) rfl ?_
     refine oM (.bool true) rfl rfl ?_
     refine HO.past (past_some rfl rfl) rfl ?_
     refine HO.past (past_some rfl rfl) rfl ?_
     refine HO.past (past_some rfl rfl) rfl ?_
     refine oV (.bool true) (q_pick rfl rfl) rfl ?_
     refine oM (.bool true) rfl rfl ?_
     refine HO.past (past_some rfl rfl) rfl ?_
     refine HO.past (past_some rfl rfl) rfl ?_
     refine HO.past (past_some rfl rfl) rfl ?_
     refine oV (.bool true) (q_pick rfl rfl) rfl ?_
     refine HO.nil (thenQ_normal (?_))
     exact ⟨F, true, rfl, rfl, rfl, hK, hS, hM⟩
    ·
     replace hM := hM.2 (of_decide_eq_false c_3)
     refine HO.val (v := .pointer (some ⟨b_1, 4, none⟩)) (want_by rfl rfl c_3) rfl (q_fieldAddr fa_56_4 rfl rfl) ?_
     refine HO.val (v := .int .i64 t.2.2.2.2) (want_by rfl rfl c_3) rfl (q_load to_3 rfl (Blk.cell (hS.box 0 rfl) rfl)) ?_
     refine HO.val (v := .bool (decide (7 < t.2.2.2.2))) (want_by rfl rfl c_3) rfl (q_gtr rfl rfl) ?_
     refine oV (.bool (decide (7 < t.2.2.2.2))) (q_pickK false rfl c_3 rfl) rfl ?_
     refine oM (.bool (decide (7 < t.2.2.2.2))) rfl rfl ?_
     rcases Bool.eq_false_or_eq_true (decide (7 < t.2.2.2.2)) with c_4 | c_4
     ·
      replace hM := hM.1 (of_decide_eq_true c_4)
      refine HO.past (past_by rfl rfl c_4) rfl ?_
      refine HO.past (past_by rfl rfl c_4) rfl ?_
      refine HO.past (past_by rfl rfl c_4) rfl ?_
      refine oV (.bool true) (q_pickK true rfl c_4 rfl) rfl ?_
      refine oM (.bool true) rfl rfl ?_
      refine HO.past (past_some rfl rfl) rfl ?_
      refine HO.past (past_some rfl rfl) rfl ?_
      refine HO.past (past_some rfl rfl) rfl ?_
      refine oV (.bool true) (q_pick rfl rfl) rfl ?_
      refine HO.nil (thenQ_normal (?_))
      exact ⟨F, true, rfl, rfl, rfl, hK, hS, hM⟩
     ·
      replace hM := hM.2 (of_decide_eq_false c_4)
      refine HO.val (v := .pointer (some ⟨b_1, 1, none⟩)) (want_by rfl rfl c_4) rfl (q_fieldAddr fa_56_1 rfl rfl) ?_
      refine HO.val (v := .int .i64 t.2.1) (want_by rfl rfl c_4) rfl (q_load to_3 rfl (Blk.cell (hS.box 0 rfl) rfl)) ?_
      refine HO.val (v := .bool (decide (t.2.1 < 1))) (want_by rfl rfl c_4) rfl (q_lss rfl rfl) ?_
      refine oV (.bool (decide (t.2.1 < 1))) (q_pickK false rfl c_4 rfl) rfl ?_
      refine oM (.bool (decide (t.2.1 < 1))) rfl rfl ?_
      rcases Bool.eq_false_or_eq_true (decide (t.2.1 < 1)) with c_5 | c_5
      ·
       replace hM := hM.1 (of_decide_eq_true c_5)
       refine HO.past (past_by rfl rfl c_5) rfl ?_
       refine HO.past (past_by rfl rfl c_5) rfl ?_
       refine HO.past (past_by rfl rfl c_5) rfl ?_
       refine oV (.bool true) (q_pickK true rfl c_5 rfl) rfl ?_
       refine HO.nil (thenQ_normal (?_))
       exact ⟨F, true, rfl, rfl, rfl, hK, hS, hM⟩
      ·
       replace hM := hM.2 (of_decide_eq_false c_5)
       refine HO.val (v := .pointer (some ⟨b_1, 1, none⟩)) (want_by rfl rfl c_5) rfl (q_fieldAddr fa_56_1 rfl rfl) ?_
       refine HO.val (v := .int .i64 t.2.1) (want_by rfl rfl c_5) rfl (q_load to_3 rfl (Blk.cell (hS.box 0 rfl) rfl)) ?_
       refine HO.val (v := .bool (decide (317440 < t.2.1))) (want_by rfl rfl c_5) rfl (q_gtr rfl rfl) ?_
       refine oV (.bool (decide (317440 < t.2.1))) (q_pickK false rfl c_5 rfl) rfl ?_
       refine HO.nil (thenQ_normal (?_))
       exact ⟨F, decide (317440 < t.2.1), rfl, rfl, rfl, hK, hS, hM⟩
 ·
  rintro f_1 h_2 ⟨F_1, b_2, e1, e2, e30, hK, hS, hM⟩
  unfold ref14_Good_j1 at hM
  refine HW.fr [(1, .pointer (some ⟨b_1, 0, none⟩)), (2, .bool false), (30, .bool b_2)] ⟨e1, e2, e30, trivial⟩ ?_
  refine HW.cond b_2 rfl (fun c_6 => ?_) (fun c_6 => ?_)
  ·
   replace hM := hM.1 c_6
   refine HW.seq ?_
   refine HW.region ?_
   refine oA (.bool false) rfl rfl ?_
   refine HO.nil (thenQ_normal (?_))
   refine HW.ret (thenQ_ret (?_))
   refine ⟨.inr rfl, .bool false, res1 rfl (rt rfl), ?_⟩
   replace hS : St F_1 (fr) h_2 := hS.perm2 [] 1 rfl rfl
   exact ⟨F_1, false, rfl, hK, hS, hM⟩
  ·
   replace hM := hM.2 c_6
   refine HW.skip (thenQ_normal (?_))
   refine HW.seq ?_
   refine HW.region ?_
   refine oV (.pointer (some ⟨b_1, 2, none⟩)) (q_fieldAddr fa_56_2 rfl rfl) rfl ?_
   refine oV (.int .i64 t.2.2.1) (q_load to_3 rfl (Blk.cell (hS.box 0 rfl) rfl)) rfl ?_
   refine oV (.bool (decide (0 < t.2.2.1))) (q_gtr rfl rfl) rfl ?_
   refine oM (.bool (decide (0 < t.2.2.1))) rfl rfl ?_
   rcases Bool.eq_false_or_eq_true (decide (0 < t.2.2.1)) with c_7 | c_7
   ·
    replace hM := hM.1 (of_decide_eq_true c_7)
    refine HO.val (v := .pointer (some ⟨b_1, 2, none⟩)) (want_by rfl rfl c_7) rfl (q_fieldAddr fa_56_2 rfl rfl) ?_
    refine HO.val (v := .int .i64 t.2.2.1) (want_by rfl rfl c_7) rfl (q_load to_3 rfl (Blk.cell (hS.box 0 rfl) rfl)) ?_
    refine HO.val (v := .bool (decide (t.2.2.1 < 31745))) (want_by rfl rfl c_7) rfl (q_lss rfl rfl) ?_
    refine oV (.bool (decide (t.2.2.1 < 31745))) (q_pickK true rfl c_7 rfl) rfl ?_
    refine oM (.bool (decide (t.2.2.1 < 31745))) rfl rfl ?_
    rcases Bool.eq_false_or_eq_true (decide (t.2.2.1 < 31745)) with c_8 | c_8
    ·
     replace hM := hM.1 (of_decide_eq_true c_8)
     refine HO.val (v := .pointer (some ⟨b_1, 3, none⟩)) (want_by rfl rfl c_8) rfl (q_fieldAddr fa_56_3 rfl rfl) ?_
     refine HO.val (v := .int .i64 t.2.2.2.1) (want_by rfl rfl c_8) rfl (q_load to_3 rfl (Blk.cell (hS.box 0 rfl) rfl)) ?_
     refine HO.val (v := .bool (decide (0 < t.2.2.2.1))) (want_by rfl rfl c_8) rfl (q_gtr rfl rfl) ?_
     refine oV (.bool (decide (0 < t.2.2.2.1))) (q_pickK true rfl c_8 rfl) rfl ?_
     refine oM (.bool (decide (0 < t.2.2.2.1))) rfl rfl ?_
     rcases Bool.eq_false_or_eq_true (decide (0 < t.2.2.2.1)) with c_9 | c_9
     ·
      replace hM := hM.1 (of_decide_eq_true c_9)
      refine HO.val (v := .pointer (some ⟨b_1, 3, none⟩)) (want_by rfl rfl c_9) rfl (q_fieldAddr fa_56_3 rfl rfl) ?_
      refine HO.val (v := .int .i64 t.2.2.2.1) (want_by rfl rfl c_9) rfl (q_load to_3 rfl (Blk.cell (hS.box 0 rfl) rfl)) ?_
      refine HO.val (v := .bool (decide (t.2.2.2.1 < 31745))) (want_by rfl rfl c_9) rfl (q_lss rfl rfl) ?_
      refine oV (.bool (decide (t.2.2.2.1 < 31745))) (q_pickK true rfl c_9 rfl) rfl ?_
      refine oM (.bool (decide (t.2.2.2.1 < 31745))) rfl rfl ?_
      rcases Bool.eq_false_or_eq_true (decide (t.2.2.2.1 < 31745)) with c_10 | c_10
      ·
       replace hM := hM.1 (of_decide_eq_true c_10)
       refine HO.val (v := .pointer (some ⟨b_1, 2, none⟩)) (want_by rfl rfl c_10) rfl (q_fieldAddr fa_56_2 rfl rfl) ?_
       refine HO.val (v := .int .i64 t.2.2.1) (want_by rfl rfl c_10) rfl (q_load to_3 rfl (Blk.cell (hS.box 0 rfl) rfl)) ?_
       refine HO.val (v := .pointer (some ⟨b_1, 1, none⟩)) (want_by rfl rfl c_10) rfl (q_fieldAddr fa_56_1 rfl rfl) ?_
       refine HO.val (v := .int .i64 t.2.1) (want_by rfl rfl c_10) rfl (q_load to_3 rfl (Blk.cell (hS.box 0 rfl) rfl)) ?_
       refine HO.val (v := .bool (decide (t.2.2.1 ≤ t.2.1))) (want_by rfl rfl c_10) rfl (q_leq rfl rfl) ?_
       refine oV (.bool (decide (t.2.2.1 ≤ t.2.1))) (q_pickK true rfl c_10 rfl) rfl ?_
       refine oA (.bool (decide (t.2.2.1 ≤ t.2.1))) rfl rfl ?_
       refine HO.nil (thenQ_normal (?_))
       refine HW.ret (?_)
       refine ⟨.inr rfl, .bool (decide (t.2.2.1 ≤ t.2.1)), res1 rfl (rt rfl), ?_⟩
       replace hS : St F_1 (fr) h_2 := hS.perm2 [] 1 rfl rfl
       exact ⟨F_1, decide (t.2.2.1 ≤ t.2.1), rfl, hK, hS, hM⟩
      ·
       replace hM := hM.2 (of_decide_eq_false c_10)
       refine HO.past (past_by rfl rfl c_10) rfl ?_
       refine HO.past (past_by rfl rfl c_10) rfl ?_
       refine HO.past (past_by rfl rfl c_10) rfl ?_
       refine HO.past (past_by rfl rfl c_10) rfl ?_
       refine HO.past (past_by rfl rfl c_10) rfl ?_
       refine oV (.bool false) (q_pickK false rfl c_10 rfl) rfl ?_
       refine oA (.bool false) rfl rfl ?_
       refine HO.nil (thenQ_normal (?_))
       refine HW.ret (?_)
       refine ⟨.inr rfl, .bool false, res1 rfl (rt rfl), ?_⟩
       replace hS : St F_1 (fr) h_2 := hS.perm2 [] 1 rfl rfl
       exact ⟨F_1, false, rfl, hK, hS, hM⟩
     ·
      replace hM := hM.2 (of_decide_eq_false c_9)
      refine HO.past (past_by rfl rfl c_9) rfl ?_
      refine HO.past (past_by rfl rfl c_9) rfl ?_
      refine HO.past (past_by rfl rfl c_9) rfl ?_
      refine oV (.bool false) (q_pickK false rfl c_9 rfl) rfl ?_
      refine oM (.bool false) rfl rfl ?_
      refine HO.past (past_some rfl rfl) rfl ?_
      refine HO.past (past_some rfl rfl) rfl ?_
      refine HO.past (past_some rfl rfl) rfl ?_
      refine HO.past (past_some rfl rfl) rfl ?_
      refine HO.past (past_some rfl rfl) rfl ?_
      refine oV (.bool false) (q_pick rfl rfl) rfl ?_
      refine oA (.bool false) rfl rfl ?_
      refine HO.nil (thenQ_normal (?_))
      refine HW.ret (?_)
      refine ⟨.inr rfl, .bool false, res1 rfl (rt rfl), ?_⟩
      replace hS : St F_1 (fr) h_2 := hS.perm2 [] 1 rfl rfl
      exact ⟨F_1, false, rfl, hK, hS, hM⟩
    ·
     replace hM := hM.2 (of_decide_eq_false c_8)
     refine HO.past (past_by rfl rfl c_8) rfl ?_
     refine HO.past (past_by rfl rfl c_8) rfl ?_
     refine HO.past (past_by rfl rfl c_8) rfl ?_
     refine oV (.bool false) (q_pickK false rfl c_8 rfl) rfl ?_
     refine oM (.bool false) rfl rfl ?_
     refine HO.past (past_some rfl rfl) rfl ?_
     refine HO.past (past_some rfl rfl) rfl ?_
     refine HO.past (past_some rfl rfl) rfl ?_
     refine oV (.bool false) (q_pick rfl rfl) rfl ?_
     refine oM (.bool false) rfl rfl ?_
     refine HO.past (past_some rfl rfl) rfl ?_
     refine HO.past (past_some rfl rfl) rfl ?_
     refine HO.past (past_some rfl rfl) rfl ?_
     refine HO.past (past_some rfl rfl) rfl ?_
     refine HO.past (past_some rfl rfl) rfl ?_
     refine oV (.bool false) (q_pick rfl rfl) rfl ?_
     refine oA (.bool false) rfl rfl ?_
     refine HO.nil (thenQ_normal (?_))
     refine HW.ret (?_)
     refine ⟨.inr rfl, .bool false, res1 rfl (rt rfl), ?_⟩
     replace hS : St F_1 (fr) h_2 := hS.perm2 [] 1 rfl rfl
     exact ⟨F_1, false, rfl, hK, hS, hM⟩
   ·
    replace hM := hM.2 (of_decide_eq_false c_7)
    refine HO.past (past_by rfl rfl c_7) rfl ?_
    refine HO.past (past_by rfl rfl c_7) rfl ?_
    refine HO.past (past_by rfl rfl c_7) rfl ?_
    refine oV (.bool false) (q_pickK false rfl c_7 rfl) rfl ?_
    refine oM (.bool false) rfl rfl ?_
    refine HO.past (past_some rfl rfl) rfl ?_
    refine HO.past (past_some rfl rfl) rfl ?_
    refine HO.past (past_some rfl rfl) rfl ?_
    refine oV (.bool false) (q_pick rfl rfl) rfl ?_
    refine oM (.bool false) rfl rfl ?_
    refine HO.past (past_some rfl rfl) rfl ?_
    refine HO.past (past_some rfl rfl) rfl ?_
    refine HO.past (past_some rfl rfl) rfl ?_
    refine oV (.bool false) (q_pick rfl rfl) rfl ?_
    refine oM (.bool false) rfl rfl ?_
    refine HO.past (past_some rfl rfl) rfl ?_
    refine HO.past (past_some rfl rfl) rfl ?_
    refine HO.past (past_some rfl rfl) rfl ?_
    refine HO.past (past_some rfl rfl) rfl ?_
    refine HO.past (past_some rfl rfl) rfl ?_
    refine oV (.bool false) (q_pick rfl rfl) rfl ?_
    refine oA (.bool false) rfl rfl ?_
    refine HO.nil (thenQ_normal (?_))
    refine HW.ret (?_)
    refine ⟨.inr rfl, .bool false, res1 rfl (rt rfl), ?_⟩
    replace hS : St F_1 (fr) h_2 := hS.perm2 [] 1 rfl rfl
    exact ⟨F_1, false, rfl, hK, hS, hM⟩
def clock_New_string_W (Q : Prop) : Prop :=
 Q
theorem clock_New_string_walk {F : Fz} {fr : List Ow} {h0 : Heap}  (hS : St F (fr) h0)  {Q : Prop} (hM : clock_New_string_W Q) :
  HC Tryz.prog 108 #[] h0 fun u h' => ∃ (F' : Fz) (b_1 : Nat) (r_1 : Nat), u = .pointer (some ⟨b_1, 0, none⟩) ∧ Kp F h0 F' h' ∧ St F' (Ow.box b_1 222 #[.map (some r_1)] :: Ow.map r_1 kT kI ([] : List (Str × Int)) :: fr) h' ∧ Q := by
 unfold clock_New_string_W at hM
 have hK := Kp.refl F h0
 refine HC.of_HW (n := 4) Tryz.func108 rfl rfl (Nat.le_of_ble_eq_true rfl) ?_
 refine HW.seq ?_
 refine HW.region ?_
 refine oA (.pointer none) rfl rfl ?_
 refine HO.nil (thenQ_normal (?_))
 refine HW.seq ?_
 refine HW.region ?_
 refine HO.eff (want_none) rfl (st_makeMap (κ := Str) (ν := Int) kT kI hS) ?_
 rintro _ h_1 ⟨r_2, rfl, hS, hk⟩
 replace hK := hK.trans hk
 refine oV (.agg #[.map (some r_2)]) (q_build tp_222 rfl) rfl ?_
 refine HO.eff (want_none) rfl (st_box (c := #[.map (some r_2)]) (k' := 1) hS rfl rfl) ?_
 rintro _ h_2 ⟨b_2, rfl, hS, hk⟩
 replace hK := hK.trans hk
 refine oA (.pointer (some ⟨b_2, 0, none⟩)) rfl rfl ?_
 refine HO.nil (thenQ_normal (?_))
 refine HW.ret (?_)
 refine ⟨.inr rfl, .pointer (some ⟨b_2, 0, none⟩), res1 rfl (rt rfl), ?_⟩
 exact ⟨F, b_2, r_2, rfl, hK, hS, hM⟩
def query_New_W (Q : Prop) : Prop :=
 clock_New_string_W  (Q)
theorem query_New_walk {F : Fz} {fr : List Ow} {h0 : Heap}  (hS : St F (fr) h0)  {Q : Prop} (hM : query_New_W Q) :
  HC Tryz.prog 41 #[] h0 fun u h' => ∃ (F' : Fz) (b_1 : Nat) (b_2 : Nat) (r_1 : Nat) (r_2 : Nat), u = .pointer (some ⟨b_1, 0, none⟩) ∧ Kp F h0 F' h' ∧ St F' (Ow.box b_1 167 #[.int .i64 0, .pointer (some ⟨b_2, 0, none⟩), .int .i64 0, .map (some r_2)] :: Ow.box b_2 222 #[.map (some r_1)] :: Ow.map r_1 kT kI ([] : List (Str × Int)) :: Ow.pm r_2 (fun (x : TA) => .agg (eA x).toArray) pv_query_left th_query_left ([] : List (TA × (Nat × Nat) × TqL)) none :: fr) h' ∧ Q := by
 unfold query_New_W at hM
 have hK := Kp.refl F h0
 refine HC.of_HW (n := 5) Tryz.func41 rfl rfl (Nat.le_of_ble_eq_true rfl) ?_
 refine HW.seq ?_
 refine HW.region ?_
 refine oA (.pointer none) rfl rfl ?_
 refine HO.nil (thenQ_normal (?_))
 refine HW.seq ?_
 refine HW.region ?_
 refine HO.call (want_none) rfl (ec en_108 rfl rfl) (clock_New_string_walk (fr := (fr))  hS hM) ?_
 rintro _ h_1 ⟨F_1, b_3, r_3, rfl, hk, hS, hM⟩
 replace hK := hK.trans hk
 refine HO.eff (want_none) rfl (st_makePm (ek := (fun (x : TA) => .agg (eA x).toArray)) (pv := pv_query_left) (th := th_query_left) hS) ?_
 rintro _ h_2 ⟨r_4, rfl, hS, hk⟩
 replace hK := hK.trans hk
 refine oV (.agg #[.int .i64 0, .pointer (some ⟨b_3, 0, none⟩), .int .i64 0, .map (some r_4)]) (q_build tp_167 rfl) rfl ?_
 refine HO.eff (want_none) rfl (st_box (c := #[.int .i64 0, .pointer (some ⟨b_3, 0, none⟩), .int .i64 0, .map (some r_4)]) (k' := 4) hS rfl rfl) ?_
 rintro _ h_3 ⟨b_4, rfl, hS, hk⟩
 replace hK := hK.trans hk
 refine oA (.pointer (some ⟨b_4, 0, none⟩)) rfl rfl ?_
 refine HO.nil (thenQ_normal (?_))
 refine HW.ret (?_)
 refine ⟨.inr rfl, .pointer (some ⟨b_4, 0, none⟩), res1 rfl (rt rfl), ?_⟩
 replace hS : St F_1 (Ow.box b_4 167 #[.int .i64 0, .pointer (some ⟨b_3, 0, none⟩), .int .i64 0, .map (some r_4)] :: Ow.box b_3 222 #[.map (some r_3)] :: Ow.map r_3 kT kI ([] : List (Str × Int)) :: Ow.pm r_4 (fun (x : TA) => .agg (eA x).toArray) pv_query_left th_query_left ([] : List (TA × (Nat × Nat) × TqL)) none :: fr) h_3 := hS.perm2 [0, 2, 3, 1] 4 rfl rfl
 exact ⟨F_1, b_4, b_3, r_3, r_4, rfl, hK, hS, hM⟩
def law18_Usual_W (Q : T_api_Tune → Prop) : Prop :=
 Q (2, 12, 2, 2, 2)
theorem law18_Usual_walk {F : Fz} {fr : List Ow} {h0 : Heap}  (hS : St F (fr) h0)  {Q : T_api_Tune → Prop} (hM : law18_Usual_W Q) :
  HC Tryz.prog 21 #[] h0 fun u h' => ∃ (F' : Fz) (r_1 : T_api_Tune), u = .agg (e_api_Tune r_1).toArray ∧ Kp F h0 F' h' ∧ St F' (fr) h' ∧ Q r_1 := by
 unfold law18_Usual_W at hM
 have hK := Kp.refl F h0
 refine HC.of_HW (n := 2) Tryz.func21 rfl rfl (Nat.le_of_ble_eq_true rfl) ?_
 refine HW.seq ?_
 refine HW.region ?_
 refine HO.eff (want_none) rfl (st_alloc (c := (e_api_Tune (0, 0, 0, 0, 0)).toArray) hS tz_56 rfl) ?_
 rintro _ h_1 ⟨b_1, rfl, hS, hk⟩
 replace hK := hK.trans hk
 refine HO.nil (thenQ_normal (?_))
 refine HW.seq ?_
 refine HW.region ?_
 refine oV (.agg (e_api_Tune (2, 12, 2, 2, 2)).toArray) (q_build tp_56 rfl) rfl ?_
 refine HO.sto (want_none) rfl (st_storeAgg (c' := (e_api_Tune (2, 12, 2, 2, 2)).toArray) hS (i := 0) rfl ta_56 rfl rfl rfl (one_e_api_Tune _) (Nat.le_of_ble_eq_true rfl) rfl) ?_
 rintro h_2 ⟨hS, hk⟩
 replace hK := hK.trans hk
 refine HO.nil (thenQ_normal (?_))
 refine HW.ret (?_)
 refine ⟨.inr rfl, .agg (e_api_Tune (2, 12, 2, 2, 2)).toArray, res1 rfl (rca (cs := (e_api_Tune (2, 12, 2, 2, 2))) ta_56 rfl rfl (Blk.cells (k := 5) (hS.box 0 rfl) rfl)), ?_⟩
 replace hS : St F (fr) h_2 := hS.perm2 [] 1 rfl rfl
 exact ⟨F, (2, 12, 2, 2, 2), rfl, hK, hS, hM⟩
def tune_Startup_W (t : T_api_Tune) (Q : Int → Int → Prop) : Prop :=
 (I64 (t.2.1.tdiv 4)) ∧ (Q (max (t.2.1.tdiv 4) 1) t.1)
theorem tune_Startup_walk {F : Fz} {fr : List Ow} {h0 : Heap} (t : T_api_Tune) (hS : St F (fr) h0)  {Q : Int → Int → Prop} (hM : tune_Startup_W t Q) :
  HC Tryz.prog 109 #[.agg (e_api_Tune t).toArray] h0 fun u h' => ∃ (F' : Fz) (r0_1 : Int) (r1_1 : Int), u = .tuple #[.int .i64 r0_1, .int .i64 r1_1] ∧ Kp F h0 F' h' ∧ St F' (fr) h' ∧ Q r0_1 r1_1 := by
 unfold tune_Startup_W at hM
 have hK := Kp.refl F h0
 refine HC.of_HW (n := 10) Tryz.func109 rfl rfl (Nat.le_of_ble_eq_true rfl) ?_
 refine HW.seq ?_
 refine HW.region ?_
 refine HO.eff (want_none) rfl (st_box (c := (e_api_Tune t).toArray) (k' := 5) hS rfl rfl) ?_
 rintro _ h_1 ⟨b_1, rfl, hS, hk⟩
 replace hK := hK.trans hk
 refine oA (.int .i64 0) rfl rfl ?_
 refine oA (.int .i64 0) rfl rfl ?_
 refine HO.nil (thenQ_normal (?_))
 refine HW.seq ?_
 refine HW.regionA 8 mixed (fun h => (Blk h b_1 (.cells (e_api_Tune t).toArray 56 (0, 0)))) [] (by kernel_rfl) ?_
 refine HA.val (k := 0) (v := .pointer (some ⟨b_1, 1, none⟩)) rfl rfl (by kernel_rfl) (by kernel_rfl) (want_none) rfl (fun _ c201 => q_fieldAddr fa_56_1 rfl rfl) ?_
 refine HA.val (k := 1) (v := .int .i64 t.2.1) rfl rfl (by kernel_rfl) (by kernel_rfl) (want_none) rfl (fun _ c201 => q_load to_3 rfl (Blk.cell c201 rfl)) ?_
 obtain ⟨ho_1, hM⟩ := hM
 refine HA.val (k := 2) (v := .int .i64 (t.2.1.tdiv 4)) rfl rfl (by kernel_rfl) (by kernel_rfl) (want_none) rfl (fun _ c201 => q_quoN _ rfl rfl (by decide) rfl ho_1.1 ho_1.2) ?_
 refine HA.val (k := 3) (v := .int .i64 (max (t.2.1.tdiv 4) 1)) rfl rfl (by kernel_rfl) (by kernel_rfl) (want_none) rfl (fun _ c201 => q_max rfl rfl) ?_
 refine HA.val (k := 4) (v := .pointer (some ⟨b_1, 0, none⟩)) rfl rfl (by kernel_rfl) (by kernel_rfl) (want_none) rfl (fun _ c201 => q_fieldAddr fa_56_0 rfl rfl) ?_
 refine HA.val (k := 5) (v := .int .i64 t.1) rfl rfl (by kernel_rfl) (by kernel_rfl) (want_none) rfl (fun _ c201 => q_load to_3 rfl (Blk.cell c201 rfl)) ?_
 refine HA.val (k := 6) (v := .int .i64 (max (t.2.1.tdiv 4) 1)) rfl rfl (by kernel_rfl) (by kernel_rfl) (want_none) rfl (fun _ c201 => q_assign rfl) ?_
 refine HA.val (k := 7) (v := .int .i64 t.1) rfl rfl (by kernel_rfl) (by kernel_rfl) (want_none) rfl (fun _ c201 => q_assign rfl) ?_
 refine HA.nil ⟨(hS.box 0 rfl), (Go.Wk.at_nil _ _)⟩ (by kernel_rfl) (thenQ_normal (?_))
 refine HW.ret (?_)
 refine ⟨.inr rfl, .tuple #[.int .i64 (max (t.2.1.tdiv 4) 1), .int .i64 t.1], res2 rfl (rt rfl) (rt rfl), ?_⟩
 replace hS : St F (fr) h_1 := hS.perm2 [] 1 rfl rfl
 exact ⟨F, max (t.2.1.tdiv 4) 1, t.1, rfl, hK, hS, hM⟩
def query_Queries_settle_W (q_now : Int) (q_at_at : List (Str × Int)) (q_first : Int) (q_open : List (TA × (Nat × Nat) × TqL)) (now : Int) (Q : Int → Int → (List (Str × Int)) → Int → (List (TA × (Nat × Nat) × TqL)) → Prop) : Prop :=
 Q (max q_now (min now 1000000000000)) (max q_now (min now 1000000000000)) q_at_at q_first q_open
theorem query_Queries_settle_walk {F : Fz} {fr : List Ow} {h0 : Heap} (q_now : Int) (q_at_at : List (Str × Int)) (q_first : Int) (q_open : List (TA × (Nat × Nat) × TqL)) (now : Int) (bq : Nat) (bq_at : Nat) (rq_at_at : Nat) (rq_open : Nat) (hS : St F (Ow.box bq 167 #[.int .i64 q_now, .pointer (some ⟨bq_at, 0, none⟩), .int .i64 q_first, .map (some rq_open)] :: Ow.box bq_at 222 #[.map (some rq_at_at)] :: Ow.map rq_at_at kT kI q_at_at :: Ow.pm rq_open (fun (x : TA) => .agg (eA x).toArray) pv_query_left th_query_left q_open none :: fr) h0)  {Q : Int → Int → (List (Str × Int)) → Int → (List (TA × (Nat × Nat) × TqL)) → Prop} (hM : query_Queries_settle_W q_now q_at_at q_first q_open now Q) :
  HC Tryz.prog 111 #[.pointer (some ⟨bq, 0, none⟩), .int .i64 now] h0 fun u h' => ∃ (F' : Fz) (r_1 : Int) (q_now_1 : Int) (qm_1 : List (Str × Int)) (q_first_1 : Int) (qm_2 : List (TA × (Nat × Nat) × TqL)), u = .int .i64 r_1 ∧ Kp F h0 F' h' ∧ St F' (Ow.box bq 167 #[.int .i64 q_now_1, .pointer (some ⟨bq_at, 0, none⟩), .int .i64 q_first_1, .map (some rq_open)] :: Ow.box bq_at 222 #[.map (some rq_at_at)] :: Ow.map rq_at_at kT kI qm_1 :: Ow.pm rq_open (fun (x : TA) => .agg (eA x).toArray) pv_query_left th_query_left qm_2 none :: fr) h' ∧ Q r_1 q_now_1 qm_1 q_first_1 qm_2 := by
 unfold query_Queries_settle_W at hM
 have hK := Kp.refl F h0
 refine HC.of_HW (n := 19) Tryz.func111 rfl rfl (Nat.le_of_ble_eq_true rfl) ?_
 refine HW.seq ?_
 refine HW.region ?_
 refine oA (.int .i64 0) rfl rfl ?_
 refine HO.nil (thenQ_normal (?_))
 refine HW.seq ?_
 refine HW.region ?_
 refine oM (.pointer (some ⟨bq, 0, none⟩)) rfl rfl ?_
 refine oM (.pointer (some ⟨bq, 0, none⟩)) rfl rfl ?_
 refine oV (.pointer (some ⟨bq, 0, none⟩)) (q_nilCheck rfl) rfl ?_
 refine oV (.pointer (some ⟨bq, 0, none⟩)) (q_fieldAddr fa_167_0 rfl rfl) rfl ?_
 refine oV (.int .i64 q_now) (q_load to_3 rfl (Blk.cell (hS.box 0 rfl) rfl)) rfl ?_
 refine oM (.int .i64 now) rfl rfl ?_
 refine oV (.int .i64 (min now 1000000000000)) (q_min rfl rfl) rfl ?_
 refine oV (.int .i64 (max q_now (min now 1000000000000))) (q_max rfl rfl) rfl ?_
 refine oV (.pointer (some ⟨bq, 0, none⟩)) (q_nilCheck rfl) rfl ?_
 refine oV (.pointer (some ⟨bq, 0, none⟩)) (q_fieldAddr fa_167_0 rfl rfl) rfl ?_
 refine HO.sto (want_none) rfl (st_store (c' := #[.int .i64 (max q_now (min now 1000000000000)), .pointer (some ⟨bq_at, 0, none⟩), .int .i64 q_first, .map (some rq_open)]) hS (i := 0) rfl to_3 rfl rfl rfl rfl (Nat.le_of_ble_eq_true rfl) rfl) ?_
 rintro h_1 ⟨hS, hk⟩
 replace hK := hK.trans hk
 refine HO.nil (thenQ_normal (?_))
 refine HW.seq ?_
 refine HW.region ?_
 refine oM (.pointer (some ⟨bq, 0, none⟩)) rfl rfl ?_
 refine oV (.pointer (some ⟨bq, 0, none⟩)) (q_nilCheck rfl) rfl ?_
 refine oV (.pointer (some ⟨bq, 0, none⟩)) (q_fieldAddr fa_167_0 rfl rfl) rfl ?_
 refine oV (.int .i64 (max q_now (min now 1000000000000))) (q_load to_3 rfl (Blk.cell (hS.box 0 rfl) rfl)) rfl ?_
 refine oA (.int .i64 (max q_now (min now 1000000000000))) rfl rfl ?_
 refine HO.nil (thenQ_normal (?_))
 refine HW.ret (?_)
 refine ⟨.inr rfl, .int .i64 (max q_now (min now 1000000000000)), res1 rfl (rt rfl), ?_⟩
 exact ⟨F, max q_now (min now 1000000000000), max q_now (min now 1000000000000), q_at_at, q_first, q_open, rfl, hK, hS, hM⟩
def clock_Clock_Set_string_W (c_at : List (Str × Int)) (key : Str) (at1 : Int) (Q : Bool → (List (Str × Int)) → Prop) : Prop :=
 Q (!((mget c_at key).isSome)) (mset c_at key at1)
theorem clock_Clock_Set_string_walk {F : Fz} {fr : List Ow} {h0 : Heap} (c_at : List (Str × Int)) (key : Str) (at1 : Int) (bc : Nat) (rc_at : Nat) (hS : St F (Ow.box bc 222 #[.map (some rc_at)] :: Ow.map rc_at kT kI c_at :: fr) h0)  {Q : Bool → (List (Str × Int)) → Prop} (hM : clock_Clock_Set_string_W c_at key at1 Q) :
  HC Tryz.prog 110 #[.pointer (some ⟨bc, 0, none⟩), .string (bs key), .int .i64 at1] h0 fun u h' => ∃ (F' : Fz) (r_1 : Bool) (cm_1 : List (Str × Int)), u = .bool r_1 ∧ Kp F h0 F' h' ∧ St F' (Ow.box bc 222 #[.map (some rc_at)] :: Ow.map rc_at kT kI cm_1 :: fr) h' ∧ Q r_1 cm_1 := by
 unfold clock_Clock_Set_string_W at hM
 have hK := Kp.refl F h0
 refine HC.of_HW (n := 28) Tryz.func110 rfl rfl (Nat.le_of_ble_eq_true rfl) ?_
 refine HW.seq ?_
 refine HW.region ?_
 refine oA (.bool false) rfl rfl ?_
 refine HO.nil (thenQ_normal (?_))
 refine HW.seq ?_
 refine HW.seq ?_
 refine HW.region ?_
 refine oM (.pointer (some ⟨bc, 0, none⟩)) rfl rfl ?_
 refine oV (.bool false) (q_eqlPnil Tryz.underlying163 rfl rfl rfl) rfl ?_
 refine HO.nil (thenQ_normal (?_))
 refine HW.condF rfl ?_
 refine HW.skip (thenQ_normal (?_))
 refine HW.seq ?_
 refine HW.region ?_
 refine oM (.pointer (some ⟨bc, 0, none⟩)) rfl rfl ?_
 refine oV (.pointer (some ⟨bc, 0, none⟩)) (q_nilCheck rfl) rfl ?_
 refine oV (.pointer (some ⟨bc, 0, none⟩)) (q_fieldAddr fa_222_0 rfl rfl) rfl ?_
 refine oV (.map (some rc_at)) (q_load to_220 rfl (Blk.cell (hS.box 0 rfl) rfl)) rfl ?_
 refine oM (.string (bs key)) rfl rfl ?_
 refine oV (.tuple #[.int .i64 (mget0 c_at key), .bool ((mget c_at key).isSome)]) ((q_lookupOk (k := key) ka_9 tmk_220 (hS.mp 1 rfl) rfl rfl).of_eq (congrArg (fun v => Value.tuple #[v, _]) (mval0 (z := .int .i64 0) rfl))) rfl ?_
 refine oM (.tuple #[.int .i64 (mget0 c_at key), .bool ((mget c_at key).isSome)]) rfl rfl ?_
 refine oV (.int .i64 (mget0 c_at key)) (q_extract rfl rfl) rfl ?_
 refine oV (.bool ((mget c_at key).isSome)) (q_extract rfl rfl) rfl ?_
 refine oA (.int .i64 (mget0 c_at key)) rfl rfl ?_
 refine oA (.bool ((mget c_at key).isSome)) rfl rfl ?_
 refine HO.nil (thenQ_normal (?_))
 refine HW.seq ?_
 refine HW.region ?_
 refine oM (.pointer (some ⟨bc, 0, none⟩)) rfl rfl ?_
 refine oV (.pointer (some ⟨bc, 0, none⟩)) (q_nilCheck rfl) rfl ?_
 refine oV (.pointer (some ⟨bc, 0, none⟩)) (q_fieldAddr fa_222_0 rfl rfl) rfl ?_
 refine oV (.map (some rc_at)) (q_load to_220 rfl (Blk.cell (hS.box 0 rfl) rfl)) rfl ?_
 refine oM (.string (bs key)) rfl rfl ?_
 refine oM (.int .i64 at1) rfl rfl ?_
 refine HO.sto (want_none) rfl (st_mapUpdateK (k := key) (v := at1) hS (i := 1) rfl ka_9 tmk_220 rfl rfl rfl) ?_
 rintro h_1 ⟨hS, hk⟩
 replace hK := hK.trans hk
 refine HO.nil (thenQ_normal (?_))
 refine HW.seq ?_
 refine HW.region ?_
 refine oM (.bool ((mget c_at key).isSome)) rfl rfl ?_
 refine oV (.bool (!((mget c_at key).isSome))) (q_not rfl) rfl ?_
 refine oA (.bool (!((mget c_at key).isSome))) rfl rfl ?_
 refine HO.nil (thenQ_normal (?_))
 refine HW.ret (?_)
 refine ⟨.inr rfl, .bool (!((mget c_at key).isSome)), res1 rfl (rt rfl), ?_⟩
 exact ⟨F, !((mget c_at key).isSome), mset c_at key at1, rfl, hK, hS, hM⟩
def query_Queries_Start_W (q_now : Int) (q_at_at : List (Str × Int)) (q_first : Int) (q_open : List (TA × (Nat × Nat) × TqL)) (now : Int) (t : T_api_Tune) (Q : Int → (List (Str × Int)) → Int → (List (TA × (Nat × Nat) × TqL)) → Prop) : Prop :=
 tune_Startup_W t (fun r0_1 r1_1 => query_Queries_settle_W q_now q_at_at r1_1 q_open now (fun r_1 q_now_2 qm_3 q_first_2 qm_4 => clock_Clock_Set_string_W qm_3 [] r_1 (fun r_2 cm_1 => Q q_now_2 cm_1 q_first_2 qm_4)))
theorem query_Queries_Start_walk {F : Fz} {fr : List Ow} {h0 : Heap} (q_now : Int) (q_at_at : List (Str × Int)) (q_first : Int) (q_open : List (TA × (Nat × Nat) × TqL)) (now : Int) (t : T_api_Tune) (bq : Nat) (bq_at : Nat) (rq_at_at : Nat) (rq_open : Nat) (hS : St F (Ow.box bq 167 #[.int .i64 q_now, .pointer (some ⟨bq_at, 0, none⟩), .int .i64 q_first, .map (some rq_open)] :: Ow.box bq_at 222 #[.map (some rq_at_at)] :: Ow.map rq_at_at kT kI q_at_at :: Ow.pm rq_open (fun (x : TA) => .agg (eA x).toArray) pv_query_left th_query_left q_open none :: fr) h0)  {Q : Int → (List (Str × Int)) → Int → (List (TA × (Nat × Nat) × TqL)) → Prop} (hM : query_Queries_Start_W q_now q_at_at q_first q_open now t Q) :
  HC Tryz.prog 43 #[.pointer (some ⟨bq, 0, none⟩), .int .i64 now, .agg (e_api_Tune t).toArray] h0 fun u h' => ∃ (F' : Fz) (q_now_1 : Int) (qm_1 : List (Str × Int)) (q_first_1 : Int) (qm_2 : List (TA × (Nat × Nat) × TqL)), u = .tuple #[] ∧ Kp F h0 F' h' ∧ St F' (Ow.box bq 167 #[.int .i64 q_now_1, .pointer (some ⟨bq_at, 0, none⟩), .int .i64 q_first_1, .map (some rq_open)] :: Ow.box bq_at 222 #[.map (some rq_at_at)] :: Ow.map rq_at_at kT kI qm_1 :: Ow.pm rq_open (fun (x : TA) => .agg (eA x).toArray) pv_query_left th_query_left qm_2 none :: fr) h' ∧ Q q_now_1 qm_1 q_first_1 qm_2 := by
 unfold query_Queries_Start_W at hM
 have hK := Kp.refl F h0
 refine HC.of_HW (n := 24) Tryz.func43 rfl rfl (Nat.le_of_ble_eq_true rfl) ?_
 refine HW.seq ?_
 refine HW.region ?_
 refine HO.eff (want_none) rfl (st_box (c := (e_api_Tune t).toArray) (k' := 5) hS rfl rfl) ?_
 rintro _ h_1 ⟨b_1, rfl, hS, hk⟩
 replace hK := hK.trans hk
 refine HO.nil (thenQ_normal (?_))
 refine HW.seq ?_
 refine HW.seq ?_
 refine HW.region ?_
 refine oM (.pointer (some ⟨bq, 0, none⟩)) rfl rfl ?_
 refine oV (.bool false) (q_eqlPnil Tryz.underlying90 rfl rfl rfl) rfl ?_
 refine HO.nil (thenQ_normal (?_))
 refine HW.condF rfl ?_
 refine HW.skip (thenQ_normal (?_))
 refine HW.seq ?_
 refine HW.region ?_
 refine oM (.pointer (some ⟨bq, 0, none⟩)) rfl rfl ?_
 refine oV (.agg (e_api_Tune t).toArray) (q_loadAgg (cs := (e_api_Tune t)) ta_56 rfl rfl (Blk.cells (k := 5) (hS.box 0 rfl) rfl)) rfl ?_
 refine HO.call (want_none) rfl (ec en_109 rfl rfl) (tune_Startup_walk (fr := (Ow.box b_1 56 (e_api_Tune t).toArray :: Ow.box bq 167 #[.int .i64 q_now, .pointer (some ⟨bq_at, 0, none⟩), .int .i64 q_first, .map (some rq_open)] :: Ow.box bq_at 222 #[.map (some rq_at_at)] :: Ow.map rq_at_at kT kI q_at_at :: Ow.pm rq_open (fun (x : TA) => .agg (eA x).toArray) pv_query_left th_query_left q_open none :: fr)) t hS hM) ?_
 rintro _ h_2 ⟨F_1, r0_1, r1_1, rfl, hk, hS, hM⟩
 replace hK := hK.trans hk
 refine oM (.tuple #[.int .i64 r0_1, .int .i64 r1_1]) rfl rfl ?_
 refine oV (.int .i64 r0_1) (q_extract rfl rfl) rfl ?_
 refine oV (.int .i64 r1_1) (q_extract rfl rfl) rfl ?_
 refine oV (.pointer (some ⟨bq, 0, none⟩)) (q_nilCheck rfl) rfl ?_
 refine oV (.pointer (some ⟨bq, 2, none⟩)) (q_fieldAddr fa_167_2 rfl rfl) rfl ?_
 refine HO.sto (want_none) rfl (st_store (c' := #[.int .i64 q_now, .pointer (some ⟨bq_at, 0, none⟩), .int .i64 r1_1, .map (some rq_open)]) hS (i := 1) rfl to_3 rfl rfl rfl rfl (Nat.le_of_ble_eq_true rfl) rfl) ?_
 rintro h_3 ⟨hS, hk⟩
 replace hK := hK.trans hk
 refine HO.nil (thenQ_normal (?_))
 refine HW.regionA 8 mixed (fun h => (hcell h bq 1 = some (.pointer (some ⟨bq_at, 0, none⟩)))) [] (by kernel_rfl) ?_
 refine HA.val (k := 0) (v := .pointer (some ⟨bq, 0, none⟩)) rfl rfl (by kernel_rfl) (by kernel_rfl) (want_none) rfl (fun _ k1_1 => q_move rfl) ?_
 refine HA.val (k := 1) (v := .pointer (some ⟨bq, 0, none⟩)) rfl rfl (by kernel_rfl) (by kernel_rfl) (want_none) rfl (fun _ k1_1 => q_nilCheck rfl) ?_
 refine HA.val (k := 2) (v := .pointer (some ⟨bq, 1, none⟩)) rfl rfl (by kernel_rfl) (by kernel_rfl) (want_none) rfl (fun _ k1_1 => q_fieldAddr fa_167_1 rfl rfl) ?_
 refine HA.val (k := 3) (v := .pointer (some ⟨bq_at, 0, none⟩)) rfl rfl (by kernel_rfl) (by kernel_rfl) (want_none) rfl (fun _ k1_1 => q_load to_163 rfl k1_1) ?_
 refine HA.val (k := 4) (v := .pointer (some ⟨bq, 0, none⟩)) rfl rfl (by kernel_rfl) (by kernel_rfl) (want_none) rfl (fun _ k1_1 => q_move rfl) ?_
 refine HA.val (k := 5) (v := .int .i64 now) rfl rfl (by kernel_rfl) (by kernel_rfl) (want_none) rfl (fun _ k1_1 => q_move rfl) ?_
 refine HA.one (k := 6) ⟨(Blk.cell (hS.box 1 rfl) rfl), (Go.Wk.at_nil _ _)⟩ (by kernel_rfl) ?_
 replace hS : St F_1 (Ow.box bq 167 #[.int .i64 q_now, .pointer (some ⟨bq_at, 0, none⟩), .int .i64 r1_1, .map (some rq_open)] :: Ow.box bq_at 222 #[.map (some rq_at_at)] :: Ow.map rq_at_at kT kI q_at_at :: Ow.pm rq_open (fun (x : TA) => .agg (eA x).toArray) pv_query_left th_query_left q_open none :: Ow.box b_1 56 (e_api_Tune t).toArray :: fr) h_3 := hS.perm2 [1, 2, 3, 4, 0] 5 rfl rfl
 refine HS.call rfl (want_none) rfl (ec en_111 rfl rfl) (query_Queries_settle_walk (fr := (Ow.box b_1 56 (e_api_Tune t).toArray :: fr)) q_now q_at_at r1_1 q_open now bq bq_at rq_at_at rq_open hS hM) ?_
 rintro _ h_4 ⟨F_2, r_1, q_now_2, qm_3, q_first_2, qm_4, rfl, hk, hS, hM⟩
 replace hK := hK.trans hk
 refine HA.one (k := 7) ⟨(Blk.cell (hS.box 0 rfl) rfl), (Go.Wk.at_nil _ _)⟩ (by kernel_rfl) ?_
 replace hS : St F_2 (Ow.box bq_at 222 #[.map (some rq_at_at)] :: Ow.map rq_at_at kT kI qm_3 :: Ow.box bq 167 #[.int .i64 q_now_2, .pointer (some ⟨bq_at, 0, none⟩), .int .i64 q_first_2, .map (some rq_open)] :: Ow.pm rq_open (fun (x : TA) => .agg (eA x).toArray) pv_query_left th_query_left qm_4 none :: Ow.box b_1 56 (e_api_Tune t).toArray :: fr) h_4 := hS.perm2 [1, 2, 0, 3, 4] 5 rfl rfl
 refine HS.call rfl (want_none) rfl (ec en_110 rfl rfl) (clock_Clock_Set_string_walk (fr := (Ow.box bq 167 #[.int .i64 q_now_2, .pointer (some ⟨bq_at, 0, none⟩), .int .i64 q_first_2, .map (some rq_open)] :: Ow.pm rq_open (fun (x : TA) => .agg (eA x).toArray) pv_query_left th_query_left qm_4 none :: Ow.box b_1 56 (e_api_Tune t).toArray :: fr)) qm_3 [] r_1 bq_at rq_at_at hS hM) ?_
 rintro _ h_5 ⟨F_3, r_2, cm_1, rfl, hk, hS, hM⟩
 replace hK := hK.trans hk
 refine HA.nil ⟨(Blk.cell (hS.box 2 rfl) rfl), (Go.Wk.at_nil _ _)⟩ (by kernel_rfl) (?_)
 refine ⟨.inl rfl, .tuple #[], res0 rfl , ?_⟩
 replace hS : St F_3 (Ow.box bq 167 #[.int .i64 q_now_2, .pointer (some ⟨bq_at, 0, none⟩), .int .i64 q_first_2, .map (some rq_open)] :: Ow.box bq_at 222 #[.map (some rq_at_at)] :: Ow.map rq_at_at kT kI cm_1 :: Ow.pm rq_open (fun (x : TA) => .agg (eA x).toArray) pv_query_left th_query_left qm_4 none :: fr) h_5 := hS.perm2 [2, 0, 1, 3] 5 rfl rfl
 exact ⟨F_3, q_now_2, cm_1, q_first_2, qm_4, rfl, hK, hS, hM⟩
def clock_Clock_At_string_W (c_at : List (Str × Int)) (key : Str) (Q : Int → Bool → Prop) : Prop :=
 Q (mget0 c_at key) ((mget c_at key).isSome)
theorem clock_Clock_At_string_walk {F : Fz} {fr : List Ow} {h0 : Heap} (c_at : List (Str × Int)) (key : Str) (bc : Nat) (rc_at : Nat) (hS : St F (fr) h0) (hM_rc_at : RoF (Ow.map rc_at kT kI c_at) F h0) (hB_bc : RoF (Ow.box bc 222 #[.map (some rc_at)]) F h0) {Q : Int → Bool → Prop} (hM : clock_Clock_At_string_W c_at key Q) :
  HC Tryz.prog 124 #[.pointer (some ⟨bc, 0, none⟩), .string (bs key)] h0 fun u h' => ∃ (F' : Fz) (r0_1 : Int) (r1_1 : Bool), u = .tuple #[.int .i64 r0_1, .bool r1_1] ∧ Kp F h0 F' h' ∧ St F' (fr) h' ∧ (RoF (Ow.map rc_at kT kI c_at) F' h') ∧ (RoF (Ow.box bc 222 #[.map (some rc_at)]) F' h') ∧ Q r0_1 r1_1 := by
 unfold clock_Clock_At_string_W at hM
 have hK := Kp.refl F h0
 refine HC.of_HW (n := 21) Tryz.func124 rfl rfl (Nat.le_of_ble_eq_true rfl) ?_
 refine HW.seq ?_
 refine HW.region ?_
 refine oA (.int .i64 0) rfl rfl ?_
 refine oA (.bool false) rfl rfl ?_
 refine HO.nil (thenQ_normal (?_))
 refine HW.seq ?_
 refine HW.seq ?_
 refine HW.region ?_
 refine oM (.pointer (some ⟨bc, 0, none⟩)) rfl rfl ?_
 refine oV (.bool false) (q_eqlPnil Tryz.underlying163 rfl rfl rfl) rfl ?_
 refine HO.nil (thenQ_normal (?_))
 refine HW.condF rfl ?_
 refine HW.skip (thenQ_normal (?_))
 refine HW.seq ?_
 refine HW.region ?_
 refine oM (.pointer (some ⟨bc, 0, none⟩)) rfl rfl ?_
 refine oV (.pointer (some ⟨bc, 0, none⟩)) (q_nilCheck rfl) rfl ?_
 refine oV (.pointer (some ⟨bc, 0, none⟩)) (q_fieldAddr fa_222_0 rfl rfl) rfl ?_
 refine oV (.map (some rc_at)) (q_load to_220 rfl (Blk.cell hB_bc.box rfl)) rfl ?_
 refine oM (.string (bs key)) rfl rfl ?_
 refine oV (.tuple #[.int .i64 (mget0 c_at key), .bool ((mget c_at key).isSome)]) ((q_lookupOk (k := key) ka_9 tmk_220 hM_rc_at.mp rfl rfl).of_eq (congrArg (fun v => Value.tuple #[v, _]) (mval0 (z := .int .i64 0) rfl))) rfl ?_
 refine oM (.tuple #[.int .i64 (mget0 c_at key), .bool ((mget c_at key).isSome)]) rfl rfl ?_
 refine oV (.int .i64 (mget0 c_at key)) (q_extract rfl rfl) rfl ?_
 refine oV (.bool ((mget c_at key).isSome)) (q_extract rfl rfl) rfl ?_
 refine oA (.int .i64 (mget0 c_at key)) rfl rfl ?_
 refine oA (.bool ((mget c_at key).isSome)) rfl rfl ?_
 refine HO.nil (thenQ_normal (?_))
 refine HW.seq ?_
 refine HW.region ?_
 refine oM (.int .i64 (mget0 c_at key)) rfl rfl ?_
 refine oM (.bool ((mget c_at key).isSome)) rfl rfl ?_
 refine oA (.int .i64 (mget0 c_at key)) rfl rfl ?_
 refine oA (.bool ((mget c_at key).isSome)) rfl rfl ?_
 refine HO.nil (thenQ_normal (?_))
 refine HW.ret (?_)
 refine ⟨.inr rfl, .tuple #[.int .i64 (mget0 c_at key), .bool ((mget c_at key).isSome)], res2 rfl (rt rfl) (rt rfl), ?_⟩
 exact ⟨F, mget0 c_at key, (mget c_at key).isSome, rfl, hK, hS, hM_rc_at, hB_bc, hM⟩
def query_Queries_generals_j2 (q_now : Int) (q_at_at : List (Str × Int)) (q_first : Int) (q_open : List (TA × (Nat × Nat) × TqL)) (Q : Bool → Int → (List (Str × Int)) → Int → (List (TA × (Nat × Nat) × TqL)) → Prop) (gap_1 : Int) : Prop :=
 (I64 (q_now + gap_1)) ∧ (clock_Clock_Set_string_W q_at_at [] (q_now + gap_1) (fun r_2 cm_1 => Q true q_now cm_1 (q_first - 1) q_open))
def query_Queries_generals_j1 (q_now : Int) (q_at_at : List (Str × Int)) (q_first : Int) (q_open : List (TA × (Nat × Nat) × TqL)) (t : T_api_Tune) (Q : Bool → Int → (List (Str × Int)) → Int → (List (TA × (Nat × Nat) × TqL)) → Prop) (b_2 : Bool) : Prop :=
 (b_2 = true → Q false q_now q_at_at q_first q_open) ∧ (b_2 = false → tune_Startup_W t (fun r0_2 r1_2 => (I64 (q_first - 1)) ∧ (((q_first - 1) ≤ 0 → query_Queries_generals_j2 q_now q_at_at q_first q_open Q t.2.1) ∧ (¬ ((q_first - 1) ≤ 0) → query_Queries_generals_j2 q_now q_at_at q_first q_open Q r0_2))))
def query_Queries_generals_W (q_now : Int) (q_at_at : List (Str × Int)) (q_first : Int) (q_open : List (TA × (Nat × Nat) × TqL)) (t : T_api_Tune) (Q : Bool → Int → (List (Str × Int)) → Int → (List (TA × (Nat × Nat) × TqL)) → Prop) : Prop :=
 clock_Clock_At_string_W q_at_at [] (fun r0_1 r1_1 => ((!r1_1) = true → query_Queries_generals_j1 q_now q_at_at q_first q_open t Q true) ∧ ((!r1_1) = false → query_Queries_generals_j1 q_now q_at_at q_first q_open t Q (decide (q_now < r0_1))))
theorem query_Queries_generals_walk {F : Fz} {fr : List Ow} {h0 : Heap} (q_now : Int) (q_at_at : List (Str × Int)) (q_first : Int) (q_open : List (TA × (Nat × Nat) × TqL)) (t : T_api_Tune) (bq : Nat) (bq_at : Nat) (rq_at_at : Nat) (rq_open : Nat) (hS : St F (Ow.box bq 167 #[.int .i64 q_now, .pointer (some ⟨bq_at, 0, none⟩), .int .i64 q_first, .map (some rq_open)] :: Ow.box bq_at 222 #[.map (some rq_at_at)] :: Ow.map rq_at_at kT kI q_at_at :: Ow.pm rq_open (fun (x : TA) => .agg (eA x).toArray) pv_query_left th_query_left q_open none :: fr) h0)  {Q : Bool → Int → (List (Str × Int)) → Int → (List (TA × (Nat × Nat) × TqL)) → Prop} (hM : query_Queries_generals_W q_now q_at_at q_first q_open t Q) :
  HC Tryz.prog 122 #[.pointer (some ⟨bq, 0, none⟩), .agg (e_api_Tune t).toArray] h0 fun u h' => ∃ (F' : Fz) (r_1 : Bool) (q_now_1 : Int) (qm_1 : List (Str × Int)) (q_first_1 : Int) (qm_2 : List (TA × (Nat × Nat) × TqL)), u = .bool r_1 ∧ Kp F h0 F' h' ∧ St F' (Ow.box bq 167 #[.int .i64 q_now_1, .pointer (some ⟨bq_at, 0, none⟩), .int .i64 q_first_1, .map (some rq_open)] :: Ow.box bq_at 222 #[.map (some rq_at_at)] :: Ow.map rq_at_at kT kI qm_1 :: Ow.pm rq_open (fun (x : TA) => .agg (eA x).toArray) pv_query_left th_query_left qm_2 none :: fr) h' ∧ Q r_1 q_now_1 qm_1 q_first_1 qm_2 := by
 unfold query_Queries_generals_W at hM
 have hK := Kp.refl F h0
 refine HC.of_HW (n := 57) Tryz.func122 rfl rfl (Nat.le_of_ble_eq_true rfl) ?_
 refine HW.seq ?_
 refine HW.region ?_
 refine HO.eff (want_none) rfl (st_box (c := (e_api_Tune t).toArray) (k' := 5) hS rfl rfl) ?_
 rintro _ h_1 ⟨b_1, rfl, hS, hk⟩
 replace hK := hK.trans hk
 refine oA (.bool false) rfl rfl ?_
 refine HO.nil (thenQ_normal (?_))
 refine HW.seq ?_
 refine HW.region ?_
 refine oM (.pointer (some ⟨bq, 0, none⟩)) rfl rfl ?_
 refine oV (.pointer (some ⟨bq, 0, none⟩)) (q_nilCheck rfl) rfl ?_
 refine oV (.pointer (some ⟨bq, 1, none⟩)) (q_fieldAddr fa_167_1 rfl rfl) rfl ?_
 refine oV (.pointer (some ⟨bq_at, 0, none⟩)) (q_load to_163 rfl (Blk.cell (hS.box 1 rfl) rfl)) rfl ?_
 replace hS : St F (Ow.box bq_at 222 #[.map (some rq_at_at)] :: Ow.box b_1 56 (e_api_Tune t).toArray :: Ow.box bq 167 #[.int .i64 q_now, .pointer (some ⟨bq_at, 0, none⟩), .int .i64 q_first, .map (some rq_open)] :: Ow.map rq_at_at kT kI q_at_at :: Ow.pm rq_open (fun (x : TA) => .agg (eA x).toArray) pv_query_left th_query_left q_open none :: fr) h_1 := hS.perm2 [2, 0, 1, 3, 4] 5 rfl rfl
 have hZ_1 := hS
 have hkz_1 := (hS.freeze).2
 replace hS := hS.freeze.1
 have hL_1 := hZ_1.lent
 replace hS : St (fun bz_ => F bz_ ∨ (Ow.box bq_at 222 #[.map (some rq_at_at)]).foot bz_) (Ow.map rq_at_at kT kI q_at_at :: Ow.box b_1 56 (e_api_Tune t).toArray :: Ow.box bq 167 #[.int .i64 q_now, .pointer (some ⟨bq_at, 0, none⟩), .int .i64 q_first, .map (some rq_open)] :: Ow.pm rq_open (fun (x : TA) => .agg (eA x).toArray) pv_query_left th_query_left q_open none :: fr) h_1 := hS.perm2 [2, 0, 1, 3] 4 rfl rfl
 have hZ_2 := hS
 have hkz_2 := (hS.freeze).2
 replace hS := hS.freeze.1
 have hL_2 := hZ_2.lent
 refine HO.call (want_none) rfl (ec en_124 rfl rfl) (clock_Clock_At_string_walk (fr := (Ow.box b_1 56 (e_api_Tune t).toArray :: Ow.box bq 167 #[.int .i64 q_now, .pointer (some ⟨bq_at, 0, none⟩), .int .i64 q_first, .map (some rq_open)] :: Ow.pm rq_open (fun (x : TA) => .agg (eA x).toArray) pv_query_left th_query_left q_open none :: fr)) q_at_at [] bq_at rq_at_at hS hL_2 (hL_1.kp hkz_2) hM) ?_
 rintro _ h_2 ⟨F_1, r0_1, r1_1, rfl, hk, hS, _, _, hM⟩
 obtain ⟨hS, hk⟩ := hZ_2.back hk hS
 obtain ⟨hS, hk⟩ := hZ_1.back hk hS
 generalize (fun bz_ => (fun bz_ => F_1 bz_ ∧ ¬ (Ow.map rq_at_at kT kI q_at_at).foot bz_) bz_ ∧ ¬ (Ow.box bq_at 222 #[.map (some rq_at_at)]).foot bz_) = F_2 at hS hk
 replace hK := hK.trans hk
 refine oM (.tuple #[.int .i64 r0_1, .bool r1_1]) rfl rfl ?_
 refine oV (.int .i64 r0_1) (q_extract rfl rfl) rfl ?_
 refine oV (.bool r1_1) (q_extract rfl rfl) rfl ?_
 refine oA (.int .i64 r0_1) rfl rfl ?_
 refine oA (.bool r1_1) rfl rfl ?_
 refine HO.nil (thenQ_normal (?_))
 refine HW.seq ?_
 refine HW.seq_mid (fun f h => ∃ (F' : Fz) (b_2 : Bool), f 0 = .pointer (some ⟨bq, 0, none⟩) ∧ f 3 = .pointer (some ⟨b_1, 0, none⟩) ∧ f 4 = .bool false ∧ f 26 = .bool b_2 ∧ Kp F h0 F' h ∧ St F' (Ow.box bq 167 #[.int .i64 q_now, .pointer (some ⟨bq_at, 0, none⟩), .int .i64 q_first, .map (some rq_open)] :: Ow.box bq_at 222 #[.map (some rq_at_at)] :: Ow.map rq_at_at kT kI q_at_at :: Ow.pm rq_open (fun (x : TA) => .agg (eA x).toArray) pv_query_left th_query_left q_open none :: Ow.box b_1 56 (e_api_Tune t).toArray :: fr) h ∧ query_Queries_generals_j1 q_now q_at_at q_first q_open t Q b_2) ?_ ?_
 ·
  refine HW.region ?_
  refine oM (.bool r1_1) rfl rfl ?_
  refine oV (.bool (!r1_1)) (q_not rfl) rfl ?_
  refine oM (.bool (!r1_1)) rfl rfl ?_
  rcases Bool.eq_false_or_eq_true (!r1_1) with c_1 | c_1
  ·
   replace hM := hM.1 c_1
   refine HO.past (past_by rfl rfl c_1) rfl ?_
   refine HO.past (past_by rfl rfl c_1) rfl ?_
   refine HO.past (past_by rfl rfl c_1) rfl ?_
   refine HO.past (past_by rfl rfl c_1) rfl ?_
   refine HO.past (past_by rfl rfl c_1) rfl ?_
   refine HO.past (past_by rfl rfl c_1) rfl ?_
   refine oV (.bool true) (q_pickK true rfl c_1 rfl) rfl ?_
   refine HO.nil (thenQ_normal (?_))
   replace hS : St F_2 (Ow.box bq 167 #[.int .i64 q_now, .pointer (some ⟨bq_at, 0, none⟩), .int .i64 q_first, .map (some rq_open)] :: Ow.box bq_at 222 #[.map (some rq_at_at)] :: Ow.map rq_at_at kT kI q_at_at :: Ow.pm rq_open (fun (x : TA) => .agg (eA x).toArray) pv_query_left th_query_left q_open none :: Ow.box b_1 56 (e_api_Tune t).toArray :: fr) h_2 := hS.perm2 [3, 0, 1, 4, 2] 5 rfl rfl
   exact ⟨F_2, true, rfl, rfl, rfl, rfl, hK, hS, hM⟩
  ·
   replace hM := hM.2 c_1
   refine HO.val (v := .int .i64 r0_1) (want_by rfl rfl c_1) rfl (q_move rfl) ?_
   refine HO.val (v := .pointer (some ⟨bq, 0, none⟩)) (want_by rfl rfl c_1) rfl (q_move rfl) ?_
   refine HO.val (v := .pointer (some ⟨bq, 0, none⟩)) (want_by rfl rfl c_1) rfl (q_nilCheck rfl) ?_
   refine HO.val (v := .pointer (some ⟨bq, 0, none⟩)) (want_by rfl rfl c_1) rfl (q_fieldAddr fa_167_0 rfl rfl) ?_
   refine HO.val (v := .int .i64 q_now) (want_by rfl rfl c_1) rfl (q_load to_3 rfl (Blk.cell (hS.box 3 rfl) rfl)) ?_
   refine HO.val (v := .bool (decide (q_now < r0_1))) (want_by rfl rfl c_1) rfl (q_gtr rfl rfl) ?_
   refine oV (.bool (decide (q_now < r0_1))) (q_pickK false rfl c_1 rfl) rfl ?_
   refine HO.nil (thenQ_normal (?_))
   replace hS : St F_2 (Ow.box bq 167 #[.int .i64 q_now, .pointer (some ⟨bq_at, 0, none⟩), .int .i64 q_first, .map (some rq_open)] :: Ow.box bq_at 222 #[.map (some rq_at_at)] :: Ow.map rq_at_at kT kI q_at_at :: Ow.pm rq_open (fun (x : TA) => .agg (eA x).toArray) pv_query_left th_query_left q_open none :: Ow.box b_1 56 (e_api_Tune t).toArray :: fr) h_2 := hS.perm2 [3, 0, 1, 4, 2] 5 rfl rfl
   exact ⟨F_2, decide (q_now < r0_1), rfl, rfl, rfl, rfl, hK, hS, hM⟩
 ·
  rintro f_1 h_3 ⟨F_3, b_2, e0, e3, e4, e26, hK, hS, hM⟩
  unfold query_Queries_generals_j1 at hM
  refine HW.fr [(0, .pointer (some ⟨bq, 0, none⟩)), (3, .pointer (some ⟨b_1, 0, none⟩)), (4, .bool false), (26, .bool b_2)] ⟨e0, e3, e4, e26, trivial⟩ ?_
  refine HW.cond b_2 rfl (fun c_2 => ?_) (fun c_2 => ?_)
  ·
   replace hM := hM.1 c_2
   refine HW.seq ?_
   refine HW.region ?_
   refine oA (.bool false) rfl rfl ?_
   refine HO.nil (thenQ_normal (?_))
   refine HW.ret (thenQ_ret (?_))
   refine ⟨.inr rfl, .bool false, res1 rfl (rt rfl), ?_⟩
   replace hS : St F_3 (Ow.box bq 167 #[.int .i64 q_now, .pointer (some ⟨bq_at, 0, none⟩), .int .i64 q_first, .map (some rq_open)] :: Ow.box bq_at 222 #[.map (some rq_at_at)] :: Ow.map rq_at_at kT kI q_at_at :: Ow.pm rq_open (fun (x : TA) => .agg (eA x).toArray) pv_query_left th_query_left q_open none :: fr) h_3 := hS.perm2 [0, 1, 2, 3] 5 rfl rfl
   exact ⟨F_3, false, q_now, q_at_at, q_first, q_open, rfl, hK, hS, hM⟩
  ·
   replace hM := hM.2 c_2
   refine HW.skip (thenQ_normal (?_))
   refine HW.seq ?_
   refine HW.region ?_
   refine oV (.agg (e_api_Tune t).toArray) (q_loadAgg (cs := (e_api_Tune t)) ta_56 rfl rfl (Blk.cells (k := 5) (hS.box 4 rfl) rfl)) rfl ?_
   refine HO.call (want_none) rfl (ec en_109 rfl rfl) (tune_Startup_walk (fr := (Ow.box bq 167 #[.int .i64 q_now, .pointer (some ⟨bq_at, 0, none⟩), .int .i64 q_first, .map (some rq_open)] :: Ow.box bq_at 222 #[.map (some rq_at_at)] :: Ow.map rq_at_at kT kI q_at_at :: Ow.pm rq_open (fun (x : TA) => .agg (eA x).toArray) pv_query_left th_query_left q_open none :: Ow.box b_1 56 (e_api_Tune t).toArray :: fr)) t hS hM) ?_
   rintro _ h_4 ⟨F_4, r0_2, r1_2, rfl, hk, hS, hM⟩
   replace hK := hK.trans hk
   refine oM (.tuple #[.int .i64 r0_2, .int .i64 r1_2]) rfl rfl ?_
   refine oV (.int .i64 r0_2) (q_extract rfl rfl) rfl ?_
   refine oV (.int .i64 r1_2) (q_extract rfl rfl) rfl ?_
   refine oA (.int .i64 r0_2) rfl rfl ?_
   refine oA (.int .i64 r1_2) rfl rfl ?_
   refine HO.nil (thenQ_normal (?_))
   refine HW.seq_mid (fun f h => ∃ (F' : Fz) (gap_1 : Int), f 0 = .pointer (some ⟨bq, 0, none⟩) ∧ f 4 = .bool false ∧ f 7 = .int .i64 gap_1 ∧ Kp F h0 F' h ∧ St F' (Ow.box bq 167 #[.int .i64 q_now, .pointer (some ⟨bq_at, 0, none⟩), .int .i64 (q_first - 1), .map (some rq_open)] :: Ow.box bq_at 222 #[.map (some rq_at_at)] :: Ow.map rq_at_at kT kI q_at_at :: Ow.pm rq_open (fun (x : TA) => .agg (eA x).toArray) pv_query_left th_query_left q_open none :: fr) h ∧ query_Queries_generals_j2 q_now q_at_at q_first q_open Q gap_1) ?_ ?_
   ·
    refine HW.seq ?_
    refine HW.region ?_
    refine oM (.pointer (some ⟨bq, 0, none⟩)) rfl rfl ?_
    refine oV (.pointer (some ⟨bq, 0, none⟩)) (q_nilCheck rfl) rfl ?_
    refine oV (.pointer (some ⟨bq, 2, none⟩)) (q_fieldAddr fa_167_2 rfl rfl) rfl ?_
    refine oV (.int .i64 q_first) (q_load to_3 rfl (Blk.cell (hS.box 0 rfl) rfl)) rfl ?_
    obtain ⟨ho_1, hM⟩ := hM
    refine oV (.int .i64 (q_first - 1)) (q_subN _ rfl rfl rfl ho_1.1 ho_1.2) rfl ?_
    refine oV (.pointer (some ⟨bq, 0, none⟩)) (q_nilCheck rfl) rfl ?_
    refine oV (.pointer (some ⟨bq, 2, none⟩)) (q_fieldAddr fa_167_2 rfl rfl) rfl ?_
    refine HO.sto (want_none) rfl (st_store (c' := #[.int .i64 q_now, .pointer (some ⟨bq_at, 0, none⟩), .int .i64 (q_first - 1), .map (some rq_open)]) hS (i := 0) rfl to_3 rfl rfl rfl rfl (Nat.le_of_ble_eq_true rfl) rfl) ?_
    rintro h_5 ⟨hS, hk⟩
    replace hK := hK.trans hk
    refine HO.nil (thenQ_normal (?_))
    refine HW.seq ?_
    refine HW.region ?_
    refine oM (.pointer (some ⟨bq, 0, none⟩)) rfl rfl ?_
    refine oV (.pointer (some ⟨bq, 0, none⟩)) (q_nilCheck rfl) rfl ?_
    refine oV (.pointer (some ⟨bq, 2, none⟩)) (q_fieldAddr fa_167_2 rfl rfl) rfl ?_
    refine oV (.int .i64 (q_first - 1)) (q_load to_3 rfl (Blk.cell (hS.box 0 rfl) rfl)) rfl ?_
    refine oV (.bool (decide ((q_first - 1) ≤ 0))) (q_leq rfl rfl) rfl ?_
    refine HO.nil (thenQ_normal (?_))
    refine HW.cond (decide ((q_first - 1) ≤ 0)) rfl (fun c_3 => ?_) (fun c_3 => ?_)
    ·
     replace hM := hM.1 (of_decide_eq_true c_3)
     refine HW.region ?_
     refine oV (.pointer (some ⟨b_1, 1, none⟩)) (q_fieldAddr fa_56_1 rfl rfl) rfl ?_
     refine oV (.int .i64 t.2.1) (q_load to_3 rfl (Blk.cell (hS.box 4 rfl) rfl)) rfl ?_
     refine oA (.int .i64 t.2.1) rfl rfl ?_
     refine HO.nil (thenQ_normal (?_))
     replace hS : St F_4 (Ow.box bq 167 #[.int .i64 q_now, .pointer (some ⟨bq_at, 0, none⟩), .int .i64 (q_first - 1), .map (some rq_open)] :: Ow.box bq_at 222 #[.map (some rq_at_at)] :: Ow.map rq_at_at kT kI q_at_at :: Ow.pm rq_open (fun (x : TA) => .agg (eA x).toArray) pv_query_left th_query_left q_open none :: fr) h_5 := hS.perm2 [0, 1, 2, 3] 5 rfl rfl
     exact ⟨F_4, t.2.1, rfl, rfl, rfl, hK, hS, hM⟩
    ·
     replace hM := hM.2 (of_decide_eq_false c_3)
     refine HW.skip (thenQ_normal (?_))
     replace hS : St F_4 (Ow.box bq 167 #[.int .i64 q_now, .pointer (some ⟨bq_at, 0, none⟩), .int .i64 (q_first - 1), .map (some rq_open)] :: Ow.box bq_at 222 #[.map (some rq_at_at)] :: Ow.map rq_at_at kT kI q_at_at :: Ow.pm rq_open (fun (x : TA) => .agg (eA x).toArray) pv_query_left th_query_left q_open none :: fr) h_5 := hS.perm2 [0, 1, 2, 3] 5 rfl rfl
     exact ⟨F_4, r0_2, rfl, rfl, rfl, hK, hS, hM⟩
   ·
    rintro f_2 h_6 ⟨F_5, gap_1, e0, e4, e7, hK, hS, hM⟩
    unfold query_Queries_generals_j2 at hM
    refine HW.fr [(0, .pointer (some ⟨bq, 0, none⟩)), (4, .bool false), (7, .int .i64 gap_1)] ⟨e0, e4, e7, trivial⟩ ?_
    refine HW.seq ?_
    refine HW.regionA 11 mixed (fun h => (Blk h bq (.cells #[.int .i64 q_now, .pointer (some ⟨bq_at, 0, none⟩), .int .i64 (q_first - 1), .map (some rq_open)] 167 (0, 0)))) [] (by kernel_rfl) ?_
    refine HA.val (k := 0) (v := .pointer (some ⟨bq, 0, none⟩)) rfl rfl (by kernel_rfl) (by kernel_rfl) (want_none) rfl (fun _ c219 => q_move rfl) ?_
    refine HA.val (k := 1) (v := .pointer (some ⟨bq, 0, none⟩)) rfl rfl (by kernel_rfl) (by kernel_rfl) (want_none) rfl (fun _ c219 => q_nilCheck rfl) ?_
    refine HA.val (k := 2) (v := .pointer (some ⟨bq, 1, none⟩)) rfl rfl (by kernel_rfl) (by kernel_rfl) (want_none) rfl (fun _ c219 => q_fieldAddr fa_167_1 rfl rfl) ?_
    refine HA.val (k := 3) (v := .pointer (some ⟨bq_at, 0, none⟩)) rfl rfl (by kernel_rfl) (by kernel_rfl) (want_none) rfl (fun _ c219 => q_load to_163 rfl (Blk.cell c219 rfl)) ?_
    refine HA.val (k := 4) (v := .pointer (some ⟨bq, 0, none⟩)) rfl rfl (by kernel_rfl) (by kernel_rfl) (want_none) rfl (fun _ c219 => q_move rfl) ?_
    refine HA.val (k := 5) (v := .pointer (some ⟨bq, 0, none⟩)) rfl rfl (by kernel_rfl) (by kernel_rfl) (want_none) rfl (fun _ c219 => q_nilCheck rfl) ?_
    refine HA.val (k := 6) (v := .pointer (some ⟨bq, 0, none⟩)) rfl rfl (by kernel_rfl) (by kernel_rfl) (want_none) rfl (fun _ c219 => q_fieldAddr fa_167_0 rfl rfl) ?_
    refine HA.val (k := 7) (v := .int .i64 q_now) rfl rfl (by kernel_rfl) (by kernel_rfl) (want_none) rfl (fun _ c219 => q_load to_3 rfl (Blk.cell c219 rfl)) ?_
    refine HA.val (k := 8) (v := .int .i64 gap_1) rfl rfl (by kernel_rfl) (by kernel_rfl) (want_none) rfl (fun _ c219 => q_move rfl) ?_
    obtain ⟨ho_2, hM⟩ := hM
    refine HA.val (k := 9) (v := .int .i64 (q_now + gap_1)) rfl rfl (by kernel_rfl) (by kernel_rfl) (want_none) rfl (fun _ c219 => q_addN _ rfl rfl rfl ho_2.1 ho_2.2) ?_
    refine HA.one (k := 10) ⟨(hS.box 0 rfl), (Go.Wk.at_nil _ _)⟩ (by kernel_rfl) ?_
    replace hS : St F_5 (Ow.box bq_at 222 #[.map (some rq_at_at)] :: Ow.map rq_at_at kT kI q_at_at :: Ow.box bq 167 #[.int .i64 q_now, .pointer (some ⟨bq_at, 0, none⟩), .int .i64 (q_first - 1), .map (some rq_open)] :: Ow.pm rq_open (fun (x : TA) => .agg (eA x).toArray) pv_query_left th_query_left q_open none :: fr) h_6 := hS.perm2 [1, 2, 0, 3] 4 rfl rfl
    refine HS.call rfl (want_none) rfl (ec en_110 rfl rfl) (clock_Clock_Set_string_walk (fr := (Ow.box bq 167 #[.int .i64 q_now, .pointer (some ⟨bq_at, 0, none⟩), .int .i64 (q_first - 1), .map (some rq_open)] :: Ow.pm rq_open (fun (x : TA) => .agg (eA x).toArray) pv_query_left th_query_left q_open none :: fr)) q_at_at [] (q_now + gap_1) bq_at rq_at_at hS hM) ?_
    rintro _ h_7 ⟨F_6, r_2, cm_1, rfl, hk, hS, hM⟩
    replace hK := hK.trans hk
    refine HA.nil ⟨(hS.box 2 rfl), (Go.Wk.at_nil _ _)⟩ (by kernel_rfl) (thenQ_normal (?_))
    refine HW.seq ?_
    refine HW.region ?_
    refine oA (.bool true) rfl rfl ?_
    refine HO.nil (thenQ_normal (?_))
    refine HW.ret (?_)
    refine ⟨.inr rfl, .bool true, res1 rfl (rt rfl), ?_⟩
    replace hS : St F_6 (Ow.box bq 167 #[.int .i64 q_now, .pointer (some ⟨bq_at, 0, none⟩), .int .i64 (q_first - 1), .map (some rq_open)] :: Ow.box bq_at 222 #[.map (some rq_at_at)] :: Ow.map rq_at_at kT kI cm_1 :: Ow.pm rq_open (fun (x : TA) => .agg (eA x).toArray) pv_query_left th_query_left q_open none :: fr) h_7 := hS.perm2 [2, 0, 1, 3] 4 rfl rfl
    exact ⟨F_6, true, q_now, cm_1, q_first - 1, q_open, rfl, hK, hS, hM⟩
def slices_Collect_api_Addr_k1_W (seq : List (TA × (Nat × Nat) × TqL)) (Q : (List TA) → Prop) : Prop :=
 ((seq).length * 17 ≤ 140737488355328) ∧ (∀ l_1 : List TA, List.Perm l_1 (seq.map Prod.fst) → (Q l_1))
theorem slices_Collect_api_Addr_k1_walk {F : Fz} {fr : List Ow} {h0 : Heap} (seq : List (TA × (Nat × Nat) × TqL)) (bseq : Nat) (rseq : Nat) (hS : St F (fr) h0) (hM_rseq : RoF (Ow.map rseq (fun (x : TA) => .agg (eA x).toArray) (pmV (β := TqL) pv_query_left) seq) F h0) (hB_bseq : RoF (Ow.box bseq 165 #[.map (some rseq)]) F h0) {Q : (List TA) → Prop} (hM : slices_Collect_api_Addr_k1_W seq Q) :
  HC Tryz.prog 197 #[.func (.func 212) #[] #[.pointer (some ⟨bseq, 0, none⟩)]] h0 fun u h' => ∃ (F' : Fz) (r_1 : List TA) (vr_1 : Value), u = vr_1 ∧ Kp F h0 F' h' ∧ St F' (Ow.own 28 17 eA vr_1 r_1 :: fr) h' ∧ (RoF (Ow.map rseq (fun (x : TA) => .agg (eA x).toArray) (pmV (β := TqL) pv_query_left) seq) F' h') ∧ (RoF (Ow.box bseq 165 #[.map (some rseq)]) F' h') ∧ Q r_1 := by
 unfold slices_Collect_api_Addr_k1_W at hM
 have hK := Kp.refl F h0
 refine HC.of_HW (n := 5) Tryz.func197 rfl rfl (Nat.le_of_ble_eq_true rfl) ?_
 refine HW.seq ?_
 refine HW.region ?_
 refine oA (.slice none 0 0) rfl rfl ?_
 refine HO.nil (thenQ_normal (?_))
 refine HW.seq ?_
 refine HW.region ?_
 refine oM (.func (.func 212) #[] #[.pointer (some ⟨bseq, 0, none⟩)]) rfl rfl ?_
 obtain ⟨ho_1, hM⟩ := hM
 refine HO.call (want_none) rfl (ec en_220 rfl rfl) (apk_220_212 hS hB_bseq.box hM_rseq.mp ho_1) ?_
 rintro v_1 h_1 ⟨l_1, hp_1, hS, hk⟩
 replace hM := hM l_1 hp_1
 replace hK := hK.trans hk
 replace hM_rseq := hM_rseq.kp hk
 replace hB_bseq := hB_bseq.kp hk
 refine oA (v_1) rfl rfl ?_
 refine HO.nil (thenQ_normal (?_))
 refine HW.ret (?_)
 refine ⟨.inr rfl, v_1, res1 rfl (rt rfl), ?_⟩
 exact ⟨F, l_1, v_1, rfl, hK, hS, hM_rseq, hB_bseq, hM⟩
def slices_Collect_api_Addr_k2_W (seq : List (TA × Int)) (Q : (List TA) → Prop) : Prop :=
 ((seq).length * 17 ≤ 140737488355328) ∧ (∀ l_1 : List TA, List.Perm l_1 (seq.map Prod.fst) → (Q l_1))
theorem slices_Collect_api_Addr_k2_walk {F : Fz} {fr : List Ow} {h0 : Heap} (seq : List (TA × Int)) (bseq : Nat) (rseq : Nat) (hS : St F (fr) h0) (hM_rseq : RoF (Ow.map rseq (fun (x : TA) => .agg (eA x).toArray) kI seq) F h0) (hB_bseq : RoF (Ow.box bseq 177 #[.map (some rseq)]) F h0) {Q : (List TA) → Prop} (hM : slices_Collect_api_Addr_k2_W seq Q) :
  HC Tryz.prog 197 #[.func (.func 213) #[] #[.pointer (some ⟨bseq, 0, none⟩)]] h0 fun u h' => ∃ (F' : Fz) (r_1 : List TA) (vr_1 : Value), u = vr_1 ∧ Kp F h0 F' h' ∧ St F' (Ow.own 28 17 eA vr_1 r_1 :: fr) h' ∧ (RoF (Ow.map rseq (fun (x : TA) => .agg (eA x).toArray) kI seq) F' h') ∧ (RoF (Ow.box bseq 177 #[.map (some rseq)]) F' h') ∧ Q r_1 := by
 unfold slices_Collect_api_Addr_k2_W at hM
 have hK := Kp.refl F h0
 refine HC.of_HW (n := 5) Tryz.func197 rfl rfl (Nat.le_of_ble_eq_true rfl) ?_
 refine HW.seq ?_
 refine HW.region ?_
 refine oA (.slice none 0 0) rfl rfl ?_
 refine HO.nil (thenQ_normal (?_))
 refine HW.seq ?_
 refine HW.region ?_
 refine oM (.func (.func 213) #[] #[.pointer (some ⟨bseq, 0, none⟩)]) rfl rfl ?_
 obtain ⟨ho_1, hM⟩ := hM
 refine HO.call (want_none) rfl (ec en_220 rfl rfl) (apk_220_213 hS hB_bseq.box hM_rseq.mp ho_1) ?_
 rintro v_1 h_1 ⟨l_1, hp_1, hS, hk⟩
 replace hM := hM l_1 hp_1
 replace hK := hK.trans hk
 replace hM_rseq := hM_rseq.kp hk
 replace hB_bseq := hB_bseq.kp hk
 refine oA (v_1) rfl rfl ?_
 refine HO.nil (thenQ_normal (?_))
 refine HW.ret (?_)
 refine ⟨.inr rfl, v_1, res1 rfl (rt rfl), ?_⟩
 exact ⟨F, l_1, v_1, rfl, hK, hS, hM_rseq, hB_bseq, hM⟩
def slices_SortedFunc_api_Addr_k1_W (seq : List (TA × (Nat × Nat) × TqL)) (cf_cmp : TA → TA → Int) (Q : (List TA) → Prop) : Prop :=
 slices_Collect_api_Addr_k1_W seq (fun r_2 => Swo cf_cmp ∧ (r_2).length < 4611686018427387904 ∧ ∀ l_1 : List TA, List.Perm l_1 r_2 → List.Pairwise (fun x y => ¬ cf_cmp y x < 0) l_1 → (Q l_1))
theorem slices_SortedFunc_api_Addr_k1_walk {F : Fz} {fr : List Ow} {h0 : Heap} (seq : List (TA × (Nat × Nat) × TqL)) (cf_cmp : TA → TA → Int) (bseq : Nat) (rseq : Nat) (g_cmp : Nat) (cs_cmp : Array Value) (hS : St F (fr) h0) (hM_rseq : RoF (Ow.map rseq (fun (x : TA) => .agg (eA x).toArray) (pmV (β := TqL) pv_query_left) seq) F h0) (hB_bseq : RoF (Ow.box bseq 165 #[.map (some rseq)]) F h0) (hF_cf_cmp : FnP Tryz.prog F h0 g_cmp #[] cs_cmp (fun x : TA × TA => [.agg (eA x.1).toArray, .agg (eA x.2).toArray]) (fun x => .int .i64 (cf_cmp x.1 x.2))) {Q : (List TA) → Prop} (hM : slices_SortedFunc_api_Addr_k1_W seq cf_cmp Q) :
  HC Tryz.prog 152 #[.func (.func 212) #[] #[.pointer (some ⟨bseq, 0, none⟩)], .func (.func g_cmp) #[] cs_cmp] h0 fun u h' => ∃ (F' : Fz) (r_1 : List TA) (vr_1 : Value), u = vr_1 ∧ Kp F h0 F' h' ∧ St F' (Ow.own 28 17 eA vr_1 r_1 :: fr) h' ∧ (RoF (Ow.map rseq (fun (x : TA) => .agg (eA x).toArray) (pmV (β := TqL) pv_query_left) seq) F' h') ∧ (RoF (Ow.box bseq 165 #[.map (some rseq)]) F' h') ∧ (FnP Tryz.prog F' h' g_cmp #[] cs_cmp (fun x : TA × TA => [.agg (eA x.1).toArray, .agg (eA x.2).toArray]) (fun x => .int .i64 (cf_cmp x.1 x.2))) ∧ Q r_1 := by
 unfold slices_SortedFunc_api_Addr_k1_W at hM
 have hK := Kp.refl F h0
 refine HC.of_HW (n := 12) Tryz.func152 rfl rfl (Nat.le_of_ble_eq_true rfl) ?_
 refine HW.seq ?_
 refine HW.region ?_
 refine oA (.slice none 0 0) rfl rfl ?_
 refine HO.nil (thenQ_normal (?_))
 refine HW.seq ?_
 refine HW.region ?_
 refine oM (.func (.func 212) #[] #[.pointer (some ⟨bseq, 0, none⟩)]) rfl rfl ?_
 refine HO.call (want_none) rfl (ec en_197 rfl rfl) (slices_Collect_api_Addr_k1_walk (fr := (fr)) seq bseq rseq hS hM_rseq hB_bseq hM) ?_
 rintro vr_2 h_1 ⟨F_1, r_2, _, rfl, hk, hS, _, _, hM⟩
 replace hK := hK.trans hk
 replace hM_rseq := hM_rseq.kp hk
 replace hB_bseq := hB_bseq.kp hk
 replace hF_cf_cmp := hF_cf_cmp.kp hk
 refine oA (vr_2) rfl rfl ?_
 refine HO.nil (thenQ_normal (?_))
 refine HW.seq ?_
 refine HW.region ?_
 refine oM (vr_2) rfl rfl ?_
 refine oM (.func (.func g_cmp) #[] cs_cmp) rfl rfl ?_
 obtain ⟨ho_1, ho_2, hM⟩ := hM
 refine HO.call (want_none) rfl (ec en_181 rfl rfl) (sortFunc_own Tryz.sortAddr (by decide) (fun w => by kernel_rfl) (fun w => by kernel_rfl) (enc := eA) (fun _ => rfl) (by intro a u hu; simp [eA, encI, encN, encB, encT] at hu; rcases hu with rfl | rfl | rfl | rfl | rfl | rfl | rfl | rfl | rfl | rfl | rfl | rfl | rfl | rfl | rfl | rfl | rfl <;> rfl) ho_1 hS hF_cf_cmp ho_2) ?_
 rintro _ h_2 ⟨l_1, rfl, hk, hS, hp_1, hs_1⟩
 replace hM := hM l_1 hp_1 hs_1
 replace hK := hK.trans hk
 replace hM_rseq := hM_rseq.kp hk
 replace hB_bseq := hB_bseq.kp hk
 replace hF_cf_cmp := hF_cf_cmp.kp hk
 refine HO.nil (thenQ_normal (?_))
 refine HW.seq ?_
 refine HW.region ?_
 refine oM (vr_2) rfl rfl ?_
 refine oA (vr_2) rfl rfl ?_
 refine HO.nil (thenQ_normal (?_))
 refine HW.ret (?_)
 refine ⟨.inr rfl, vr_2, res1 rfl (rt rfl), ?_⟩
 exact ⟨F_1, l_1, vr_2, rfl, hK, hS, hM_rseq, hB_bseq, hF_cf_cmp, hM⟩
def slices_SortedFunc_api_Addr_k2_W (seq : List (TA × Int)) (cf_cmp : TA → TA → Int) (Q : (List TA) → Prop) : Prop :=
 slices_Collect_api_Addr_k2_W seq (fun r_2 => Swo cf_cmp ∧ (r_2).length < 4611686018427387904 ∧ ∀ l_1 : List TA, List.Perm l_1 r_2 → List.Pairwise (fun x y => ¬ cf_cmp y x < 0) l_1 → (Q l_1))
theorem slices_SortedFunc_api_Addr_k2_walk {F : Fz} {fr : List Ow} {h0 : Heap} (seq : List (TA × Int)) (cf_cmp : TA → TA → Int) (bseq : Nat) (rseq : Nat) (g_cmp : Nat) (cs_cmp : Array Value) (hS : St F (fr) h0) (hM_rseq : RoF (Ow.map rseq (fun (x : TA) => .agg (eA x).toArray) kI seq) F h0) (hB_bseq : RoF (Ow.box bseq 177 #[.map (some rseq)]) F h0) (hF_cf_cmp : FnP Tryz.prog F h0 g_cmp #[] cs_cmp (fun x : TA × TA => [.agg (eA x.1).toArray, .agg (eA x.2).toArray]) (fun x => .int .i64 (cf_cmp x.1 x.2))) {Q : (List TA) → Prop} (hM : slices_SortedFunc_api_Addr_k2_W seq cf_cmp Q) :
  HC Tryz.prog 152 #[.func (.func 213) #[] #[.pointer (some ⟨bseq, 0, none⟩)], .func (.func g_cmp) #[] cs_cmp] h0 fun u h' => ∃ (F' : Fz) (r_1 : List TA) (vr_1 : Value), u = vr_1 ∧ Kp F h0 F' h' ∧ St F' (Ow.own 28 17 eA vr_1 r_1 :: fr) h' ∧ (RoF (Ow.map rseq (fun (x : TA) => .agg (eA x).toArray) kI seq) F' h') ∧ (RoF (Ow.box bseq 177 #[.map (some rseq)]) F' h') ∧ (FnP Tryz.prog F' h' g_cmp #[] cs_cmp (fun x : TA × TA => [.agg (eA x.1).toArray, .agg (eA x.2).toArray]) (fun x => .int .i64 (cf_cmp x.1 x.2))) ∧ Q r_1 := by
 unfold slices_SortedFunc_api_Addr_k2_W at hM
 have hK := Kp.refl F h0
 refine HC.of_HW (n := 12) Tryz.func152 rfl rfl (Nat.le_of_ble_eq_true rfl) ?_
 refine HW.seq ?_
 refine HW.region ?_
 refine oA (.slice none 0 0) rfl rfl ?_
 refine HO.nil (thenQ_normal (?_))
 refine HW.seq ?_
 refine HW.region ?_
 refine oM (.func (.func 213) #[] #[.pointer (some ⟨bseq, 0, none⟩)]) rfl rfl ?_
 refine HO.call (want_none) rfl (ec en_197 rfl rfl) (slices_Collect_api_Addr_k2_walk (fr := (fr)) seq bseq rseq hS hM_rseq hB_bseq hM) ?_
 rintro vr_2 h_1 ⟨F_1, r_2, _, rfl, hk, hS, _, _, hM⟩
 replace hK := hK.trans hk
 replace hM_rseq := hM_rseq.kp hk
 replace hB_bseq := hB_bseq.kp hk
 replace hF_cf_cmp := hF_cf_cmp.kp hk
 refine oA (vr_2) rfl rfl ?_
 refine HO.nil (thenQ_normal (?_))
 refine HW.seq ?_
 refine HW.region ?_
 refine oM (vr_2) rfl rfl ?_
 refine oM (.func (.func g_cmp) #[] cs_cmp) rfl rfl ?_
 obtain ⟨ho_1, ho_2, hM⟩ := hM
 refine HO.call (want_none) rfl (ec en_181 rfl rfl) (sortFunc_own Tryz.sortAddr (by decide) (fun w => by kernel_rfl) (fun w => by kernel_rfl) (enc := eA) (fun _ => rfl) (by intro a u hu; simp [eA, encI, encN, encB, encT] at hu; rcases hu with rfl | rfl | rfl | rfl | rfl | rfl | rfl | rfl | rfl | rfl | rfl | rfl | rfl | rfl | rfl | rfl | rfl <;> rfl) ho_1 hS hF_cf_cmp ho_2) ?_
 rintro _ h_2 ⟨l_1, rfl, hk, hS, hp_1, hs_1⟩
 replace hM := hM l_1 hp_1 hs_1
 replace hK := hK.trans hk
 replace hM_rseq := hM_rseq.kp hk
 replace hB_bseq := hB_bseq.kp hk
 replace hF_cf_cmp := hF_cf_cmp.kp hk
 refine HO.nil (thenQ_normal (?_))
 refine HW.seq ?_
 refine HW.region ?_
 refine oM (vr_2) rfl rfl ?_
 refine oA (vr_2) rfl rfl ?_
 refine HO.nil (thenQ_normal (?_))
 refine HW.ret (?_)
 refine ⟨.inr rfl, vr_2, res1 rfl (rt rfl), ?_⟩
 exact ⟨F_1, l_1, vr_2, rfl, hK, hS, hM_rseq, hB_bseq, hF_cf_cmp, hM⟩
def addr_bytes_W (a : TA) (Q : Str → Prop) : Prop :=
 (a.1 = true → Q (cut a.2.1 0 16)) ∧ (a.1 = false → Q (cut a.2.1 0 4))
theorem addr_bytes_walk {F : Fz} {fr : List Ow} {h0 : Heap} (a : TA) (hS : St F (fr) h0)  {Q : Str → Prop} (hM : addr_bytes_W a Q) :
  HC Tryz.prog 195 #[.agg (eA a).toArray] h0 fun u h' => ∃ (F' : Fz) (r_1 : Str), u = .string (bs r_1) ∧ Kp F h0 F' h' ∧ St F' (fr) h' ∧ Q r_1 := by
 unfold addr_bytes_W at hM
 have hK := Kp.refl F h0
 refine HC.of_HW (n := 11) Tryz.func195 rfl rfl (Nat.le_of_ble_eq_true rfl) ?_
 refine HW.seq ?_
 refine HW.region ?_
 refine HO.eff (want_none) rfl (st_box (c := (eA a).toArray) (k' := 17) hS rfl rfl) ?_
 rintro _ h_1 ⟨b_1, rfl, hS, hk⟩
 replace hK := hK.trans hk
 refine oA (.string (bs [])) rfl rfl ?_
 refine HO.nil (thenQ_normal (?_))
 refine HW.seq ?_
 refine HW.seq ?_
 refine HW.region ?_
 refine oV (.pointer (some ⟨b_1, 0, none⟩)) (q_fieldAddr fa_28_0 rfl rfl) rfl ?_
 refine oV (.bool a.1) (q_load to_4 rfl (Blk.cell (hS.box 0 rfl) rfl)) rfl ?_
 refine HO.nil (thenQ_normal (?_))
 refine HW.cond a.1 rfl (fun c_1 => ?_) (fun c_1 => ?_)
 ·
  replace hM := hM.1 c_1
  refine HW.seq ?_
  refine HW.region ?_
  refine oV (.pointer (some ⟨b_1, 1, none⟩)) (q_fieldAddr fa_28_1 rfl rfl) rfl ?_
  refine oV (arrV b_1 1 16 0 16) (q_sliceA (o := 1) (lo := 0) (hi := 16) (kl := .i64) (kh := .i64) tr_26 rfl (.inl ⟨rfl, rfl⟩) (.inl ⟨rfl, rfl⟩) ⟨by decide, by decide, by decide⟩) rfl ?_
  refine oV (.string (bs (cut a.2.1 0 16))) (q_bytesStr ts_248 Tryz.underlying5 Tryz.underlying9 (arrSl (o := 1) (n := 16) (X := a.2) (lo := 0) (hi := 16) (hS.box 0 rfl) rfl ⟨by decide, by decide, by decide⟩ (by decide)) rfl) rfl ?_
  refine oA (.string (bs (cut a.2.1 0 16))) rfl rfl ?_
  refine HO.nil (thenQ_normal (?_))
  refine HW.ret (thenQ_ret (?_))
  refine ⟨.inr rfl, .string (bs (cut a.2.1 0 16)), res1 rfl (rt rfl), ?_⟩
  replace hS : St F (fr) h_1 := hS.perm2 [] 1 rfl rfl
  exact ⟨F, cut a.2.1 0 16, rfl, hK, hS, hM⟩
 ·
  replace hM := hM.2 c_1
  refine HW.skip (thenQ_normal (?_))
  refine HW.seq ?_
  refine HW.region ?_
  refine oV (.pointer (some ⟨b_1, 1, none⟩)) (q_fieldAddr fa_28_1 rfl rfl) rfl ?_
  refine oV (arrV b_1 1 16 0 4) (q_sliceA (o := 1) (lo := 0) (hi := 4) (kl := .i64) tr_26 rfl (.inl ⟨rfl, rfl⟩) (.inr ⟨_, rfl, rfl⟩) ⟨by decide, by decide, by decide⟩) rfl ?_
  refine oV (.string (bs (cut a.2.1 0 4))) (q_bytesStr ts_248 Tryz.underlying5 Tryz.underlying9 (arrSl (o := 1) (n := 16) (X := a.2) (lo := 0) (hi := 4) (hS.box 0 rfl) rfl ⟨by decide, by decide, by decide⟩ (by decide)) rfl) rfl ?_
  refine oA (.string (bs (cut a.2.1 0 4))) rfl rfl ?_
  refine HO.nil (thenQ_normal (?_))
  refine HW.ret (?_)
  refine ⟨.inr rfl, .string (bs (cut a.2.1 0 4)), res1 rfl (rt rfl), ?_⟩
  replace hS : St F (fr) h_1 := hS.perm2 [] 1 rfl rfl
  exact ⟨F, cut a.2.1 0 4, rfl, hK, hS, hM⟩
def addr_Cmp_j1 (a : TA) (b : TA) (Q : Int → Prop) : Prop :=
 addr_bytes_W a (fun r_2 => addr_bytes_W b (fun r_3 => Q (scmp r_2 r_3)))
def addr_Cmp_j2 (a : TA) (b : TA) (Q : Int → Prop) (b_3 : Bool) : Prop :=
 (b_3 = true → Q 1) ∧ (b_3 = false → ((!a.1) = true → (b.1 = true → Q (-1)) ∧ (b.1 = false → addr_Cmp_j1 a b Q)) ∧ ((!a.1) = false → addr_Cmp_j1 a b Q))
def addr_Cmp_W (a : TA) (b : TA) (Q : Int → Prop) : Prop :=
 (a.1 = true → addr_Cmp_j2 a b Q (!b.1)) ∧ (a.1 = false → addr_Cmp_j2 a b Q false)
theorem addr_Cmp_walk {F : Fz} {fr : List Ow} {h0 : Heap} (a : TA) (b : TA) (hS : St F (fr) h0)  {Q : Int → Prop} (hM : addr_Cmp_W a b Q) :
  HC Tryz.prog 148 #[.agg (eA a).toArray, .agg (eA b).toArray] h0 fun u h' => ∃ (F' : Fz) (r_1 : Int), u = .int .i64 r_1 ∧ Kp F h0 F' h' ∧ St F' (fr) h' ∧ Q r_1 := by
 unfold addr_Cmp_W at hM
 have hK := Kp.refl F h0
 refine HC.of_HW (n := 26) Tryz.func148 rfl rfl (Nat.le_of_ble_eq_true rfl) ?_
 refine HW.seq ?_
 refine HW.region ?_
 refine HO.eff (want_none) rfl (st_box (c := (eA a).toArray) (k' := 17) hS rfl rfl) ?_
 rintro _ h_1 ⟨b_1, rfl, hS, hk⟩
 replace hK := hK.trans hk
 refine HO.eff (want_none) rfl (st_box (c := (eA b).toArray) (k' := 17) hS rfl rfl) ?_
 rintro _ h_2 ⟨b_2, rfl, hS, hk⟩
 replace hK := hK.trans hk
 refine oA (.int .i64 0) rfl rfl ?_
 refine HO.nil (thenQ_normal (?_))
 refine HW.seq_mid (fun f h => ∃ (F' : Fz), f 2 = .pointer (some ⟨b_1, 0, none⟩) ∧ f 3 = .pointer (some ⟨b_2, 0, none⟩) ∧ f 4 = .int .i64 0 ∧ Kp F h0 F' h ∧ St F' (Ow.box b_1 28 (eA a).toArray :: Ow.box b_2 28 (eA b).toArray :: fr) h ∧ addr_Cmp_j1 a b Q) ?_ ?_
 ·
  refine HW.block ?_
  refine HW.seq_mid (fun f h => ∃ (F' : Fz) (b_3 : Bool), f 2 = .pointer (some ⟨b_1, 0, none⟩) ∧ f 3 = .pointer (some ⟨b_2, 0, none⟩) ∧ f 4 = .int .i64 0 ∧ f 5 = .bool b_3 ∧ Kp F h0 F' h ∧ St F' (Ow.box b_1 28 (eA a).toArray :: Ow.box b_2 28 (eA b).toArray :: fr) h ∧ addr_Cmp_j2 a b Q b_3) ?_ ?_
  ·
   refine HW.region ?_
   refine oV (.pointer (some ⟨b_1, 0, none⟩)) (q_fieldAddr fa_28_0 rfl rfl) rfl ?_
   refine oV (.bool a.1) (q_load to_4 rfl (Blk.cell (hS.box 1 rfl) rfl)) rfl ?_
   refine oM (.bool a.1) rfl rfl ?_
   rcases Bool.eq_false_or_eq_true a.1 with c_1 | c_1
   ·
    replace hM := hM.1 c_1
    refine HO.val (v := .pointer (some ⟨b_2, 0, none⟩)) (want_by rfl rfl c_1) rfl (q_fieldAddr fa_28_0 rfl rfl) ?_
    refine HO.val (v := .bool b.1) (want_by rfl rfl c_1) rfl (q_load to_4 rfl (Blk.cell (hS.box 0 rfl) rfl)) ?_
    refine HO.val (v := .bool (!b.1)) (want_by rfl rfl c_1) rfl (q_not rfl) ?_
    refine oV (.bool (!b.1)) (q_pickK true rfl c_1 rfl) rfl ?_
    refine oA (.bool (!b.1)) rfl rfl ?_
    refine HO.nil (thenQ_normal (?_))
    replace hS : St F (Ow.box b_1 28 (eA a).toArray :: Ow.box b_2 28 (eA b).toArray :: fr) h_2 := hS.perm2 [1, 0] 2 rfl rfl
    exact ⟨F, !b.1, rfl, rfl, rfl, rfl, hK, hS, hM⟩
   ·
    replace hM := hM.2 c_1
    refine HO.past (past_by rfl rfl c_1) rfl ?_
    refine HO.past (past_by rfl rfl c_1) rfl ?_
    refine HO.past (past_by rfl rfl c_1) rfl ?_
    refine oV (.bool false) (q_pickK false rfl c_1 rfl) rfl ?_
    refine oA (.bool false) rfl rfl ?_
    refine HO.nil (thenQ_normal (?_))
    replace hS : St F (Ow.box b_1 28 (eA a).toArray :: Ow.box b_2 28 (eA b).toArray :: fr) h_2 := hS.perm2 [1, 0] 2 rfl rfl
    exact ⟨F, false, rfl, rfl, rfl, rfl, hK, hS, hM⟩
  ·
   rintro f_1 h_3 ⟨F_1, b_3, e2, e3, e4, e5, hK, hS, hM⟩
   unfold addr_Cmp_j2 at hM
   refine HW.fr [(2, .pointer (some ⟨b_1, 0, none⟩)), (3, .pointer (some ⟨b_2, 0, none⟩)), (4, .int .i64 0), (5, .bool b_3)] ⟨e2, e3, e4, e5, trivial⟩ ?_
   refine HW.cond b_3 rfl (fun c_2 => ?_) (fun c_2 => ?_)
   ·
    replace hM := hM.1 c_2
    refine HW.seq ?_
    refine HW.region ?_
    refine oA (.int .i64 1) rfl rfl ?_
    refine HO.nil (thenQ_normal (?_))
    refine HW.ret (blockQ_ret (thenQ_ret (?_)))
    refine ⟨.inr rfl, .int .i64 1, res1 rfl (rt rfl), ?_⟩
    replace hS : St F_1 (fr) h_3 := hS.perm2 [] 2 rfl rfl
    exact ⟨F_1, 1, rfl, hK, hS, hM⟩
   ·
    replace hM := hM.2 c_2
    refine HW.seq ?_
    refine HW.region ?_
    refine oV (.pointer (some ⟨b_1, 0, none⟩)) (q_fieldAddr fa_28_0 rfl rfl) rfl ?_
    refine oV (.bool a.1) (q_load to_4 rfl (Blk.cell (hS.box 0 rfl) rfl)) rfl ?_
    refine oV (.bool (!a.1)) (q_not rfl) rfl ?_
    refine oM (.bool (!a.1)) rfl rfl ?_
    rcases Bool.eq_false_or_eq_true (!a.1) with c_3 | c_3
    ·
     replace hM := hM.1 c_3
     refine HO.val (v := .pointer (some ⟨b_2, 0, none⟩)) (want_by rfl rfl c_3) rfl (q_fieldAddr fa_28_0 rfl rfl) ?_
     refine HO.val (v := .bool b.1) (want_by rfl rfl c_3) rfl (q_load to_4 rfl (Blk.cell (hS.box 1 rfl) rfl)) ?_
     refine oV (.bool b.1) (q_pickK true rfl c_3 rfl) rfl ?_
     refine oA (.bool b.1) rfl rfl ?_
     refine HO.nil (thenQ_normal (?_))
     refine HW.cond b.1 rfl (fun c_4 => ?_) (fun c_4 => ?_)
     ·
      replace hM := hM.1 c_4
      refine HW.seq ?_
      refine HW.region ?_
      refine oA (.int .i64 (-1)) rfl rfl ?_
      refine HO.nil (thenQ_normal (?_))
      refine HW.ret (blockQ_ret (thenQ_ret (?_)))
      refine ⟨.inr rfl, .int .i64 (-1), res1 rfl (rt rfl), ?_⟩
      replace hS : St F_1 (fr) h_3 := hS.perm2 [] 2 rfl rfl
      exact ⟨F_1, (-1), rfl, hK, hS, hM⟩
     ·
      replace hM := hM.2 c_4
      refine HW.skip (blockQ_normal (thenQ_normal (?_)))
      exact ⟨F_1, rfl, rfl, rfl, hK, hS, hM⟩
    ·
     replace hM := hM.2 c_3
     refine HO.past (past_by rfl rfl c_3) rfl ?_
     refine HO.past (past_by rfl rfl c_3) rfl ?_
     refine oV (.bool false) (q_pickK false rfl c_3 rfl) rfl ?_
     refine oA (.bool false) rfl rfl ?_
     refine HO.nil (thenQ_normal (?_))
     refine HW.condF rfl ?_
     refine HW.skip (blockQ_normal (thenQ_normal (?_)))
     exact ⟨F_1, rfl, rfl, rfl, hK, hS, hM⟩
 ·
  rintro f_2 h_4 ⟨F_2, e2, e3, e4, hK, hS, hM⟩
  unfold addr_Cmp_j1 at hM
  refine HW.fr [(2, .pointer (some ⟨b_1, 0, none⟩)), (3, .pointer (some ⟨b_2, 0, none⟩)), (4, .int .i64 0)] ⟨e2, e3, e4, trivial⟩ ?_
  refine HW.seq ?_
  refine HW.regionA 6 mixed (fun h => (Blk h b_1 (.cells (eA a).toArray 28 (0, 0))) ∧ (Blk h b_2 (.cells (eA b).toArray 28 (0, 0)))) [] (by kernel_rfl) ?_
  refine HA.val (k := 0) (v := .agg (eA a).toArray) rfl rfl (by kernel_rfl) (by kernel_rfl) (want_none) rfl (fun _ ⟨c203, c204⟩ => q_loadAgg (cs := (eA a)) ta_28 rfl rfl (Blk.cells (k := 17) c203 rfl)) ?_
  refine HA.val (k := 2) (v := .agg (eA b).toArray) rfl rfl (by kernel_rfl) (by kernel_rfl) (want_none) rfl (fun _ ⟨c203, c204⟩ => q_loadAgg (cs := (eA b)) ta_28 rfl rfl (Blk.cells (k := 17) c204 rfl)) ?_
  refine HA.one (k := 1) ⟨⟨(hS.box 0 rfl), (hS.box 1 rfl)⟩, (Go.Wk.at_nil _ _)⟩ (by kernel_rfl) ?_
  refine HS.call rfl (want_none) rfl (ec en_195 rfl rfl) (addr_bytes_walk (fr := (Ow.box b_1 28 (eA a).toArray :: Ow.box b_2 28 (eA b).toArray :: fr)) a hS hM) ?_
  rintro _ h_5 ⟨F_3, r_2, rfl, hk, hS, hM⟩
  replace hK := hK.trans hk
  refine HA.one (k := 3) ⟨⟨(hS.box 0 rfl), (hS.box 1 rfl)⟩, (Go.Wk.at_nil _ _)⟩ (by kernel_rfl) ?_
  refine HS.call rfl (want_none) rfl (ec en_195 rfl rfl) (addr_bytes_walk (fr := (Ow.box b_1 28 (eA a).toArray :: Ow.box b_2 28 (eA b).toArray :: fr)) b hS hM) ?_
  rintro _ h_6 ⟨F_4, r_3, rfl, hk, hS, hM⟩
  replace hK := hK.trans hk
  refine HA.one (k := 4) ⟨⟨(hS.box 0 rfl), (hS.box 1 rfl)⟩, (Go.Wk.at_nil _ _)⟩ (by kernel_rfl) ?_
  refine HS.call rfl (want_none) rfl (ec en_194 rfl rfl) (strCompare_hc Tryz.strCmp  r_2 r_3 _) ?_
  rintro _ h_7 ⟨rfl, hEq⟩
  rw [hEq]
  refine HA.val (k := 5) (v := .int .i64 (scmp r_2 r_3)) rfl rfl (by kernel_rfl) (by kernel_rfl) (want_none) rfl (fun _ ⟨c203, c204⟩ => q_assign rfl) ?_
  refine HA.nil ⟨⟨(hS.box 0 rfl), (hS.box 1 rfl)⟩, (Go.Wk.at_nil _ _)⟩ (by kernel_rfl) (thenQ_normal (?_))
  refine HW.ret (?_)
  refine ⟨.inr rfl, .int .i64 (scmp r_2 r_3), res1 rfl (rt rfl), ?_⟩
  replace hS : St F_4 (fr) h_6 := hS.perm2 [] 2 rfl rfl
  exact ⟨F_4, scmp r_2 r_3, rfl, hK, hS, hM⟩
def query_Queries_groups_W (q_now : Int) (q_at_at : List (Str × Int)) (q_first : Int) (q_open : List (TA × (Nat × Nat) × TqL)) (Q : (List TA) → Prop) : Prop :=
 ∃ cf_1 : TA → TA → Int, (∀ x0 x1, addr_Cmp_W x0 x1 (fun r => r = cf_1 x0 x1)) ∧ (slices_SortedFunc_api_Addr_k1_W q_open cf_1 (fun r_2 => Q r_2))
theorem query_Queries_groups_walk {F : Fz} {fr : List Ow} {h0 : Heap} (q_now : Int) (q_at_at : List (Str × Int)) (q_first : Int) (q_open : List (TA × (Nat × Nat) × TqL)) (bq : Nat) (bq_at : Nat) (rq_at_at : Nat) (rq_open : Nat) (hS : St F (fr) h0) (hM_rq_at_at : RoF (Ow.map rq_at_at kT kI q_at_at) F h0) (hB_bq_at : RoF (Ow.box bq_at 222 #[.map (some rq_at_at)]) F h0) (hM_rq_open : RoF (Ow.pm rq_open (fun (x : TA) => .agg (eA x).toArray) pv_query_left th_query_left q_open none) F h0) (hB_bq : RoF (Ow.box bq 167 #[.int .i64 q_now, .pointer (some ⟨bq_at, 0, none⟩), .int .i64 q_first, .map (some rq_open)]) F h0) {Q : (List TA) → Prop} (hM : query_Queries_groups_W q_now q_at_at q_first q_open Q) :
  HC Tryz.prog 123 #[.pointer (some ⟨bq, 0, none⟩)] h0 fun u h' => ∃ (F' : Fz) (r_1 : List TA) (vr_1 : Value), u = vr_1 ∧ Kp F h0 F' h' ∧ St F' (Ow.own 28 17 eA vr_1 r_1 :: fr) h' ∧ (RoF (Ow.map rq_at_at kT kI q_at_at) F' h') ∧ (RoF (Ow.box bq_at 222 #[.map (some rq_at_at)]) F' h') ∧ (RoF (Ow.pm rq_open (fun (x : TA) => .agg (eA x).toArray) pv_query_left th_query_left q_open none) F' h') ∧ (RoF (Ow.box bq 167 #[.int .i64 q_now, .pointer (some ⟨bq_at, 0, none⟩), .int .i64 q_first, .map (some rq_open)]) F' h') ∧ Q r_1 := by
 unfold query_Queries_groups_W at hM
 have hK := Kp.refl F h0
 refine HC.of_HW (n := 9) Tryz.func123 rfl rfl (Nat.le_of_ble_eq_true rfl) ?_
 refine HW.seq ?_
 refine HW.region ?_
 refine oA (.slice none 0 0) rfl rfl ?_
 refine HO.nil (thenQ_normal (?_))
 refine HW.seq ?_
 refine HW.region ?_
 refine oM (.pointer (some ⟨bq, 0, none⟩)) rfl rfl ?_
 refine oV (.pointer (some ⟨bq, 0, none⟩)) (q_nilCheck rfl) rfl ?_
 refine oV (.pointer (some ⟨bq, 3, none⟩)) (q_fieldAddr fa_167_3 rfl rfl) rfl ?_
 refine oV (.map (some rq_open)) (q_load to_165 rfl (Blk.cell hB_bq.box rfl)) rfl ?_
 refine HO.call (want_none) rfl (ec en_185 rfl rfl) (keys_hc Tryz.func185 rfl rfl rfl rfl hS) ?_
 rintro _ h_1 ⟨b_1, rfl, hS, hk⟩
 replace hK := hK.trans hk
 replace hM_rq_at_at := hM_rq_at_at.kp hk
 replace hB_bq_at := hB_bq_at.kp hk
 replace hM_rq_open := hM_rq_open.kp hk
 replace hB_bq := hB_bq.kp hk
 obtain ⟨cf_1, hc_1, hM⟩ := hM
 have hF_1 : FnP Tryz.prog F h_1 148 #[] #[] (fun x : TA × TA => [.agg (eA x.1).toArray, .agg (eA x.2).toArray]) (fun x => .int .i64 (cf_1 x.1 x.2)) := FnP.of en_148 (fun x h' hk_ => @HC.mono ⟨true⟩ _ _ _ _ _ _ (@addr_Cmp_walk ⟨true⟩ (allF h') [] h' x.1 x.2  (St.init h')  (fun r => r = cf_1 x.1 x.2) (hc_1 x.1 x.2)) (fun u h'' ⟨F', r, hu, k_, _, hr⟩ => ⟨by rw [hu, hr], F', k_⟩))
 replace hS : St F (Ow.box b_1 165 #[.map (some rq_open)] :: fr) h_1 := hS
 have hZ_1 := hS
 have hkz_1 := (hS.freeze).2
 replace hS := hS.freeze.1
 have hL_1 := hZ_1.lent
 refine HO.call (want_none) rfl (ec en_152 rfl rfl) (slices_SortedFunc_api_Addr_k1_walk (fr := (fr)) q_open cf_1 b_1 rq_open 148 (#[]) hS (hM_rq_open.kp hkz_1).pmRo hL_1 (hF_1.kp hkz_1) hM) ?_
 rintro vr_2 h_2 ⟨F_1, r_2, _, rfl, hk, hS, _, _, _, hM⟩
 obtain ⟨hS, hk⟩ := hZ_1.back hk hS
 generalize (fun bz_ => F_1 bz_ ∧ ¬ (Ow.box b_1 165 #[.map (some rq_open)]).foot bz_) = F_2 at hS hk
 replace hK := hK.trans hk
 replace hM_rq_at_at := hM_rq_at_at.kp hk
 replace hB_bq_at := hB_bq_at.kp hk
 replace hM_rq_open := hM_rq_open.kp hk
 replace hB_bq := hB_bq.kp hk
 refine oA (vr_2) rfl rfl ?_
 refine HO.nil (thenQ_normal (?_))
 refine HW.ret (?_)
 refine ⟨.inr rfl, vr_2, res1 rfl (rt rfl), ?_⟩
 replace hS : St F_2 (Ow.own 28 17 eA vr_2 r_2 :: fr) h_2 := hS.perm2 [1] 2 rfl rfl
 exact ⟨F_2, r_2, vr_2, rfl, hK, hS, hM_rq_at_at, hB_bq_at, hM_rq_open, hB_bq, hM⟩
def addr_Bytes_W (a : TA) (Q : Str → Prop) : Prop :=
 addr_bytes_W a (fun r_2 => Q r_2)
theorem addr_Bytes_walk {F : Fz} {fr : List Ow} {h0 : Heap} (a : TA) (hS : St F (fr) h0)  {Q : Str → Prop} (hM : addr_Bytes_W a Q) :
  HC Tryz.prog 183 #[.agg (eA a).toArray] h0 fun u h' => ∃ (F' : Fz) (r_1 : Str), u = .string (bs r_1) ∧ Kp F h0 F' h' ∧ St F' (fr) h' ∧ Q r_1 := by
 unfold addr_Bytes_W at hM
 have hK := Kp.refl F h0
 refine HC.of_HW (n := 5) Tryz.func183 rfl rfl (Nat.le_of_ble_eq_true rfl) ?_
 refine HW.seq ?_
 refine HW.region ?_
 refine HO.eff (want_none) rfl (st_box (c := (eA a).toArray) (k' := 17) hS rfl rfl) ?_
 rintro _ h_1 ⟨b_1, rfl, hS, hk⟩
 replace hK := hK.trans hk
 refine oA (.string (bs [])) rfl rfl ?_
 refine HO.nil (thenQ_normal (?_))
 refine HW.seq ?_
 refine HW.region ?_
 refine oV (.agg (eA a).toArray) (q_loadAgg (cs := (eA a)) ta_28 rfl rfl (Blk.cells (k := 17) (hS.box 0 rfl) rfl)) rfl ?_
 refine HO.call (want_none) rfl (ec en_195 rfl rfl) (addr_bytes_walk (fr := (Ow.box b_1 28 (eA a).toArray :: fr)) a hS hM) ?_
 rintro _ h_2 ⟨F_1, r_2, rfl, hk, hS, hM⟩
 replace hK := hK.trans hk
 refine oA (.string (bs r_2)) rfl rfl ?_
 refine HO.nil (thenQ_normal (?_))
 refine HW.ret (?_)
 refine ⟨.inr rfl, .string (bs r_2), res1 rfl (rt rfl), ?_⟩
 replace hS : St F_1 (fr) h_2 := hS.perm2 [] 1 rfl rfl
 exact ⟨F_1, r_2, rfl, hK, hS, hM⟩
def query_key_W (g : TA) (Q : Str → Prop) : Prop :=
 addr_Bytes_W g (fun r_2 => Q r_2)
theorem query_key_walk {F : Fz} {fr : List Ow} {h0 : Heap} (g : TA) (hS : St F (fr) h0)  {Q : Str → Prop} (hM : query_key_W g Q) :
  HC Tryz.prog 117 #[.agg (eA g).toArray] h0 fun u h' => ∃ (F' : Fz) (r_1 : Str), u = .string (bs r_1) ∧ Kp F h0 F' h' ∧ St F' (fr) h' ∧ Q r_1 := by
 unfold query_key_W at hM
 have hK := Kp.refl F h0
 refine HC.of_HW (n := 5) Tryz.func117 rfl rfl (Nat.le_of_ble_eq_true rfl) ?_
 refine HW.seq ?_
 refine HW.region ?_
 refine HO.eff (want_none) rfl (st_box (c := (eA g).toArray) (k' := 17) hS rfl rfl) ?_
 rintro _ h_1 ⟨b_1, rfl, hS, hk⟩
 replace hK := hK.trans hk
 refine oA (.string (bs [])) rfl rfl ?_
 refine HO.nil (thenQ_normal (?_))
 refine HW.seq ?_
 refine HW.region ?_
 refine oV (.agg (eA g).toArray) (q_loadAgg (cs := (eA g)) ta_28 rfl rfl (Blk.cells (k := 17) (hS.box 0 rfl) rfl)) rfl ?_
 refine HO.call (want_none) rfl (ec en_183 rfl rfl) (addr_Bytes_walk (fr := (Ow.box b_1 28 (eA g).toArray :: fr)) g hS hM) ?_
 rintro _ h_2 ⟨F_1, r_2, rfl, hk, hS, hM⟩
 replace hK := hK.trans hk
 refine oA (.string (bs r_2)) rfl rfl ?_
 refine HO.nil (thenQ_normal (?_))
 refine HW.ret (?_)
 refine ⟨.inr rfl, .string (bs r_2), res1 rfl (rt rfl), ?_⟩
 replace hS : St F_1 (fr) h_2 := hS.perm2 [] 1 rfl rfl
 exact ⟨F_1, r_2, rfl, hK, hS, hM⟩
def query_left_asked_W (x_all : Int) (x_sources : List (TA × Int)) (g : TA) (Q : Bool → (Ba 16) → Bool → (List TA) → Prop) : Prop :=
 ∃ cf_1 : TA → TA → Int, (∀ x0 x1, addr_Cmp_W x0 x1 (fun r => r = cf_1 x0 x1)) ∧ (slices_SortedFunc_api_Addr_k2_W x_sources cf_1 (fun r_1 => Q g.1 g.2 (decide (0 < x_all)) r_1))
theorem query_left_asked_walk {F : Fz} {fr : List Ow} {h0 : Heap} (x_all : Int) (x_sources : List (TA × Int)) (g : TA) (bx : Nat) (rx_sources : Nat) (hS : St F (fr) h0) (hM_rx_sources : RoF (Ow.map rx_sources (fun (x : TA) => .agg (eA x).toArray) kI x_sources) F h0) (hB_bx : RoF (Ow.box bx 179 #[.int .i64 x_all, .map (some rx_sources)]) F h0) {Q : Bool → (Ba 16) → Bool → (List TA) → Prop} (hM : query_left_asked_W x_all x_sources g Q) :
  HC Tryz.prog 125 #[.pointer (some ⟨bx, 0, none⟩), .agg (eA g).toArray] h0 fun u h' => ∃ (F' : Fz) (r_0_1 : Bool) (r_1_1 : Ba 16) (r_17_1 : Bool) (r_18_1 : List TA) (vr_18_1 : Value), u = .agg (c_api_Asked (r_0_1, r_1_1) (.bool r_17_1) vr_18_1).toArray ∧ Kp F h0 F' h' ∧ St F' (Ow.own 28 17 eA vr_18_1 r_18_1 :: fr) h' ∧ (RoF (Ow.map rx_sources (fun (x : TA) => .agg (eA x).toArray) kI x_sources) F' h') ∧ (RoF (Ow.box bx 179 #[.int .i64 x_all, .map (some rx_sources)]) F' h') ∧ Q r_0_1 r_1_1 r_17_1 r_18_1 := by
 unfold query_left_asked_W at hM
 have hK := Kp.refl F h0
 refine HC.of_HW (n := 18) Tryz.func125 rfl rfl (Nat.le_of_ble_eq_true rfl) ?_
 refine HW.seq ?_
 refine HW.region ?_
 refine HO.eff (want_none) rfl (st_box (c := (eA g).toArray) (k' := 17) hS rfl rfl) ?_
 rintro _ h_1 ⟨b_1, rfl, hS, hk⟩
 replace hK := hK.trans hk
 replace hM_rx_sources := hM_rx_sources.kp hk
 replace hB_bx := hB_bx.kp hk
 refine HO.eff (want_none) rfl (st_alloc (c := (c_api_Asked (false, (default : Ba 16)) (.bool false) (.slice none 0 0)).toArray) hS tz_97 rfl) ?_
 rintro _ h_2 ⟨b_2, rfl, hS, hk⟩
 replace hK := hK.trans hk
 replace hM_rx_sources := hM_rx_sources.kp hk
 replace hB_bx := hB_bx.kp hk
 refine HO.nil (thenQ_normal (?_))
 refine HW.seq ?_
 refine HW.regionA 14 mixed (fun h => (Blk h bx (.cells #[.int .i64 x_all, .map (some rx_sources)] 179 (0, 0))) ∧ (Blk h b_1 (.cells (eA g).toArray 28 (0, 0)))) [] (by kernel_rfl) ?_
 refine HA.val (k := 0) (v := .agg (eA g).toArray) rfl rfl (by kernel_rfl) (by kernel_rfl) (want_none) rfl (fun _ ⟨hB_bx, c202⟩ => q_loadAgg (cs := (eA g)) ta_28 rfl rfl (Blk.cells (k := 17) c202 rfl)) ?_
 refine HA.val (k := 1) (v := .pointer (some ⟨bx, 0, none⟩)) rfl rfl (by kernel_rfl) (by kernel_rfl) (want_none) rfl (fun _ ⟨hB_bx, c202⟩ => q_move rfl) ?_
 refine HA.val (k := 2) (v := .pointer (some ⟨bx, 0, none⟩)) rfl rfl (by kernel_rfl) (by kernel_rfl) (want_none) rfl (fun _ ⟨hB_bx, c202⟩ => q_nilCheck rfl) ?_
 refine HA.val (k := 3) (v := .pointer (some ⟨bx, 0, none⟩)) rfl rfl (by kernel_rfl) (by kernel_rfl) (want_none) rfl (fun _ ⟨hB_bx, c202⟩ => q_fieldAddr fa_179_0 rfl rfl) ?_
 refine HA.val (k := 4) (v := .int .i64 x_all) rfl rfl (by kernel_rfl) (by kernel_rfl) (want_none) rfl (fun _ ⟨hB_bx, c202⟩ => q_load to_3 rfl (Blk.cell hB_bx rfl)) ?_
 refine HA.val (k := 5) (v := .bool (decide (0 < x_all))) rfl rfl (by kernel_rfl) (by kernel_rfl) (want_none) rfl (fun _ ⟨hB_bx, c202⟩ => q_gtr rfl rfl) ?_
 refine HA.val (k := 6) (v := .pointer (some ⟨bx, 0, none⟩)) rfl rfl (by kernel_rfl) (by kernel_rfl) (want_none) rfl (fun _ ⟨hB_bx, c202⟩ => q_move rfl) ?_
 refine HA.val (k := 7) (v := .pointer (some ⟨bx, 0, none⟩)) rfl rfl (by kernel_rfl) (by kernel_rfl) (want_none) rfl (fun _ ⟨hB_bx, c202⟩ => q_nilCheck rfl) ?_
 refine HA.val (k := 8) (v := .pointer (some ⟨bx, 1, none⟩)) rfl rfl (by kernel_rfl) (by kernel_rfl) (want_none) rfl (fun _ ⟨hB_bx, c202⟩ => q_fieldAddr fa_179_1 rfl rfl) ?_
 refine HA.val (k := 9) (v := .map (some rx_sources)) rfl rfl (by kernel_rfl) (by kernel_rfl) (want_none) rfl (fun _ ⟨hB_bx, c202⟩ => q_load to_177 rfl (Blk.cell hB_bx rfl)) ?_
 refine HA.one (k := 10) ⟨⟨hB_bx.box, (hS.box 1 rfl)⟩, (Go.Wk.at_nil _ _)⟩ (by kernel_rfl) ?_
 refine HS.call rfl (want_none) rfl (ec en_186 rfl rfl) (keys_hc Tryz.func186 rfl rfl rfl rfl hS) ?_
 rintro _ h_3 ⟨b_3, rfl, hS, hk⟩
 replace hK := hK.trans hk
 replace hM_rx_sources := hM_rx_sources.kp hk
 replace hB_bx := hB_bx.kp hk
 refine HA.one (k := 11) ⟨⟨hB_bx.box, (hS.box 2 rfl)⟩, (Go.Wk.at_nil _ _)⟩ (by kernel_rfl) ?_
 obtain ⟨cf_1, hc_1, hM⟩ := hM
 have hF_1 : FnP Tryz.prog F h_3 148 #[] #[] (fun x : TA × TA => [.agg (eA x.1).toArray, .agg (eA x.2).toArray]) (fun x => .int .i64 (cf_1 x.1 x.2)) := FnP.of en_148 (fun x h' hk_ => @HC.mono ⟨true⟩ _ _ _ _ _ _ (@addr_Cmp_walk ⟨true⟩ (allF h') [] h' x.1 x.2  (St.init h')  (fun r => r = cf_1 x.1 x.2) (hc_1 x.1 x.2)) (fun u h'' ⟨F', r, hu, k_, _, hr⟩ => ⟨by rw [hu, hr], F', k_⟩))
 replace hS : St F (Ow.box b_3 177 #[.map (some rx_sources)] :: Ow.box b_2 97 (c_api_Asked (false, (default : Ba 16)) (.bool false) (.slice none 0 0)).toArray :: Ow.box b_1 28 (eA g).toArray :: fr) h_3 := hS
 have hZ_1 := hS
 have hkz_1 := (hS.freeze).2
 replace hS := hS.freeze.1
 have hL_1 := hZ_1.lent
 refine HS.call rfl (want_none) rfl (ec en_152 rfl rfl) (slices_SortedFunc_api_Addr_k2_walk (fr := (Ow.box b_2 97 (c_api_Asked (false, (default : Ba 16)) (.bool false) (.slice none 0 0)).toArray :: Ow.box b_1 28 (eA g).toArray :: fr)) x_sources cf_1 b_3 rx_sources 148 (#[]) hS (hM_rx_sources.kp hkz_1) hL_1 (hF_1.kp hkz_1) hM) ?_
 rintro vr_1 h_4 ⟨F_1, r_1, _, rfl, hk, hS, _, _, _, hM⟩
 obtain ⟨hS, hk⟩ := hZ_1.back hk hS
 generalize (fun bz_ => F_1 bz_ ∧ ¬ (Ow.box b_3 177 #[.map (some rx_sources)]).foot bz_) = F_2 at hS hk
 replace hK := hK.trans hk
 replace hM_rx_sources := hM_rx_sources.kp hk
 replace hB_bx := hB_bx.kp hk
 refine Go.Wk.HA.re (fun h => (Blk h bx (.cells #[.int .i64 x_all, .map (some rx_sources)] 179 (0, 0))) ∧ (OwnIs h 0 28 17 eA vr_1 r_1) ∧ (Blk h b_1 (.cells (eA g).toArray 28 (0, 0)))) [] (fun L_ h_ hL_ ⟨hB_bx, c270, c202⟩ hs_ => ⟨⟨hB_bx, c202⟩, (Go.Wk.at_nil _ _)⟩) ?_
 refine HA.val (k := 12) (v := .agg (c_api_Asked g (.bool (decide (0 < x_all))) vr_1).toArray) rfl rfl (by kernel_rfl) (by kernel_rfl) (want_none) rfl (fun _ ⟨hB_bx, c270, c202⟩ => q_build tp_97 (fill_cons (cs' := (c_api_Asked g (.bool false) (.slice none 0 0)).toArray) (vc := (eA g).toArray) rfl rfl rfl (Nat.le_of_ble_eq_true rfl) rfl (fill_cons (cs' := (c_api_Asked g (.bool (decide (0 < x_all))) (.slice none 0 0)).toArray) (vc := #[.bool (decide (0 < x_all))]) rfl rfl rfl (Nat.le_of_ble_eq_true rfl) rfl (fill_cons (cs' := (c_api_Asked g (.bool (decide (0 < x_all))) vr_1).toArray) (vc := #[vr_1]) rfl (shp c270.slice).cells rfl (Nat.le_of_ble_eq_true rfl) rfl rfl)))) ?_
 refine HA.one (k := 13) ⟨⟨hB_bx.box, (hS.own 1 rfl), (hS.box 3 rfl)⟩, (Go.Wk.at_nil _ _)⟩ (by kernel_rfl) ?_
 refine HS.sto rfl (want_none) rfl (st_storeAgg (c' := (c_api_Asked g (.bool (decide (0 < x_all))) vr_1).toArray) hS (i := 2) rfl ta_97 rfl rfl rfl (List.forall_mem_cons.2 ⟨rfl, (List.forall_mem_cons.2 ⟨rfl, (List.forall_mem_cons.2 ⟨rfl, (List.forall_mem_cons.2 ⟨rfl, (List.forall_mem_cons.2 ⟨rfl, (List.forall_mem_cons.2 ⟨rfl, (List.forall_mem_cons.2 ⟨rfl, (List.forall_mem_cons.2 ⟨rfl, (List.forall_mem_cons.2 ⟨rfl, (List.forall_mem_cons.2 ⟨rfl, (List.forall_mem_cons.2 ⟨rfl, (List.forall_mem_cons.2 ⟨rfl, (List.forall_mem_cons.2 ⟨rfl, (List.forall_mem_cons.2 ⟨rfl, (List.forall_mem_cons.2 ⟨rfl, (List.forall_mem_cons.2 ⟨rfl, (List.forall_mem_cons.2 ⟨rfl, (List.forall_mem_cons.2 ⟨rfl, (List.forall_mem_cons.2 ⟨(shp (hS.own 1 rfl).slice).one, (fun _ h => by cases h)⟩)⟩)⟩)⟩)⟩)⟩)⟩)⟩)⟩)⟩)⟩)⟩)⟩)⟩)⟩)⟩)⟩)⟩)⟩) (Nat.le_of_ble_eq_true rfl) rfl) ?_
 rintro h_5 ⟨hS, hk⟩
 replace hK := hK.trans hk
 replace hM_rx_sources := hM_rx_sources.kp hk
 replace hB_bx := hB_bx.kp hk
 refine HA.nil ⟨⟨hB_bx.box, (hS.own 1 rfl), (hS.box 3 rfl)⟩, (Go.Wk.at_nil _ _)⟩ (by kernel_rfl) (thenQ_normal (?_))
 refine HW.ret (?_)
 refine ⟨.inr rfl, .agg (c_api_Asked g (.bool (decide (0 < x_all))) vr_1).toArray, res1 rfl (rca (cs := (c_api_Asked g (.bool (decide (0 < x_all))) vr_1)) ta_97 rfl rfl (Blk.cells (k := 19) (hS.box 2 rfl) rfl)), ?_⟩
 replace hS : St F_2 (Ow.own 28 17 eA vr_1 r_1 :: fr) h_5 := hS.perm2 [1] 4 rfl rfl
 exact ⟨F_2, g.1, g.2, decide (0 < x_all), r_1, vr_1, rfl, hK, hS, hM_rx_sources, hB_bx, hM⟩
def maps_DeleteFunc_map_api_Addr_int_api_Addr_int_l1 (cf_del : TA → Int → Bool) (Q : (List (TA × Int)) → Prop) (K_1 : (List (TA × Int)) → (List (TA × Int)) → Prop) (a0_2 : List (TA × Int)) (rem_1 : List (TA × Int)) : Prop :=
 (rem_1 = [] → Q a0_2) ∧ (∀ (p_1 : TA × Int) (rem_2 : List (TA × Int)), List.Perm rem_1 (p_1 :: rem_2) → ((cf_del p_1.1 p_1.2) = true → K_1 (mdel a0_2 p_1.1) rem_2) ∧ ((cf_del p_1.1 p_1.2) = false → K_1 a0_2 rem_2))
def maps_DeleteFunc_map_api_Addr_int_api_Addr_int_W (m1 : List (TA × Int)) (cf_del : TA → Int → Bool) (Q : (List (TA × Int)) → Prop) : Prop :=
 loopW (fun (K_1 : ((List (TA × Int)) × List (TA × Int)) → Prop) (s : (List (TA × Int)) × List (TA × Int)) => maps_DeleteFunc_map_api_Addr_int_api_Addr_int_l1 cf_del Q (fun a0_2 rem_1 => K_1 (a0_2, rem_1)) s.1 s.2) (m1, m1)
theorem maps_DeleteFunc_map_api_Addr_int_api_Addr_int_walk {F : Fz} {fr : List Ow} {h0 : Heap} (m1 : List (TA × Int)) (cf_del : TA → Int → Bool) (rm : Nat) (g_del : Nat) (fs_del : Array Value) (cs_del : Array Value) (hS : St F (Ow.map rm (fun (x : TA) => .agg (eA x).toArray) kI m1 :: fr) h0) (hF_cf_del : FnP Tryz.prog F h0 g_del fs_del cs_del (fun x : TA × Int => [.agg (eA x.1).toArray, .int .i64 x.2]) (fun x => .bool (cf_del x.1 x.2))) {Q : (List (TA × Int)) → Prop} (hM : maps_DeleteFunc_map_api_Addr_int_api_Addr_int_W m1 cf_del Q) :
  HC Tryz.prog 187 #[.map (some rm), .func (.func g_del) fs_del cs_del] h0 fun u h' => ∃ (F' : Fz) (a0m_1 : List (TA × Int)), u = .tuple #[] ∧ Kp F h0 F' h' ∧ St F' (Ow.map rm (fun (x : TA) => .agg (eA x).toArray) kI a0m_1 :: fr) h' ∧ (FnP Tryz.prog F' h' g_del fs_del cs_del (fun x : TA × Int => [.agg (eA x.1).toArray, .int .i64 x.2]) (fun x => .bool (cf_del x.1 x.2))) ∧ Q a0m_1 := by
 unfold maps_DeleteFunc_map_api_Addr_int_api_Addr_int_W at hM
 have hK := Kp.refl F h0
 refine HC.of_HW (n := 19) Tryz.func187 rfl rfl (Nat.le_of_ble_eq_true rfl) ?_
 refine HW.seq ?_
 refine HW.region ?_
 refine oM (.map (some rm)) rfl rfl ?_
 refine HO.eff (want_none) rfl (st_range hS (i := 0) rfl Tryz.underlying177 rfl) ?_
 rintro _ h_1 ⟨it_1, rfl, hS, hk⟩
 replace hK := hK.trans hk
 replace hF_cf_del := hF_cf_del.kp hk
 refine HO.nil (thenQ_normal (?_))
 refine HW.block ?_
 obtain ⟨I_1, m_1, hI_1, hR_1⟩ := hM
 refine HW.loop (S := (List (TA × Int)) × List (TA × Int)) (fun s f h => match s with | (a0_2, rem_1) => ∃ (F' : Fz), f 0 = .map (some rm) ∧ f 1 = .func (.func g_del) fs_del cs_del ∧ f 7 = .pointer (some ⟨it_1, 0, none⟩) ∧ Kp F h0 F' h ∧ St F' (Ow.iter it_1 rm (fun (x : TA) => .agg (eA x).toArray) kI a0_2 rem_1 :: fr) h ∧ (FnP Tryz.prog F' h g_del fs_del cs_del (fun x : TA × Int => [.agg (eA x.1).toArray, .int .i64 x.2]) (fun x => .bool (cf_del x.1 x.2))) ∧ I_1 (a0_2, rem_1)) m_1 (m1, m1) ⟨F, rfl, rfl, rfl, hK, hS, hF_cf_del, hI_1⟩ ?_
 rintro ⟨a0_2, rem_1⟩ f_1 h_2 ⟨F_1, e0, e1, e7, hK, hS, hF_cf_del, hI0⟩
 obtain ⟨K_1, hKe_1⟩ : ∃ K : (List (TA × Int)) → (List (TA × Int)) → Prop, K = fun a0_2' rem_1' => I_1 (a0_2', rem_1') ∧ m_1 (a0_2', rem_1') < m_1 (a0_2, rem_1) := ⟨_, rfl⟩
 have hM : maps_DeleteFunc_map_api_Addr_int_api_Addr_int_l1 cf_del Q K_1 a0_2 rem_1 := by rw [hKe_1]; exact hR_1 (a0_2, rem_1) hI0
 unfold maps_DeleteFunc_map_api_Addr_int_api_Addr_int_l1 at hM
 refine HW.fr [(0, .map (some rm)), (1, .func (.func g_del) fs_del cs_del), (7, .pointer (some ⟨it_1, 0, none⟩))] ⟨e0, e1, e7, trivial⟩ ?_
 refine HW.seq ?_
 refine HW.region ?_
 refine HO.eff (want_none) rfl (st_next hS (i := 0) rfl rfl) ?_
 rintro _ h_3 (⟨hrem, rfl, hEq⟩ | ⟨p_1, rem_2, hperm, rfl, hS, hk⟩)
 ·
  rw [hEq]
  replace hM := hM.1 hrem
  replace hS := hS.done 0 rfl
  refine oV (.bool false) (q_extract rfl rfl) rfl ?_
  refine HO.nil (thenQ_normal (?_))
  refine HW.seq ?_
  refine HW.condF rfl ?_
  refine HW.exit (thenQ_exit (thenQ_exit (blockQ_exit (?_))))
  refine ⟨.inl rfl, .tuple #[], res0 rfl , ?_⟩
  exact ⟨F_1, a0_2, rfl, hK, hS, hF_cf_del, hM⟩
 ·
  replace hM := hM.2 p_1 rem_2 hperm
  replace hK := hK.trans hk
  replace hF_cf_del := hF_cf_del.kp hk
  refine oV (.bool true) (q_extract rfl rfl) rfl ?_
  refine HO.nil (thenQ_normal (?_))
  refine HW.seq ?_
  refine HW.condT rfl ?_
  refine HW.skip (thenQ_normal (?_))
  refine HW.block ?_
  refine HW.seq ?_
  refine HW.region ?_
  refine oV (.tuple #[.agg (eA p_1.1).toArray, .int .i64 p_1.2]) (q_entry (hS.cu 0 rfl) rfl) rfl ?_
  refine oV (.agg (eA p_1.1).toArray) (q_extract rfl rfl) rfl ?_
  refine oV (.int .i64 p_1.2) (q_extract rfl rfl) rfl ?_
  refine HO.eff (want_none) rfl (st_alloc (c := (eA (false, (default : Ba 16))).toArray) hS tz_28 rfl) ?_
  rintro _ h_4 ⟨b_1, rfl, hS, hk⟩
  replace hK := hK.trans hk
  replace hF_cf_del := hF_cf_del.kp hk
  refine HO.sto (want_none) rfl (st_storeAgg (c' := (eA p_1.1).toArray) hS (i := 0) rfl ta_28 rfl rfl rfl (one_e_api_Addr _) (Nat.le_of_ble_eq_true rfl) rfl) ?_
  rintro h_5 ⟨hS, hk⟩
  replace hK := hK.trans hk
  replace hF_cf_del := hF_cf_del.kp hk
  refine oA (.int .i64 p_1.2) rfl rfl ?_
  refine HO.nil (thenQ_normal (?_))
  refine HW.seq ?_
  refine HW.region ?_
  refine oM (.func (.func g_del) fs_del cs_del) rfl rfl ?_
  refine oV (.agg (eA p_1.1).toArray) (q_loadAgg (cs := (eA p_1.1)) ta_28 rfl rfl (Blk.cells (k := 17) (hS.box 0 rfl) rfl)) rfl ?_
  refine oM (.int .i64 p_1.2) rfl rfl ?_
  refine HO.call (want_none) rfl (hF_cf_del.ec (p_1.1, p_1.2) rfl rfl) (hF_cf_del.hc (p_1.1, p_1.2) hS) ?_
  rintro _ h_6 ⟨rfl, hS, hk⟩
  replace hK := hK.trans hk
  replace hF_cf_del := hF_cf_del.kp hk
  refine HO.nil (thenQ_normal (?_))
  refine HW.cond (cf_del p_1.1 p_1.2) rfl (fun c_1 => ?_) (fun c_1 => ?_)
  ·
   replace hM := hM.1 c_1
   refine HW.region ?_
   refine oM (.map (some rm)) rfl rfl ?_
   refine oV (.agg (eA p_1.1).toArray) (q_loadAgg (cs := (eA p_1.1)) ta_28 rfl rfl (Blk.cells (k := 17) (hS.box 0 rfl) rfl)) rfl ?_
   refine HO.eff (want_none) rfl (st_deleteCur hS (i := 1) rfl ka_28 tmk_177 rfl rfl rfl) ?_
   rintro _ h_7 ⟨rfl, hS, hk⟩
   replace hK := hK.trans hk
   replace hF_cf_del := hF_cf_del.kp hk
   refine HO.nil (blockQ_normal (thenQ_normal (?_)))
   replace hS : St F_1 (Ow.iter it_1 rm (fun (x : TA) => .agg (eA x).toArray) kI (mdel a0_2 p_1.1) rem_2 :: fr) h_7 := hS.perm2 [1] 2 rfl rfl
   rw [hKe_1] at hM
   exact ⟨(mdel a0_2 p_1.1, rem_2), ⟨F_1, rfl, rfl, rfl, hK, hS, hF_cf_del, hM.1⟩, hM.2⟩
  ·
   replace hM := hM.2 c_1
   refine HW.skip (blockQ_normal (thenQ_normal (?_)))
   replace hS := hS.again 1 rfl
   replace hS : St F_1 (Ow.iter it_1 rm (fun (x : TA) => .agg (eA x).toArray) kI a0_2 rem_2 :: fr) h_6 := hS.perm2 [1] 2 rfl rfl
   rw [hKe_1] at hM
   exact ⟨(a0_2, rem_2), ⟨F_1, rfl, rfl, rfl, hK, hS, hF_cf_del, hM.1⟩, hM.2⟩
def query_left_tell_1_W (x : TA) (n : Int) (Q : Bool → Prop) : Prop :=
 Q (decide (n ≤ 0))
theorem query_left_tell_1_walk {F : Fz} {fr : List Ow} {h0 : Heap} (x : TA) (n : Int) (hS : St F (fr) h0)  {Q : Bool → Prop} (hM : query_left_tell_1_W x n Q) :
  HC Tryz.prog 188 #[.agg (eA x).toArray, .int .i64 n] h0 fun u h' => ∃ (F' : Fz) (r_1 : Bool), u = .bool r_1 ∧ Kp F h0 F' h' ∧ St F' (fr) h' ∧ Q r_1 := by
 unfold query_left_tell_1_W at hM
 have hK := Kp.refl F h0
 refine HC.of_HW (n := 7) Tryz.func188 rfl rfl (Nat.le_of_ble_eq_true rfl) ?_
 refine HW.seq ?_
 refine HW.region ?_
 refine HO.eff (want_none) rfl (st_box (c := (eA x).toArray) (k' := 17) hS rfl rfl) ?_
 rintro _ h_1 ⟨b_1, rfl, hS, hk⟩
 replace hK := hK.trans hk
 refine oA (.bool false) rfl rfl ?_
 refine HO.nil (thenQ_normal (?_))
 refine HW.seq ?_
 refine HW.region ?_
 refine oM (.int .i64 n) rfl rfl ?_
 refine oV (.bool (decide (n ≤ 0))) (q_leq rfl rfl) rfl ?_
 refine oA (.bool (decide (n ≤ 0))) rfl rfl ?_
 refine HO.nil (thenQ_normal (?_))
 refine HW.ret (?_)
 refine ⟨.inr rfl, .bool (decide (n ≤ 0)), res1 rfl (rt rfl), ?_⟩
 replace hS : St F (fr) h_1 := hS.perm2 [] 1 rfl rfl
 exact ⟨F, decide (n ≤ 0), rfl, hK, hS, hM⟩
def query_left_tell_l1 (x_all : Int) (Q : Int → (List (TA × Int)) → Prop) (K_1 : (List (TA × Int)) → (List (TA × Int)) → Prop) (x_1_2 : List (TA × Int)) (rem_1 : List (TA × Int)) : Prop :=
 (rem_1 = [] → ∃ cf_1 : TA → Int → Bool, (∀ x0 x1, query_left_tell_1_W x0 x1 (fun r => r = cf_1 x0 x1)) ∧ (maps_DeleteFunc_map_api_Addr_int_api_Addr_int_W x_1_2 cf_1 (fun a0m_1 => Q (max (x_all - 1) 0) a0m_1))) ∧ (∀ (p_1 : TA × Int) (rem_2 : List (TA × Int)), List.Perm rem_1 (p_1 :: rem_2) → (I64 ((mget0 x_1_2 p_1.1) - 1)) ∧ (K_1 (mset x_1_2 p_1.1 ((mget0 x_1_2 p_1.1) - 1)) rem_2))
def query_left_tell_W (x_all : Int) (x_sources : List (TA × Int)) (Q : Int → (List (TA × Int)) → Prop) : Prop :=
 (I64 (x_all - 1)) ∧ (loopW (fun (K_1 : ((List (TA × Int)) × List (TA × Int)) → Prop) (s : (List (TA × Int)) × List (TA × Int)) => query_left_tell_l1 x_all Q (fun x_1_2 rem_1 => K_1 (x_1_2, rem_1)) s.1 s.2) (x_sources, x_sources))
theorem query_left_tell_walk {F : Fz} {fr : List Ow} {h0 : Heap} (x_all : Int) (x_sources : List (TA × Int)) (bx : Nat) (rx_sources : Nat) (hS : St F (Ow.box bx 179 #[.int .i64 x_all, .map (some rx_sources)] :: Ow.map rx_sources (fun (x : TA) => .agg (eA x).toArray) kI x_sources :: fr) h0)  {Q : Int → (List (TA × Int)) → Prop} (hM : query_left_tell_W x_all x_sources Q) :
  HC Tryz.prog 126 #[.pointer (some ⟨bx, 0, none⟩)] h0 fun u h' => ∃ (F' : Fz) (x_all_1 : Int) (xm_1 : List (TA × Int)), u = .tuple #[] ∧ Kp F h0 F' h' ∧ St F' (Ow.box bx 179 #[.int .i64 x_all_1, .map (some rx_sources)] :: Ow.map rx_sources (fun (x : TA) => .agg (eA x).toArray) kI xm_1 :: fr) h' ∧ Q x_all_1 xm_1 := by
 unfold query_left_tell_W at hM
 have hK := Kp.refl F h0
 refine HC.of_HW (n := 35) Tryz.func126 rfl rfl (Nat.le_of_ble_eq_true rfl) ?_
 refine HW.seq ?_
 refine HW.region ?_
 refine oM (.pointer (some ⟨bx, 0, none⟩)) rfl rfl ?_
 refine oM (.pointer (some ⟨bx, 0, none⟩)) rfl rfl ?_
 refine oV (.pointer (some ⟨bx, 0, none⟩)) (q_nilCheck rfl) rfl ?_
 refine oV (.pointer (some ⟨bx, 0, none⟩)) (q_fieldAddr fa_179_0 rfl rfl) rfl ?_
 refine oV (.int .i64 x_all) (q_load to_3 rfl (Blk.cell (hS.box 0 rfl) rfl)) rfl ?_
 obtain ⟨ho_1, hM⟩ := hM
 refine oV (.int .i64 (x_all - 1)) (q_subN _ rfl rfl rfl ho_1.1 ho_1.2) rfl ?_
 refine oV (.int .i64 (max (x_all - 1) 0)) (q_max rfl rfl) rfl ?_
 refine oV (.pointer (some ⟨bx, 0, none⟩)) (q_nilCheck rfl) rfl ?_
 refine oV (.pointer (some ⟨bx, 0, none⟩)) (q_fieldAddr fa_179_0 rfl rfl) rfl ?_
 refine HO.sto (want_none) rfl (st_store (c' := #[.int .i64 (max (x_all - 1) 0), .map (some rx_sources)]) hS (i := 0) rfl to_3 rfl rfl rfl rfl (Nat.le_of_ble_eq_true rfl) rfl) ?_
 rintro h_1 ⟨hS, hk⟩
 replace hK := hK.trans hk
 refine HO.nil (thenQ_normal (?_))
 refine HW.seq ?_
 refine HW.seq ?_
 refine HW.region ?_
 refine oM (.pointer (some ⟨bx, 0, none⟩)) rfl rfl ?_
 refine oV (.pointer (some ⟨bx, 0, none⟩)) (q_nilCheck rfl) rfl ?_
 refine oV (.pointer (some ⟨bx, 1, none⟩)) (q_fieldAddr fa_179_1 rfl rfl) rfl ?_
 refine oV (.map (some rx_sources)) (q_load to_177 rfl (Blk.cell (hS.box 0 rfl) rfl)) rfl ?_
 refine HO.eff (want_none) rfl (st_range hS (i := 1) rfl Tryz.underlying177 rfl) ?_
 rintro _ h_2 ⟨it_1, rfl, hS, hk⟩
 replace hK := hK.trans hk
 refine HO.nil (thenQ_normal (?_))
 refine HW.block ?_
 obtain ⟨I_1, m_1, hI_1, hR_1⟩ := hM
 refine HW.loop (S := (List (TA × Int)) × List (TA × Int)) (fun s f h => match s with | (x_1_2, rem_1) => ∃ (F' : Fz), f 0 = .pointer (some ⟨bx, 0, none⟩) ∧ f 16 = .pointer (some ⟨it_1, 0, none⟩) ∧ Kp F h0 F' h ∧ St F' (Ow.box bx 179 #[.int .i64 (max (x_all - 1) 0), .map (some rx_sources)] :: Ow.iter it_1 rx_sources (fun (x : TA) => .agg (eA x).toArray) kI x_1_2 rem_1 :: fr) h ∧ I_1 (x_1_2, rem_1)) m_1 (x_sources, x_sources) ⟨F, rfl, rfl, hK, hS, hI_1⟩ ?_
 rintro ⟨x_1_2, rem_1⟩ f_1 h_3 ⟨F_1, e0, e16, hK, hS, hI0⟩
 obtain ⟨K_1, hKe_1⟩ : ∃ K : (List (TA × Int)) → (List (TA × Int)) → Prop, K = fun x_1_2' rem_1' => I_1 (x_1_2', rem_1') ∧ m_1 (x_1_2', rem_1') < m_1 (x_1_2, rem_1) := ⟨_, rfl⟩
 have hM : query_left_tell_l1 x_all Q K_1 x_1_2 rem_1 := by rw [hKe_1]; exact hR_1 (x_1_2, rem_1) hI0
 unfold query_left_tell_l1 at hM
 refine HW.fr [(0, .pointer (some ⟨bx, 0, none⟩)), (16, .pointer (some ⟨it_1, 0, none⟩))] ⟨e0, e16, trivial⟩ ?_
 refine HW.seq ?_
 refine HW.region ?_
 refine HO.eff (want_none) rfl (st_next hS (i := 1) rfl rfl) ?_
 rintro _ h_4 (⟨hrem, rfl, hEq⟩ | ⟨p_1, rem_2, hperm, rfl, hS, hk⟩)
 ·
  rw [hEq]
  replace hM := hM.1 hrem
  replace hS := hS.done 1 rfl
  refine oV (.bool false) (q_extract rfl rfl) rfl ?_
  refine HO.nil (thenQ_normal (?_))
  refine HW.seq ?_
  refine HW.condF rfl ?_
  refine HW.exit (thenQ_exit (thenQ_exit (blockQ_exit (thenQ_normal (?_)))))
  refine HW.region ?_
  refine oM (.pointer (some ⟨bx, 0, none⟩)) rfl rfl ?_
  refine oV (.pointer (some ⟨bx, 0, none⟩)) (q_nilCheck rfl) rfl ?_
  refine oV (.pointer (some ⟨bx, 1, none⟩)) (q_fieldAddr fa_179_1 rfl rfl) rfl ?_
  refine oV (.map (some rx_sources)) (q_load to_177 rfl (Blk.cell (hS.box 0 rfl) rfl)) rfl ?_
  obtain ⟨cf_1, hc_1, hM⟩ := hM
  have hF_1 : FnP Tryz.prog F_1 h_3 188 #[] #[] (fun x : TA × Int => [.agg (eA x.1).toArray, .int .i64 x.2]) (fun x => .bool (cf_1 x.1 x.2)) := FnP.of en_188 (fun x h' hk_ => @HC.mono ⟨true⟩ _ _ _ _ _ _ (@query_left_tell_1_walk ⟨true⟩ (allF h') [] h' x.1 x.2  (St.init h')  (fun r => r = cf_1 x.1 x.2) (hc_1 x.1 x.2)) (fun u h'' ⟨F', r, hu, k_, _, hr⟩ => ⟨by rw [hu, hr], F', k_⟩))
  replace hS : St F_1 (Ow.map rx_sources (fun (x : TA) => .agg (eA x).toArray) kI x_1_2 :: Ow.box bx 179 #[.int .i64 (max (x_all - 1) 0), .map (some rx_sources)] :: fr) h_3 := hS.perm2 [1, 0] 2 rfl rfl
  refine HO.call (want_none) rfl (ec en_187 rfl rfl) (maps_DeleteFunc_map_api_Addr_int_api_Addr_int_walk (fr := (Ow.box bx 179 #[.int .i64 (max (x_all - 1) 0), .map (some rx_sources)] :: fr)) x_1_2 cf_1 rx_sources 188 (#[]) (#[]) hS hF_1 hM) ?_
  rintro _ h_5 ⟨F_2, a0m_1, rfl, hk, hS, _, hM⟩
  replace hK := hK.trans hk
  refine HO.nil (?_)
  refine ⟨.inl rfl, .tuple #[], res0 rfl , ?_⟩
  replace hS : St F_2 (Ow.box bx 179 #[.int .i64 (max (x_all - 1) 0), .map (some rx_sources)] :: Ow.map rx_sources (fun (x : TA) => .agg (eA x).toArray) kI a0m_1 :: fr) h_5 := hS.perm2 [1, 0] 2 rfl rfl
  exact ⟨F_2, max (x_all - 1) 0, a0m_1, rfl, hK, hS, hM⟩
 ·
  replace hM := hM.2 p_1 rem_2 hperm
  replace hK := hK.trans hk
  refine oV (.bool true) (q_extract rfl rfl) rfl ?_
  refine HO.nil (thenQ_normal (?_))
  refine HW.seq ?_
  refine HW.condT rfl ?_
  refine HW.skip (thenQ_normal (?_))
  refine HW.block ?_
  refine HW.seq ?_
  refine HW.region ?_
  refine oV (.tuple #[.agg (eA p_1.1).toArray, .int .i64 p_1.2]) (q_entry (hS.cu 1 rfl) rfl) rfl ?_
  refine oV (.agg (eA p_1.1).toArray) (q_extract rfl rfl) rfl ?_
  refine HO.eff (want_none) rfl (st_alloc (c := (eA (false, (default : Ba 16))).toArray) hS tz_28 rfl) ?_
  rintro _ h_6 ⟨b_1, rfl, hS, hk⟩
  replace hK := hK.trans hk
  refine HO.sto (want_none) rfl (st_storeAgg (c' := (eA p_1.1).toArray) hS (i := 0) rfl ta_28 rfl rfl rfl (one_e_api_Addr _) (Nat.le_of_ble_eq_true rfl) rfl) ?_
  rintro h_7 ⟨hS, hk⟩
  replace hK := hK.trans hk
  refine HO.nil (thenQ_normal (?_))
  refine HW.regionA 10 mixed (fun h => (Blk h b_1 (.cells (eA p_1.1).toArray 28 (0, 0))) ∧ (Blk h bx (.cells #[.int .i64 (max (x_all - 1) 0), .map (some rx_sources)] 179 (0, 0)))) [(9, fun h => (Phi h rx_sources (fun (x : TA) => .agg (eA x).toArray) kI p_1.1 (mget0 x_1_2 p_1.1)))] (by kernel_rfl) ?_
  refine HA.val (k := 0) (v := .pointer (some ⟨bx, 0, none⟩)) rfl rfl (by kernel_rfl) (by kernel_rfl) (want_none) rfl (fun _ ⟨c309, c307⟩ => q_move rfl) ?_
  refine HA.val (k := 1) (v := .pointer (some ⟨bx, 0, none⟩)) rfl rfl (by kernel_rfl) (by kernel_rfl) (want_none) rfl (fun _ ⟨c309, c307⟩ => q_nilCheck rfl) ?_
  refine HA.val (k := 2) (v := .pointer (some ⟨bx, 1, none⟩)) rfl rfl (by kernel_rfl) (by kernel_rfl) (want_none) rfl (fun _ ⟨c309, c307⟩ => q_fieldAddr fa_179_1 rfl rfl) ?_
  refine HA.val (k := 3) (v := .map (some rx_sources)) rfl rfl (by kernel_rfl) (by kernel_rfl) (want_none) rfl (fun _ ⟨c309, c307⟩ => q_load to_177 rfl (Blk.cell c307 rfl)) ?_
  refine HA.val (k := 4) (v := .agg (eA p_1.1).toArray) rfl rfl (by kernel_rfl) (by kernel_rfl) (want_none) rfl (fun _ ⟨c309, c307⟩ => q_loadAgg (cs := (eA p_1.1)) ta_28 rfl rfl (Blk.cells (k := 17) c309 rfl)) ?_
  refine Go.Wk.HA.valN (k := 5) (v := .int .i64 (mget0 x_1_2 p_1.1)) 0 9 (fun h => (Phi h rx_sources (fun (x : TA) => .agg (eA x).toArray) kI p_1.1 (mget0 x_1_2 p_1.1))) rfl rfl (by kernel_rfl) (by kernel_rfl) (want_none) rfl rfl (by kernel_rfl) (fun _ ⟨c309, c307⟩ c308 => q_lookupPhi (k := p_1.1) ka_28 tmk_177 rfl c308 rfl rfl) ?_
  obtain ⟨ho_2, hM⟩ := hM
  refine HA.val (k := 6) (v := .int .i64 ((mget0 x_1_2 p_1.1) - 1)) rfl rfl (by kernel_rfl) (by kernel_rfl) (want_none) rfl (fun _ ⟨c309, c307⟩ => q_subN _ rfl rfl rfl ho_2.1 ho_2.2) ?_
  refine HA.one (k := 7) ⟨⟨(hS.box 0 rfl), (hS.box 1 rfl)⟩, (at_now (Phi.of_cur (hS.cu 2 rfl)) (Go.Wk.at_nil _ _))⟩ (by kernel_rfl) ?_
  refine HS.eff rfl (want_none) rfl (st_mapEntryCur hS (i := 2) rfl ka_28 tmk_177 rfl rfl) ?_
  rintro _ h_8 ⟨born_1, rfl, hS, hk⟩
  replace hK := hK.trans hk
  refine HA.val (k := 8) (v := .int .i64 (born_1 : Int)) rfl rfl (by kernel_rfl) (by kernel_rfl) (want_none) rfl (fun _ ⟨c309, c307⟩ => q_extract rfl rfl) ?_
  refine HA.one (k := 9) ⟨⟨(hS.box 0 rfl), (hS.box 1 rfl)⟩, (at_now (Phi.of_iat (hS.ia 2 rfl)) (Go.Wk.at_nil _ _))⟩ (by kernel_rfl) ?_
  refine HS.sto rfl (want_none) rfl (st_entryStoreCur (v := (mget0 x_1_2 p_1.1) - 1) hS (i := 2) rfl rfl rfl rfl) ?_
  rintro h_9 ⟨hS, hk⟩
  replace hK := hK.trans hk
  refine HA.nil ⟨⟨(hS.box 0 rfl), (hS.box 1 rfl)⟩, (at_done (by kernel_rfl) (Go.Wk.at_nil _ _))⟩ (by kernel_rfl) (blockQ_normal (thenQ_normal (?_)))
  replace hS : St F_1 (Ow.box bx 179 #[.int .i64 (max (x_all - 1) 0), .map (some rx_sources)] :: Ow.iter it_1 rx_sources (fun (x : TA) => .agg (eA x).toArray) kI (mset x_1_2 p_1.1 ((mget0 x_1_2 p_1.1) - 1)) rem_2 :: fr) h_9 := hS.perm2 [1, 2] 3 rfl rfl
  rw [hKe_1] at hM
  exact ⟨(mset x_1_2 p_1.1 ((mget0 x_1_2 p_1.1) - 1), rem_2), ⟨F_1, rfl, rfl, hK, hS, hM.1⟩, hM.2⟩
def clock_Clock_Cut_string_W (c_at : List (Str × Int)) (key : Str) (Q : Bool → (List (Str × Int)) → Prop) : Prop :=
 Q ((mget c_at key).isSome) (mdel c_at key)
theorem clock_Clock_Cut_string_walk {F : Fz} {fr : List Ow} {h0 : Heap} (c_at : List (Str × Int)) (key : Str) (bc : Nat) (rc_at : Nat) (hS : St F (Ow.box bc 222 #[.map (some rc_at)] :: Ow.map rc_at kT kI c_at :: fr) h0)  {Q : Bool → (List (Str × Int)) → Prop} (hM : clock_Clock_Cut_string_W c_at key Q) :
  HC Tryz.prog 114 #[.pointer (some ⟨bc, 0, none⟩), .string (bs key)] h0 fun u h' => ∃ (F' : Fz) (r_1 : Bool) (cm_1 : List (Str × Int)), u = .bool r_1 ∧ Kp F h0 F' h' ∧ St F' (Ow.box bc 222 #[.map (some rc_at)] :: Ow.map rc_at kT kI cm_1 :: fr) h' ∧ Q r_1 cm_1 := by
 unfold clock_Clock_Cut_string_W at hM
 have hK := Kp.refl F h0
 refine HC.of_HW (n := 24) Tryz.func114 rfl rfl (Nat.le_of_ble_eq_true rfl) ?_
 refine HW.seq ?_
 refine HW.region ?_
 refine oA (.bool false) rfl rfl ?_
 refine HO.nil (thenQ_normal (?_))
 refine HW.seq ?_
 refine HW.seq ?_
 refine HW.region ?_
 refine oM (.pointer (some ⟨bc, 0, none⟩)) rfl rfl ?_
 refine oV (.bool false) (q_eqlPnil Tryz.underlying163 rfl rfl rfl) rfl ?_
 refine HO.nil (thenQ_normal (?_))
 refine HW.condF rfl ?_
 refine HW.skip (thenQ_normal (?_))
 refine HW.seq ?_
 refine HW.region ?_
 refine oM (.pointer (some ⟨bc, 0, none⟩)) rfl rfl ?_
 refine oV (.pointer (some ⟨bc, 0, none⟩)) (q_nilCheck rfl) rfl ?_
 refine oV (.pointer (some ⟨bc, 0, none⟩)) (q_fieldAddr fa_222_0 rfl rfl) rfl ?_
 refine oV (.map (some rc_at)) (q_load to_220 rfl (Blk.cell (hS.box 0 rfl) rfl)) rfl ?_
 refine oM (.string (bs key)) rfl rfl ?_
 refine oV (.tuple #[.int .i64 (mget0 c_at key), .bool ((mget c_at key).isSome)]) ((q_lookupOk (k := key) ka_9 tmk_220 (hS.mp 1 rfl) rfl rfl).of_eq (congrArg (fun v => Value.tuple #[v, _]) (mval0 (z := .int .i64 0) rfl))) rfl ?_
 refine oM (.tuple #[.int .i64 (mget0 c_at key), .bool ((mget c_at key).isSome)]) rfl rfl ?_
 refine oV (.int .i64 (mget0 c_at key)) (q_extract rfl rfl) rfl ?_
 refine oV (.bool ((mget c_at key).isSome)) (q_extract rfl rfl) rfl ?_
 refine oA (.int .i64 (mget0 c_at key)) rfl rfl ?_
 refine oA (.bool ((mget c_at key).isSome)) rfl rfl ?_
 refine HO.nil (thenQ_normal (?_))
 refine HW.seq ?_
 refine HW.region ?_
 refine oM (.pointer (some ⟨bc, 0, none⟩)) rfl rfl ?_
 refine oV (.pointer (some ⟨bc, 0, none⟩)) (q_nilCheck rfl) rfl ?_
 refine oV (.pointer (some ⟨bc, 0, none⟩)) (q_fieldAddr fa_222_0 rfl rfl) rfl ?_
 refine oV (.map (some rc_at)) (q_load to_220 rfl (Blk.cell (hS.box 0 rfl) rfl)) rfl ?_
 refine oM (.string (bs key)) rfl rfl ?_
 refine HO.eff (want_none) rfl (st_deleteK (k := key) hS (i := 1) rfl ka_9 tmk_220 rfl rfl rfl) ?_
 rintro _ h_1 ⟨rfl, hS, hk⟩
 replace hK := hK.trans hk
 refine HO.nil (thenQ_normal (?_))
 refine HW.seq ?_
 refine HW.region ?_
 refine oM (.bool ((mget c_at key).isSome)) rfl rfl ?_
 refine oA (.bool ((mget c_at key).isSome)) rfl rfl ?_
 refine HO.nil (thenQ_normal (?_))
 refine HW.ret (?_)
 refine ⟨.inr rfl, .bool ((mget c_at key).isSome), res1 rfl (rt rfl), ?_⟩
 exact ⟨F, (mget c_at key).isSome, mdel c_at key, rfl, hK, hS, hM⟩
def query_Queries_cancel_W (q_now : Int) (q_at_at : List (Str × Int)) (q_first : Int) (q_open : List (TA × (Nat × Nat) × TqL)) (g : TA) (Q : Bool → Int → (List (Str × Int)) → Int → (List (TA × (Nat × Nat) × TqL)) → Prop) : Prop :=
 (((mget q_open g).isSome) = true → query_key_W g (fun r_2 => clock_Clock_Cut_string_W q_at_at r_2 (fun r_3 cm_1 => Q ((mget q_open g).isSome) q_now cm_1 q_first (mdel q_open g)))) ∧ (((mget q_open g).isSome) = false → Q ((mget q_open g).isSome) q_now q_at_at q_first (mdel q_open g))
theorem query_Queries_cancel_walk {F : Fz} {fr : List Ow} {h0 : Heap} (q_now : Int) (q_at_at : List (Str × Int)) (q_first : Int) (q_open : List (TA × (Nat × Nat) × TqL)) (g : TA) (bq : Nat) (bq_at : Nat) (rq_at_at : Nat) (rq_open : Nat) (hS : St F (Ow.box bq 167 #[.int .i64 q_now, .pointer (some ⟨bq_at, 0, none⟩), .int .i64 q_first, .map (some rq_open)] :: Ow.box bq_at 222 #[.map (some rq_at_at)] :: Ow.map rq_at_at kT kI q_at_at :: Ow.pm rq_open (fun (x : TA) => .agg (eA x).toArray) pv_query_left th_query_left q_open none :: fr) h0)  {Q : Bool → Int → (List (Str × Int)) → Int → (List (TA × (Nat × Nat) × TqL)) → Prop} (hM : query_Queries_cancel_W q_now q_at_at q_first q_open g Q) :
  HC Tryz.prog 121 #[.pointer (some ⟨bq, 0, none⟩), .agg (eA g).toArray] h0 fun u h' => ∃ (F' : Fz) (r_1 : Bool) (q_now_1 : Int) (qm_1 : List (Str × Int)) (q_first_1 : Int) (qm_2 : List (TA × (Nat × Nat) × TqL)), u = .bool r_1 ∧ Kp F h0 F' h' ∧ St F' (Ow.box bq 167 #[.int .i64 q_now_1, .pointer (some ⟨bq_at, 0, none⟩), .int .i64 q_first_1, .map (some rq_open)] :: Ow.box bq_at 222 #[.map (some rq_at_at)] :: Ow.map rq_at_at kT kI qm_1 :: Ow.pm rq_open (fun (x : TA) => .agg (eA x).toArray) pv_query_left th_query_left qm_2 none :: fr) h' ∧ Q r_1 q_now_1 qm_1 q_first_1 qm_2 := by
 unfold query_Queries_cancel_W at hM
 have hK := Kp.refl F h0
 refine HC.of_HW (n := 30) Tryz.func121 rfl rfl (Nat.le_of_ble_eq_true rfl) ?_
 refine HW.seq ?_
 refine HW.region ?_
 refine HO.eff (want_none) rfl (st_box (c := (eA g).toArray) (k' := 17) hS rfl rfl) ?_
 rintro _ h_1 ⟨b_1, rfl, hS, hk⟩
 replace hK := hK.trans hk
 refine oA (.bool false) rfl rfl ?_
 refine HO.nil (thenQ_normal (?_))
 refine HW.seq ?_
 refine HW.regionA 11 mixed (fun h => (Blk h b_1 (.cells (eA g).toArray 28 (0, 0))) ∧ (Blk h bq (.cells #[.int .i64 q_now, .pointer (some ⟨bq_at, 0, none⟩), .int .i64 q_first, .map (some rq_open)] 167 (0, 0))) ∧ (Blk h bq_at (.cells #[.map (some rq_at_at)] 222 (0, 0))) ∧ (MapIs h rq_at_at kT kI q_at_at) ∧ (MapIs h rq_open (fun (x : TA) => .agg (eA x).toArray) (pmV (β := TqL) pv_query_left) q_open)) [] (by kernel_rfl) ?_
 refine HA.val (k := 0) (v := .pointer (some ⟨bq, 0, none⟩)) rfl rfl (by kernel_rfl) (by kernel_rfl) (want_none) rfl (fun _ ⟨c213, c1, c2, c3, c4⟩ => q_move rfl) ?_
 refine HA.val (k := 1) (v := .pointer (some ⟨bq, 0, none⟩)) rfl rfl (by kernel_rfl) (by kernel_rfl) (want_none) rfl (fun _ ⟨c213, c1, c2, c3, c4⟩ => q_nilCheck rfl) ?_
 refine HA.val (k := 2) (v := .pointer (some ⟨bq, 3, none⟩)) rfl rfl (by kernel_rfl) (by kernel_rfl) (want_none) rfl (fun _ ⟨c213, c1, c2, c3, c4⟩ => q_fieldAddr fa_167_3 rfl rfl) ?_
 refine HA.val (k := 3) (v := .map (some rq_open)) rfl rfl (by kernel_rfl) (by kernel_rfl) (want_none) rfl (fun _ ⟨c213, c1, c2, c3, c4⟩ => q_load to_165 rfl (Blk.cell c1 rfl)) ?_
 refine HA.val (k := 4) (v := .agg (eA g).toArray) rfl rfl (by kernel_rfl) (by kernel_rfl) (want_none) rfl (fun _ ⟨c213, c1, c2, c3, c4⟩ => q_loadAgg (cs := (eA g)) ta_28 rfl rfl (Blk.cells (k := 17) c213 rfl)) ?_
 refine HA.val (k := 5) (v := .tuple #[mval (pmV (β := TqL) pv_query_left) (.pointer none) q_open g, .bool ((mget q_open g).isSome)]) rfl rfl (by kernel_rfl) (by kernel_rfl) (want_none) rfl (fun _ ⟨c213, c1, c2, c3, c4⟩ => q_lookupOk (k := g) ka_28 tmk_165 c4 rfl rfl) ?_
 refine HA.val (k := 6) (v := .tuple #[mval (pmV (β := TqL) pv_query_left) (.pointer none) q_open g, .bool ((mget q_open g).isSome)]) rfl rfl (by kernel_rfl) (by kernel_rfl) (want_none) rfl (fun _ ⟨c213, c1, c2, c3, c4⟩ => q_move rfl) ?_
 refine HA.val (k := 7) (v := mval (pmV (β := TqL) pv_query_left) (.pointer none) q_open g) rfl rfl (by kernel_rfl) (by kernel_rfl) (want_none) rfl (fun _ ⟨c213, c1, c2, c3, c4⟩ => q_extract rfl rfl) ?_
 refine HA.val (k := 8) (v := .bool ((mget q_open g).isSome)) rfl rfl (by kernel_rfl) (by kernel_rfl) (want_none) rfl (fun _ ⟨c213, c1, c2, c3, c4⟩ => q_extract rfl rfl) ?_
 refine HA.val (k := 9) (v := mval (pmV (β := TqL) pv_query_left) (.pointer none) q_open g) rfl rfl (by kernel_rfl) (by kernel_rfl) (want_none) rfl (fun _ ⟨c213, c1, c2, c3, c4⟩ => q_assign rfl) ?_
 refine HA.val (k := 10) (v := .bool ((mget q_open g).isSome)) rfl rfl (by kernel_rfl) (by kernel_rfl) (want_none) rfl (fun _ ⟨c213, c1, c2, c3, c4⟩ => q_assign rfl) ?_
 refine HA.nil ⟨⟨(hS.box 0 rfl), (hS.box 1 rfl), (hS.box 2 rfl), (hS.mp 3 rfl), (hS.pmi 4 rfl).map⟩, (Go.Wk.at_nil _ _)⟩ (by kernel_rfl) (thenQ_normal (?_))
 refine HW.seq ?_
 refine HW.regionA 6 mixed (fun h => (Blk h b_1 (.cells (eA g).toArray 28 (0, 0))) ∧ (Blk h bq (.cells #[.int .i64 q_now, .pointer (some ⟨bq_at, 0, none⟩), .int .i64 q_first, .map (some rq_open)] 167 (0, 0)))) [] (by kernel_rfl) ?_
 refine HA.val (k := 0) (v := .pointer (some ⟨bq, 0, none⟩)) rfl rfl (by kernel_rfl) (by kernel_rfl) (want_none) rfl (fun _ ⟨c213, c1⟩ => q_move rfl) ?_
 refine HA.val (k := 1) (v := .pointer (some ⟨bq, 0, none⟩)) rfl rfl (by kernel_rfl) (by kernel_rfl) (want_none) rfl (fun _ ⟨c213, c1⟩ => q_nilCheck rfl) ?_
 refine HA.val (k := 2) (v := .pointer (some ⟨bq, 3, none⟩)) rfl rfl (by kernel_rfl) (by kernel_rfl) (want_none) rfl (fun _ ⟨c213, c1⟩ => q_fieldAddr fa_167_3 rfl rfl) ?_
 refine HA.val (k := 3) (v := .map (some rq_open)) rfl rfl (by kernel_rfl) (by kernel_rfl) (want_none) rfl (fun _ ⟨c213, c1⟩ => q_load to_165 rfl (Blk.cell c1 rfl)) ?_
 refine HA.val (k := 4) (v := .agg (eA g).toArray) rfl rfl (by kernel_rfl) (by kernel_rfl) (want_none) rfl (fun _ ⟨c213, c1⟩ => q_loadAgg (cs := (eA g)) ta_28 rfl rfl (Blk.cells (k := 17) c213 rfl)) ?_
 refine HA.one (k := 5) ⟨⟨(hS.box 0 rfl), (hS.box 1 rfl)⟩, (Go.Wk.at_nil _ _)⟩ (by kernel_rfl) ?_
 refine HS.eff rfl (want_none) rfl (st_pmDelete (k := g) hS (i := 4) rfl ka_28 tmk_165 rfl rfl rfl) ?_
 rintro _ h_2 ⟨rfl, hS, hk⟩
 replace hK := hK.trans hk
 refine HA.nil ⟨⟨(hS.box 0 rfl), (hS.box 1 rfl)⟩, (Go.Wk.at_nil _ _)⟩ (by kernel_rfl) (thenQ_normal (?_))
 refine HW.seq ?_
 refine HW.seq ?_
 refine HW.region ?_
 refine oM (.bool ((mget q_open g).isSome)) rfl rfl ?_
 refine HO.nil (thenQ_normal (?_))
 refine HW.cond ((mget q_open g).isSome) rfl (fun c_1 => ?_) (fun c_1 => ?_)
 ·
  replace hM := hM.1 c_1
  refine HW.regionA 7 mixed (fun h => (Blk h b_1 (.cells (eA g).toArray 28 (0, 0))) ∧ (Blk h bq (.cells #[.int .i64 q_now, .pointer (some ⟨bq_at, 0, none⟩), .int .i64 q_first, .map (some rq_open)] 167 (0, 0)))) [] (by kernel_rfl) ?_
  refine HA.val (k := 0) (v := .pointer (some ⟨bq, 0, none⟩)) rfl rfl (by kernel_rfl) (by kernel_rfl) (want_none) rfl (fun _ ⟨c213, c1⟩ => q_move rfl) ?_
  refine HA.val (k := 1) (v := .pointer (some ⟨bq, 0, none⟩)) rfl rfl (by kernel_rfl) (by kernel_rfl) (want_none) rfl (fun _ ⟨c213, c1⟩ => q_nilCheck rfl) ?_
  refine HA.val (k := 2) (v := .pointer (some ⟨bq, 1, none⟩)) rfl rfl (by kernel_rfl) (by kernel_rfl) (want_none) rfl (fun _ ⟨c213, c1⟩ => q_fieldAddr fa_167_1 rfl rfl) ?_
  refine HA.val (k := 3) (v := .pointer (some ⟨bq_at, 0, none⟩)) rfl rfl (by kernel_rfl) (by kernel_rfl) (want_none) rfl (fun _ ⟨c213, c1⟩ => q_load to_163 rfl (Blk.cell c1 rfl)) ?_
  refine HA.val (k := 4) (v := .agg (eA g).toArray) rfl rfl (by kernel_rfl) (by kernel_rfl) (want_none) rfl (fun _ ⟨c213, c1⟩ => q_loadAgg (cs := (eA g)) ta_28 rfl rfl (Blk.cells (k := 17) c213 rfl)) ?_
  refine HA.one (k := 5) ⟨⟨(hS.box 0 rfl), (hS.box 1 rfl)⟩, (Go.Wk.at_nil _ _)⟩ (by kernel_rfl) ?_
  refine HS.call rfl (want_none) rfl (ec en_117 rfl rfl) (query_key_walk (fr := (Ow.box b_1 28 (eA g).toArray :: Ow.box bq 167 #[.int .i64 q_now, .pointer (some ⟨bq_at, 0, none⟩), .int .i64 q_first, .map (some rq_open)] :: Ow.box bq_at 222 #[.map (some rq_at_at)] :: Ow.map rq_at_at kT kI q_at_at :: Ow.pm rq_open (fun (x : TA) => .agg (eA x).toArray) pv_query_left th_query_left (mdel q_open g) none :: fr)) g hS hM) ?_
  rintro _ h_3 ⟨F_1, r_2, rfl, hk, hS, hM⟩
  replace hK := hK.trans hk
  refine HA.one (k := 6) ⟨⟨(hS.box 0 rfl), (hS.box 1 rfl)⟩, (Go.Wk.at_nil _ _)⟩ (by kernel_rfl) ?_
  replace hS : St F_1 (Ow.box bq_at 222 #[.map (some rq_at_at)] :: Ow.map rq_at_at kT kI q_at_at :: Ow.box b_1 28 (eA g).toArray :: Ow.box bq 167 #[.int .i64 q_now, .pointer (some ⟨bq_at, 0, none⟩), .int .i64 q_first, .map (some rq_open)] :: Ow.pm rq_open (fun (x : TA) => .agg (eA x).toArray) pv_query_left th_query_left (mdel q_open g) none :: fr) h_3 := hS.perm2 [2, 3, 0, 1, 4] 5 rfl rfl
  refine HS.call rfl (want_none) rfl (ec en_114 rfl rfl) (clock_Clock_Cut_string_walk (fr := (Ow.box b_1 28 (eA g).toArray :: Ow.box bq 167 #[.int .i64 q_now, .pointer (some ⟨bq_at, 0, none⟩), .int .i64 q_first, .map (some rq_open)] :: Ow.pm rq_open (fun (x : TA) => .agg (eA x).toArray) pv_query_left th_query_left (mdel q_open g) none :: fr)) q_at_at r_2 bq_at rq_at_at hS hM) ?_
  rintro _ h_4 ⟨F_2, r_3, cm_1, rfl, hk, hS, hM⟩
  replace hK := hK.trans hk
  refine HA.nil ⟨⟨(hS.box 2 rfl), (hS.box 3 rfl)⟩, (Go.Wk.at_nil _ _)⟩ (by kernel_rfl) (thenQ_normal (?_))
  refine HW.seq ?_
  refine HW.region ?_
  refine oM (.bool ((mget q_open g).isSome)) rfl rfl ?_
  refine oA (.bool ((mget q_open g).isSome)) rfl rfl ?_
  refine HO.nil (thenQ_normal (?_))
  refine HW.ret (?_)
  refine ⟨.inr rfl, .bool ((mget q_open g).isSome), res1 rfl (rt rfl), ?_⟩
  replace hS : St F_2 (Ow.box bq 167 #[.int .i64 q_now, .pointer (some ⟨bq_at, 0, none⟩), .int .i64 q_first, .map (some rq_open)] :: Ow.box bq_at 222 #[.map (some rq_at_at)] :: Ow.map rq_at_at kT kI cm_1 :: Ow.pm rq_open (fun (x : TA) => .agg (eA x).toArray) pv_query_left th_query_left (mdel q_open g) none :: fr) h_4 := hS.perm2 [3, 0, 1, 4] 5 rfl rfl
  exact ⟨F_2, (mget q_open g).isSome, q_now, cm_1, q_first, mdel q_open g, rfl, hK, hS, hM⟩
 ·
  replace hM := hM.2 c_1
  refine HW.skip (thenQ_normal (?_))
  refine HW.seq ?_
  refine HW.region ?_
  refine oM (.bool ((mget q_open g).isSome)) rfl rfl ?_
  refine oA (.bool ((mget q_open g).isSome)) rfl rfl ?_
  refine HO.nil (thenQ_normal (?_))
  refine HW.ret (?_)
  refine ⟨.inr rfl, .bool ((mget q_open g).isSome), res1 rfl (rt rfl), ?_⟩
  replace hS : St F (Ow.box bq 167 #[.int .i64 q_now, .pointer (some ⟨bq_at, 0, none⟩), .int .i64 q_first, .map (some rq_open)] :: Ow.box bq_at 222 #[.map (some rq_at_at)] :: Ow.map rq_at_at kT kI q_at_at :: Ow.pm rq_open (fun (x : TA) => .agg (eA x).toArray) pv_query_left th_query_left (mdel q_open g) none :: fr) h_2 := hS.perm2 [1, 2, 3, 4] 5 rfl rfl
  exact ⟨F, (mget q_open g).isSome, q_now, q_at_at, q_first, mdel q_open g, rfl, hK, hS, hM⟩
def query_Queries_Due_j2 (r_3 : List TA) (q_0_2 : Int) (q_2_2 : Int) (out_1 : List T_api_Asked) (n_1 : Int) (K_1 : Int → (List (Str × Int)) → Int → (List (TA × (Nat × Nat) × TqL)) → (List T_api_Asked) → Int → Prop) (r_0_1 : Bool) (r_1_1 : Ba 16) (r_17_1 : Bool) (r_18_1 : List TA) (vr_18_1 : Value) (cm_1 : List (Str × Int)) (q_3_3 : List (TA × (Nat × Nat) × TqL)) (b_5 : Bool) : Prop :=
 (b_5 = true → query_Queries_cancel_W q_0_2 cm_1 q_2_2 q_3_3 (gi r_3 n_1) (fun r_7 q_now_4 qm_7 q_first_4 qm_8 => (I64 (n_1 + 1)) ∧ (K_1 q_now_4 qm_7 q_first_4 qm_8 (out_1 ++ ([((r_0_1, r_1_1), r_17_1, (vr_18_1, r_18_1))] : List T_api_Asked)) (n_1 + 1)))) ∧ (b_5 = false → (I64 (n_1 + 1)) ∧ (K_1 q_0_2 cm_1 q_2_2 q_3_3 (out_1 ++ ([((r_0_1, r_1_1), r_17_1, (vr_18_1, r_18_1))] : List T_api_Asked)) (n_1 + 1)))
def query_Queries_Due_j1 (t : T_api_Tune) (r_1 : Int) (r_3 : List TA) (q_0_2 : Int) (q_1_0_2 : List (Str × Int)) (q_2_2 : Int) (q_3_2 : List (TA × (Nat × Nat) × TqL)) (out_1 : List T_api_Asked) (n_1 : Int) (K_1 : Int → (List (Str × Int)) → Int → (List (TA × (Nat × Nat) × TqL)) → (List T_api_Asked) → Int → Prop) (b_3 : Bool) : Prop :=
 (b_3 = true → (I64 (n_1 + 1)) ∧ (K_1 q_0_2 q_1_0_2 q_2_2 q_3_2 out_1 (n_1 + 1))) ∧ (b_3 = false → (((mget q_3_2 (gi r_3 n_1)).isSome) = true → query_left_asked_W (((mget0 q_3_2 (gi r_3 n_1)).2).1) (((mget0 q_3_2 (gi r_3 n_1)).2).2) (gi r_3 n_1) (fun r_0_1 r_1_1 r_17_1 r_18_1 => ∀ vr_18_1 : Value, (((out_1.length + ([((r_0_1, r_1_1), r_17_1, (vr_18_1, r_18_1))] : List T_api_Asked).length) * 48 ≤ 140737488355328) ∧ ((I64 (r_1 + t.2.2.2.1)) ∧ (query_key_W (gi r_3 n_1) (fun r_5 => clock_Clock_Set_string_W q_1_0_2 r_5 (r_1 + t.2.2.2.1) (fun r_6 cm_1 => query_left_tell_W (((mget0 q_3_2 (gi r_3 n_1)).2).1) (((mget0 q_3_2 (gi r_3 n_1)).2).2) (fun x_all_1 xm_1 => (x_all_1 = 0 → query_Queries_Due_j2 r_3 q_0_2 q_2_2 out_1 n_1 K_1 r_0_1 r_1_1 r_17_1 r_18_1 vr_18_1 cm_1 (mset q_3_2 (gi r_3 n_1) ((mget0 q_3_2 (gi r_3 n_1)).1, (x_all_1, xm_1))) (decide ((xm_1.length : Int) = 0))) ∧ (¬ (x_all_1 = 0) → query_Queries_Due_j2 r_3 q_0_2 q_2_2 out_1 n_1 K_1 r_0_1 r_1_1 r_17_1 r_18_1 vr_18_1 cm_1 (mset q_3_2 (gi r_3 n_1) ((mget0 q_3_2 (gi r_3 n_1)).1, (x_all_1, xm_1))) false))))))))) ∧ (((mget q_3_2 (gi r_3 n_1)).isSome) = false → False))
def query_Queries_Due_l1 (t : T_api_Tune) (Q : Bool → (List T_api_Asked) → Int → (List (Str × Int)) → Int → (List (TA × (Nat × Nat) × TqL)) → Prop) (r_1 : Int) (r_2 : Bool) (r_3 : List TA) (K_1 : Int → (List (Str × Int)) → Int → (List (TA × (Nat × Nat) × TqL)) → (List T_api_Asked) → Int → Prop) (q_0_2 : Int) (q_1_0_2 : List (Str × Int)) (q_2_2 : Int) (q_3_2 : List (TA × (Nat × Nat) × TqL)) (out_1 : List T_api_Asked) (n_1 : Int) : Prop :=
 (n_1 < (r_3.length : Int) → ((0 : Int) ≤ n_1 ∧ n_1 < (r_3.length : Int)) ∧ (query_key_W (gi r_3 n_1) (fun r_4 => clock_Clock_At_string_W q_1_0_2 r_4 (fun r0_2 r1_2 => ((!r1_2) = true → query_Queries_Due_j1 t r_1 r_3 q_0_2 q_1_0_2 q_2_2 q_3_2 out_1 n_1 K_1 true) ∧ ((!r1_2) = false → query_Queries_Due_j1 t r_1 r_3 q_0_2 q_1_0_2 q_2_2 q_3_2 out_1 n_1 K_1 (decide (r_1 < r0_2))))))) ∧ (¬ (n_1 < (r_3.length : Int)) → Q r_2 out_1 q_0_2 q_1_0_2 q_2_2 q_3_2)
def query_Queries_Due_W (q_now : Int) (q_at_at : List (Str × Int)) (q_first : Int) (q_open : List (TA × (Nat × Nat) × TqL)) (now : Int) (t : T_api_Tune) (Q : Bool → (List T_api_Asked) → Int → (List (Str × Int)) → Int → (List (TA × (Nat × Nat) × TqL)) → Prop) : Prop :=
 query_Queries_settle_W q_now q_at_at q_first q_open now (fun r_1 q_now_2 qm_3 q_first_2 qm_4 => query_Queries_generals_W q_now_2 qm_3 q_first_2 qm_4 t (fun r_2 q_now_3 qm_5 q_first_3 qm_6 => query_Queries_groups_W q_now_3 qm_5 q_first_3 qm_6 (fun r_3 => loopW (fun (K_1 : (Int × (List (Str × Int)) × Int × (List (TA × (Nat × Nat) × TqL)) × List T_api_Asked × Int) → Prop) (s : Int × (List (Str × Int)) × Int × (List (TA × (Nat × Nat) × TqL)) × List T_api_Asked × Int) => query_Queries_Due_l1 t Q r_1 r_2 r_3 (fun q_0_2 q_1_0_2 q_2_2 q_3_2 out_1 n_1 => K_1 (q_0_2, q_1_0_2, q_2_2, q_3_2, out_1, n_1)) s.1 s.2.1 s.2.2.1 s.2.2.2.1 s.2.2.2.2.1 s.2.2.2.2.2) (q_now_3, qm_5, q_first_3, qm_6, [], 0))))
theorem query_Queries_Due_walk {F : Fz} {fr : List Ow} {h0 : Heap} (q_now : Int) (q_at_at : List (Str × Int)) (q_first : Int) (q_open : List (TA × (Nat × Nat) × TqL)) (now : Int) (t : T_api_Tune) (bq : Nat) (bq_at : Nat) (rq_at_at : Nat) (rq_open : Nat) (hS : St F (Ow.box bq 167 #[.int .i64 q_now, .pointer (some ⟨bq_at, 0, none⟩), .int .i64 q_first, .map (some rq_open)] :: Ow.box bq_at 222 #[.map (some rq_at_at)] :: Ow.map rq_at_at kT kI q_at_at :: Ow.pm rq_open (fun (x : TA) => .agg (eA x).toArray) pv_query_left th_query_left q_open none :: fr) h0)  {Q : Bool → (List T_api_Asked) → Int → (List (Str × Int)) → Int → (List (TA × (Nat × Nat) × TqL)) → Prop} (hM : query_Queries_Due_W q_now q_at_at q_first q_open now t Q) :
  HC Tryz.prog 51 #[.pointer (some ⟨bq, 0, none⟩), .int .i64 now, .agg (e_api_Tune t).toArray] h0 fun u h' => ∃ (F' : Fz) (r0_1 : Bool) (r1_1 : List T_api_Asked) (q_now_1 : Int) (qm_1 : List (Str × Int)) (q_first_1 : Int) (qm_2 : List (TA × (Nat × Nat) × TqL)) (vr1_1 : Value), u = .tuple #[.bool r0_1, vr1_1] ∧ Kp F h0 F' h' ∧ St F' (Ow.own 97 19 e_api_Asked vr1_1 r1_1 :: Ow.box bq 167 #[.int .i64 q_now_1, .pointer (some ⟨bq_at, 0, none⟩), .int .i64 q_first_1, .map (some rq_open)] :: Ow.box bq_at 222 #[.map (some rq_at_at)] :: Ow.map rq_at_at kT kI qm_1 :: Ow.pm rq_open (fun (x : TA) => .agg (eA x).toArray) pv_query_left th_query_left qm_2 none :: fr) h' ∧ (NfL nf_api_Asked F' h' r1_1) ∧ Q r0_1 r1_1 q_now_1 qm_1 q_first_1 qm_2 := by
 unfold query_Queries_Due_W at hM
 have hK := Kp.refl F h0
 refine HC.of_HW (n := 91) Tryz.func51 rfl rfl (Nat.le_of_ble_eq_true rfl) ?_
 refine HW.seq ?_
 refine HW.region ?_
 refine HO.eff (want_none) rfl (st_box (c := (e_api_Tune t).toArray) (k' := 5) hS rfl rfl) ?_
 rintro _ h_1 ⟨b_1, rfl, hS, hk⟩
 replace hK := hK.trans hk
 refine oA (.bool false) rfl rfl ?_
 refine oA (.slice none 0 0) rfl rfl ?_
 refine HO.nil (thenQ_normal (?_))
 refine HW.seq ?_
 refine HW.region ?_
 refine oA (.slice none 0 0) rfl rfl ?_
 refine HO.nil (thenQ_normal (?_))
 refine HW.seq ?_
 refine HW.seq ?_
 refine HW.region ?_
 refine oM (.pointer (some ⟨bq, 0, none⟩)) rfl rfl ?_
 refine oV (.bool false) (q_eqlPnil Tryz.underlying90 rfl rfl rfl) rfl ?_
 refine HO.nil (thenQ_normal (?_))
 refine HW.condF rfl ?_
 refine HW.skip (thenQ_normal (?_))
 refine HW.seq ?_
 refine HW.region ?_
 refine oM (.pointer (some ⟨bq, 0, none⟩)) rfl rfl ?_
 refine oM (.int .i64 now) rfl rfl ?_
 replace hS : St F (Ow.box bq 167 #[.int .i64 q_now, .pointer (some ⟨bq_at, 0, none⟩), .int .i64 q_first, .map (some rq_open)] :: Ow.box bq_at 222 #[.map (some rq_at_at)] :: Ow.map rq_at_at kT kI q_at_at :: Ow.pm rq_open (fun (x : TA) => .agg (eA x).toArray) pv_query_left th_query_left q_open none :: Ow.box b_1 56 (e_api_Tune t).toArray :: fr) h_1 := hS.perm2 [1, 2, 3, 4, 0] 5 rfl rfl
 refine HO.call (want_none) rfl (ec en_111 rfl rfl) (query_Queries_settle_walk (fr := (Ow.box b_1 56 (e_api_Tune t).toArray :: fr)) q_now q_at_at q_first q_open now bq bq_at rq_at_at rq_open hS hM) ?_
 rintro _ h_2 ⟨F_1, r_1, q_now_2, qm_3, q_first_2, qm_4, rfl, hk, hS, hM⟩
 replace hK := hK.trans hk
 refine oA (.int .i64 r_1) rfl rfl ?_
 refine HO.nil (thenQ_normal (?_))
 refine HW.seq ?_
 refine HW.region ?_
 refine oM (.pointer (some ⟨bq, 0, none⟩)) rfl rfl ?_
 refine oV (.agg (e_api_Tune t).toArray) (q_loadAgg (cs := (e_api_Tune t)) ta_56 rfl rfl (Blk.cells (k := 5) (hS.box 4 rfl) rfl)) rfl ?_
 refine HO.call (want_none) rfl (ec en_122 rfl rfl) (query_Queries_generals_walk (fr := (Ow.box b_1 56 (e_api_Tune t).toArray :: fr)) q_now_2 qm_3 q_first_2 qm_4 t bq bq_at rq_at_at rq_open hS hM) ?_
 rintro _ h_3 ⟨F_2, r_2, q_now_3, qm_5, q_first_3, qm_6, rfl, hk, hS, hM⟩
 replace hK := hK.trans hk
 refine oA (.bool r_2) rfl rfl ?_
 refine HO.nil (thenQ_normal (?_))
 refine HW.seq ?_
 refine HW.seq ?_
 refine HW.region ?_
 refine oM (.pointer (some ⟨bq, 0, none⟩)) rfl rfl ?_
 replace hS : St F_2 (Ow.box bq 167 #[.int .i64 q_now_3, .pointer (some ⟨bq_at, 0, none⟩), .int .i64 q_first_3, .map (some rq_open)] :: Ow.box bq_at 222 #[.map (some rq_at_at)] :: Ow.map rq_at_at kT kI qm_5 :: Ow.pm rq_open (fun (x : TA) => .agg (eA x).toArray) pv_query_left th_query_left qm_6 none :: Ow.box b_1 56 (e_api_Tune t).toArray :: fr) h_3 := hS
 have hZ_1 := hS
 have hkz_1 := (hS.freeze).2
 replace hS := hS.freeze.1
 have hL_1 := hZ_1.lent
 replace hS : St (fun bz_ => F_2 bz_ ∨ (Ow.box bq 167 #[.int .i64 q_now_3, .pointer (some ⟨bq_at, 0, none⟩), .int .i64 q_first_3, .map (some rq_open)]).foot bz_) (Ow.box bq_at 222 #[.map (some rq_at_at)] :: Ow.map rq_at_at kT kI qm_5 :: Ow.pm rq_open (fun (x : TA) => .agg (eA x).toArray) pv_query_left th_query_left qm_6 none :: Ow.box b_1 56 (e_api_Tune t).toArray :: fr) h_3 := hS
 have hZ_2 := hS
 have hkz_2 := (hS.freeze).2
 replace hS := hS.freeze.1
 have hL_2 := hZ_2.lent
 replace hS : St (fun bz_ => (fun bz_ => F_2 bz_ ∨ (Ow.box bq 167 #[.int .i64 q_now_3, .pointer (some ⟨bq_at, 0, none⟩), .int .i64 q_first_3, .map (some rq_open)]).foot bz_) bz_ ∨ (Ow.box bq_at 222 #[.map (some rq_at_at)]).foot bz_) (Ow.map rq_at_at kT kI qm_5 :: Ow.pm rq_open (fun (x : TA) => .agg (eA x).toArray) pv_query_left th_query_left qm_6 none :: Ow.box b_1 56 (e_api_Tune t).toArray :: fr) h_3 := hS
 have hZ_3 := hS
 have hkz_3 := (hS.freeze).2
 replace hS := hS.freeze.1
 have hL_3 := hZ_3.lent
 replace hS : St (fun bz_ => (fun bz_ => (fun bz_ => F_2 bz_ ∨ (Ow.box bq 167 #[.int .i64 q_now_3, .pointer (some ⟨bq_at, 0, none⟩), .int .i64 q_first_3, .map (some rq_open)]).foot bz_) bz_ ∨ (Ow.box bq_at 222 #[.map (some rq_at_at)]).foot bz_) bz_ ∨ (Ow.map rq_at_at kT kI qm_5).foot bz_) (Ow.pm rq_open (fun (x : TA) => .agg (eA x).toArray) pv_query_left th_query_left qm_6 none :: Ow.box b_1 56 (e_api_Tune t).toArray :: fr) h_3 := hS
 have hZ_4 := hS
 have hkz_4 := (hS.freeze).2
 replace hS := hS.freeze.1
 have hL_4 := hZ_4.lent
 refine HO.call (want_none) rfl (ec en_123 rfl rfl) (query_Queries_groups_walk (fr := (Ow.box b_1 56 (e_api_Tune t).toArray :: fr)) q_now_3 qm_5 q_first_3 qm_6 bq bq_at rq_at_at rq_open hS (hL_3.kp hkz_4) ((hL_2.kp hkz_3).kp hkz_4) hL_4 (((hL_1.kp hkz_2).kp hkz_3).kp hkz_4) hM) ?_
 rintro vr_1 h_4 ⟨F_3, r_3, _, rfl, hk, hS, _, _, _, _, hM⟩
 obtain ⟨hS, hk⟩ := hZ_4.back hk hS
 obtain ⟨hS, hk⟩ := hZ_3.back hk hS
 obtain ⟨hS, hk⟩ := hZ_2.back hk hS
 obtain ⟨hS, hk⟩ := hZ_1.back hk hS
 generalize (fun bz_ => (fun bz_ => (fun bz_ => (fun bz_ => F_3 bz_ ∧ ¬ (Ow.pm rq_open (fun (x : TA) => .agg (eA x).toArray) pv_query_left th_query_left qm_6 none).foot bz_) bz_ ∧ ¬ (Ow.map rq_at_at kT kI qm_5).foot bz_) bz_ ∧ ¬ (Ow.box bq_at 222 #[.map (some rq_at_at)]).foot bz_) bz_ ∧ ¬ (Ow.box bq 167 #[.int .i64 q_now_3, .pointer (some ⟨bq_at, 0, none⟩), .int .i64 q_first_3, .map (some rq_open)]).foot bz_) = F_4 at hS hk
 replace hK := hK.trans hk
 refine oV (.int .i64 (r_3.length : Int)) (q_len ts_29 (shp (hS.own 4 rfl).slice) rfl rfl) rfl ?_
 refine oM (.int .i64 0) rfl rfl ?_
 refine HO.nil (thenQ_normal (?_))
 refine HW.block ?_
 obtain ⟨I_1, m_1, hI_1, hR_1⟩ := hM
 replace hS := hS.nilOwn 97 19 e_api_Asked
 have hN_3 : NfL nf_api_Asked F_4 h_4 ([] : List T_api_Asked) := NfL.nil _ _ _
 replace hS : St F_4 (Ow.box bq 167 #[.int .i64 q_now_3, .pointer (some ⟨bq_at, 0, none⟩), .int .i64 q_first_3, .map (some rq_open)] :: Ow.box bq_at 222 #[.map (some rq_at_at)] :: Ow.map rq_at_at kT kI qm_5 :: Ow.pm rq_open (fun (x : TA) => .agg (eA x).toArray) pv_query_left th_query_left qm_6 none :: Ow.box b_1 56 (e_api_Tune t).toArray :: Ow.own 97 19 e_api_Asked (.slice none 0 0) ([] : List T_api_Asked) :: Ow.own 28 17 eA vr_1 r_3 :: fr) h_4 := hS.perm2 [1, 2, 3, 4, 6, 0, 5] 7 rfl rfl
 refine HW.loop (S := Int × (List (Str × Int)) × Int × (List (TA × (Nat × Nat) × TqL)) × List T_api_Asked × Int) (fun s f h => match s with | (q_0_2, q_1_0_2, q_2_2, q_3_2, out_1, n_1) => ∃ (F' : Fz) (vout_1 : Value), f 0 = .pointer (some ⟨bq, 0, none⟩) ∧ f 1 = .int .i64 r_1 ∧ f 5 = .pointer (some ⟨b_1, 0, none⟩) ∧ f 6 = .bool false ∧ f 7 = .slice none 0 0 ∧ f 8 = vout_1 ∧ f 9 = .bool r_2 ∧ f 24 = vr_1 ∧ f 25 = .int .i64 (r_3.length : Int) ∧ f 26 = .int .i64 n_1 ∧ Kp F h0 F' h ∧ St F' (Ow.box bq 167 #[.int .i64 q_0_2, .pointer (some ⟨bq_at, 0, none⟩), .int .i64 q_2_2, .map (some rq_open)] :: Ow.box bq_at 222 #[.map (some rq_at_at)] :: Ow.map rq_at_at kT kI q_1_0_2 :: Ow.pm rq_open (fun (x : TA) => .agg (eA x).toArray) pv_query_left th_query_left q_3_2 none :: Ow.box b_1 56 (e_api_Tune t).toArray :: Ow.own 97 19 e_api_Asked vout_1 out_1 :: Ow.own 28 17 eA vr_1 r_3 :: fr) h ∧ (NfL nf_api_Asked F' h out_1) ∧ I_1 (q_0_2, q_1_0_2, q_2_2, q_3_2, out_1, n_1)) m_1 (q_now_3, qm_5, q_first_3, qm_6, [], 0) ⟨F_4, .slice none 0 0, rfl, rfl, rfl, rfl, rfl, rfl, rfl, rfl, rfl, rfl, hK, hS, hN_3, hI_1⟩ ?_
 rintro ⟨q_0_2, q_1_0_2, q_2_2, q_3_2, out_1, n_1⟩ f_1 h_5 ⟨F_5, vout_1, e0, e1, e5, e6, e7, e8, e9, e24, e25, e26, hK, hS, hN_2, hI0⟩
 obtain ⟨K_1, hKe_1⟩ : ∃ K : Int → (List (Str × Int)) → Int → (List (TA × (Nat × Nat) × TqL)) → (List T_api_Asked) → Int → Prop, K = fun q_0_2' q_1_0_2' q_2_2' q_3_2' out_1' n_1' => I_1 (q_0_2', q_1_0_2', q_2_2', q_3_2', out_1', n_1') ∧ m_1 (q_0_2', q_1_0_2', q_2_2', q_3_2', out_1', n_1') < m_1 (q_0_2, q_1_0_2, q_2_2, q_3_2, out_1, n_1) := ⟨_, rfl⟩
 have hM : query_Queries_Due_l1 t Q r_1 r_2 r_3 K_1 q_0_2 q_1_0_2 q_2_2 q_3_2 out_1 n_1 := by rw [hKe_1]; exact hR_1 (q_0_2, q_1_0_2, q_2_2, q_3_2, out_1, n_1) hI0
 unfold query_Queries_Due_l1 at hM
 refine HW.fr [(0, .pointer (some ⟨bq, 0, none⟩)), (1, .int .i64 r_1), (5, .pointer (some ⟨b_1, 0, none⟩)), (6, .bool false), (7, .slice none 0 0), (8, vout_1), (9, .bool r_2), (24, vr_1), (25, .int .i64 (r_3.length : Int)), (26, .int .i64 n_1)] ⟨e0, e1, e5, e6, e7, e8, e9, e24, e25, e26, trivial⟩ ?_
 refine HW.seq ?_
 refine HW.region ?_
 refine oV (.bool (decide (n_1 < (r_3.length : Int)))) (q_lss rfl rfl) rfl ?_
 refine HO.nil (thenQ_normal (?_))
 refine HW.seq ?_
 refine HW.cond (decide (n_1 < (r_3.length : Int))) rfl (fun c_1 => ?_) (fun c_1 => ?_)
 ·
  replace hM := hM.1 (of_decide_eq_true c_1)
  refine HW.skip (thenQ_normal (?_))
  refine HW.seq ?_
  refine HW.block ?_
  refine HW.seq ?_
  refine HW.region ?_
  obtain ⟨ho_1, hM⟩ := hM
  refine oV (elemPtr 17 vr_1 (n_1).toNat) (q_idx ts_29 (hS.own 6 rfl).slice rfl rfl ho_1) rfl ?_
  refine oV (.agg (eA (gi r_3 n_1)).toArray) (q_ldElemAgg (cs := (eA (gi r_3 n_1))) ta_28 (hS.own 6 rfl).slice rfl ho_1 rfl) rfl ?_
  refine HO.eff (want_none) rfl (st_alloc (c := (eA (false, (default : Ba 16))).toArray) hS tz_28 rfl) ?_
  rintro _ h_6 ⟨b_2, rfl, hS, hk⟩
  replace hK := hK.trans hk
  replace hN_2 := hN_2.kp hk
  refine HO.sto (want_none) rfl (st_storeAgg (c' := (eA (gi r_3 n_1)).toArray) hS (i := 0) rfl ta_28 rfl rfl rfl (one_e_api_Addr _) (Nat.le_of_ble_eq_true rfl) rfl) ?_
  rintro h_7 ⟨hS, hk⟩
  replace hK := hK.trans hk
  replace hN_2 := hN_2.kp hk
  refine HO.nil (thenQ_normal (?_))
  refine HW.seq ?_
  refine HW.seq ?_
  refine HW.regionA 12 mixed (fun h => (Blk h b_2 (.cells (eA (gi r_3 n_1)).toArray 28 (0, 0))) ∧ (Blk h bq (.cells #[.int .i64 q_0_2, .pointer (some ⟨bq_at, 0, none⟩), .int .i64 q_2_2, .map (some rq_open)] 167 (0, 0)))) [] (by kernel_rfl) ?_
  refine HA.val (k := 0) (v := .pointer (some ⟨bq, 0, none⟩)) rfl rfl (by kernel_rfl) (by kernel_rfl) (want_none) rfl (fun _ ⟨c374, c366⟩ => q_move rfl) ?_
  refine HA.val (k := 1) (v := .pointer (some ⟨bq, 0, none⟩)) rfl rfl (by kernel_rfl) (by kernel_rfl) (want_none) rfl (fun _ ⟨c374, c366⟩ => q_nilCheck rfl) ?_
  refine HA.val (k := 2) (v := .pointer (some ⟨bq, 1, none⟩)) rfl rfl (by kernel_rfl) (by kernel_rfl) (want_none) rfl (fun _ ⟨c374, c366⟩ => q_fieldAddr fa_167_1 rfl rfl) ?_
  refine HA.val (k := 3) (v := .pointer (some ⟨bq_at, 0, none⟩)) rfl rfl (by kernel_rfl) (by kernel_rfl) (want_none) rfl (fun _ ⟨c374, c366⟩ => q_load to_163 rfl (Blk.cell c366 rfl)) ?_
  refine HA.val (k := 4) (v := .agg (eA (gi r_3 n_1)).toArray) rfl rfl (by kernel_rfl) (by kernel_rfl) (want_none) rfl (fun _ ⟨c374, c366⟩ => q_loadAgg (cs := (eA (gi r_3 n_1))) ta_28 rfl rfl (Blk.cells (k := 17) c374 rfl)) ?_
  refine HA.one (k := 5) ⟨⟨(hS.box 0 rfl), (hS.box 1 rfl)⟩, (Go.Wk.at_nil _ _)⟩ (by kernel_rfl) ?_
  refine HS.call rfl (want_none) rfl (ec en_117 rfl rfl) (query_key_walk (fr := (Ow.box b_2 28 (eA (gi r_3 n_1)).toArray :: Ow.box bq 167 #[.int .i64 q_0_2, .pointer (some ⟨bq_at, 0, none⟩), .int .i64 q_2_2, .map (some rq_open)] :: Ow.box bq_at 222 #[.map (some rq_at_at)] :: Ow.map rq_at_at kT kI q_1_0_2 :: Ow.pm rq_open (fun (x : TA) => .agg (eA x).toArray) pv_query_left th_query_left q_3_2 none :: Ow.box b_1 56 (e_api_Tune t).toArray :: Ow.own 97 19 e_api_Asked vout_1 out_1 :: Ow.own 28 17 eA vr_1 r_3 :: fr)) (gi r_3 n_1) hS hM) ?_
  rintro _ h_8 ⟨F_6, r_4, rfl, hk, hS, hM⟩
  replace hK := hK.trans hk
  replace hN_2 := hN_2.kp hk
  refine HA.one (k := 6) ⟨⟨(hS.box 0 rfl), (hS.box 1 rfl)⟩, (Go.Wk.at_nil _ _)⟩ (by kernel_rfl) ?_
  replace hS : St F_6 (Ow.box bq_at 222 #[.map (some rq_at_at)] :: Ow.box b_2 28 (eA (gi r_3 n_1)).toArray :: Ow.box bq 167 #[.int .i64 q_0_2, .pointer (some ⟨bq_at, 0, none⟩), .int .i64 q_2_2, .map (some rq_open)] :: Ow.map rq_at_at kT kI q_1_0_2 :: Ow.pm rq_open (fun (x : TA) => .agg (eA x).toArray) pv_query_left th_query_left q_3_2 none :: Ow.box b_1 56 (e_api_Tune t).toArray :: Ow.own 97 19 e_api_Asked vout_1 out_1 :: Ow.own 28 17 eA vr_1 r_3 :: fr) h_8 := hS.perm2 [2, 0, 1, 3, 4, 5, 6, 7] 8 rfl rfl
  have hZ_5 := hS
  have hkz_5 := (hS.freeze).2
  replace hS := hS.freeze.1
  have hL_5 := hZ_5.lent
  replace hS : St (fun bz_ => F_6 bz_ ∨ (Ow.box bq_at 222 #[.map (some rq_at_at)]).foot bz_) (Ow.map rq_at_at kT kI q_1_0_2 :: Ow.box b_2 28 (eA (gi r_3 n_1)).toArray :: Ow.box bq 167 #[.int .i64 q_0_2, .pointer (some ⟨bq_at, 0, none⟩), .int .i64 q_2_2, .map (some rq_open)] :: Ow.pm rq_open (fun (x : TA) => .agg (eA x).toArray) pv_query_left th_query_left q_3_2 none :: Ow.box b_1 56 (e_api_Tune t).toArray :: Ow.own 97 19 e_api_Asked vout_1 out_1 :: Ow.own 28 17 eA vr_1 r_3 :: fr) h_8 := hS.perm2 [2, 0, 1, 3, 4, 5, 6] 7 rfl rfl
  have hZ_6 := hS
  have hkz_6 := (hS.freeze).2
  replace hS := hS.freeze.1
  have hL_6 := hZ_6.lent
  refine HS.call rfl (want_none) rfl (ec en_124 rfl rfl) (clock_Clock_At_string_walk (fr := (Ow.box b_2 28 (eA (gi r_3 n_1)).toArray :: Ow.box bq 167 #[.int .i64 q_0_2, .pointer (some ⟨bq_at, 0, none⟩), .int .i64 q_2_2, .map (some rq_open)] :: Ow.pm rq_open (fun (x : TA) => .agg (eA x).toArray) pv_query_left th_query_left q_3_2 none :: Ow.box b_1 56 (e_api_Tune t).toArray :: Ow.own 97 19 e_api_Asked vout_1 out_1 :: Ow.own 28 17 eA vr_1 r_3 :: fr)) q_1_0_2 r_4 bq_at rq_at_at hS hL_6 (hL_5.kp hkz_6) hM) ?_
  rintro _ h_9 ⟨F_7, r0_2, r1_2, rfl, hk, hS, _, _, hM⟩
  obtain ⟨hS, hk⟩ := hZ_6.back hk hS
  obtain ⟨hS, hk⟩ := hZ_5.back hk hS
  generalize (fun bz_ => (fun bz_ => F_7 bz_ ∧ ¬ (Ow.map rq_at_at kT kI q_1_0_2).foot bz_) bz_ ∧ ¬ (Ow.box bq_at 222 #[.map (some rq_at_at)]).foot bz_) = F_8 at hS hk
  replace hK := hK.trans hk
  replace hN_2 := hN_2.kp hk
  refine HA.val (k := 7) (v := .tuple #[.int .i64 r0_2, .bool r1_2]) rfl rfl (by kernel_rfl) (by kernel_rfl) (want_none) rfl (fun _ ⟨c374, c366⟩ => q_move rfl) ?_
  refine HA.val (k := 8) (v := .int .i64 r0_2) rfl rfl (by kernel_rfl) (by kernel_rfl) (want_none) rfl (fun _ ⟨c374, c366⟩ => q_extract rfl rfl) ?_
  refine HA.val (k := 9) (v := .bool r1_2) rfl rfl (by kernel_rfl) (by kernel_rfl) (want_none) rfl (fun _ ⟨c374, c366⟩ => q_extract rfl rfl) ?_
  refine HA.val (k := 10) (v := .int .i64 r0_2) rfl rfl (by kernel_rfl) (by kernel_rfl) (want_none) rfl (fun _ ⟨c374, c366⟩ => q_assign rfl) ?_
  refine HA.val (k := 11) (v := .bool r1_2) rfl rfl (by kernel_rfl) (by kernel_rfl) (want_none) rfl (fun _ ⟨c374, c366⟩ => q_assign rfl) ?_
  refine HA.nil ⟨⟨(hS.box 2 rfl), (hS.box 3 rfl)⟩, (Go.Wk.at_nil _ _)⟩ (by kernel_rfl) (thenQ_normal (?_))
  refine HW.seq_mid (fun f h => ∃ (F' : Fz) (b_3 : Bool), f 0 = .pointer (some ⟨bq, 0, none⟩) ∧ f 1 = .int .i64 r_1 ∧ f 5 = .pointer (some ⟨b_1, 0, none⟩) ∧ f 6 = .bool false ∧ f 7 = .slice none 0 0 ∧ f 8 = vout_1 ∧ f 9 = .bool r_2 ∧ f 11 = .pointer (some ⟨b_2, 0, none⟩) ∧ f 24 = vr_1 ∧ f 25 = .int .i64 (r_3.length : Int) ∧ f 26 = .int .i64 n_1 ∧ f 46 = .bool b_3 ∧ Kp F h0 F' h ∧ St F' (Ow.box bq 167 #[.int .i64 q_0_2, .pointer (some ⟨bq_at, 0, none⟩), .int .i64 q_2_2, .map (some rq_open)] :: Ow.box bq_at 222 #[.map (some rq_at_at)] :: Ow.map rq_at_at kT kI q_1_0_2 :: Ow.pm rq_open (fun (x : TA) => .agg (eA x).toArray) pv_query_left th_query_left q_3_2 none :: Ow.box b_1 56 (e_api_Tune t).toArray :: Ow.own 97 19 e_api_Asked vout_1 out_1 :: Ow.box b_2 28 (eA (gi r_3 n_1)).toArray :: Ow.own 28 17 eA vr_1 r_3 :: fr) h ∧ (NfL nf_api_Asked F' h out_1) ∧ query_Queries_Due_j1 t r_1 r_3 q_0_2 q_1_0_2 q_2_2 q_3_2 out_1 n_1 K_1 b_3) ?_ ?_
  ·
   refine HW.region ?_
   refine oM (.bool r1_2) rfl rfl ?_
   refine oV (.bool (!r1_2)) (q_not rfl) rfl ?_
   refine oM (.bool (!r1_2)) rfl rfl ?_
   rcases Bool.eq_false_or_eq_true (!r1_2) with c_2 | c_2
   ·
    replace hM := hM.1 c_2
    refine HO.past (past_by rfl rfl c_2) rfl ?_
    refine HO.past (past_by rfl rfl c_2) rfl ?_
    refine HO.past (past_by rfl rfl c_2) rfl ?_
    refine oV (.bool true) (q_pickK true rfl c_2 rfl) rfl ?_
    refine HO.nil (thenQ_normal (?_))
    replace hS : St F_8 (Ow.box bq 167 #[.int .i64 q_0_2, .pointer (some ⟨bq_at, 0, none⟩), .int .i64 q_2_2, .map (some rq_open)] :: Ow.box bq_at 222 #[.map (some rq_at_at)] :: Ow.map rq_at_at kT kI q_1_0_2 :: Ow.pm rq_open (fun (x : TA) => .agg (eA x).toArray) pv_query_left th_query_left q_3_2 none :: Ow.box b_1 56 (e_api_Tune t).toArray :: Ow.own 97 19 e_api_Asked vout_1 out_1 :: Ow.box b_2 28 (eA (gi r_3 n_1)).toArray :: Ow.own 28 17 eA vr_1 r_3 :: fr) h_9 := hS.perm2 [3, 0, 1, 4, 5, 6, 2, 7] 8 rfl rfl
    exact ⟨F_8, true, rfl, rfl, rfl, rfl, rfl, rfl, rfl, rfl, rfl, rfl, rfl, rfl, hK, hS, hN_2, hM⟩
   ·
    replace hM := hM.2 c_2
    refine HO.val (v := .int .i64 r0_2) (want_by rfl rfl c_2) rfl (q_move rfl) ?_
    refine HO.val (v := .int .i64 r_1) (want_by rfl rfl c_2) rfl (q_move rfl) ?_
    refine HO.val (v := .bool (decide (r_1 < r0_2))) (want_by rfl rfl c_2) rfl (q_gtr rfl rfl) ?_
    refine oV (.bool (decide (r_1 < r0_2))) (q_pickK false rfl c_2 rfl) rfl ?_
    refine HO.nil (thenQ_normal (?_))
    replace hS : St F_8 (Ow.box bq 167 #[.int .i64 q_0_2, .pointer (some ⟨bq_at, 0, none⟩), .int .i64 q_2_2, .map (some rq_open)] :: Ow.box bq_at 222 #[.map (some rq_at_at)] :: Ow.map rq_at_at kT kI q_1_0_2 :: Ow.pm rq_open (fun (x : TA) => .agg (eA x).toArray) pv_query_left th_query_left q_3_2 none :: Ow.box b_1 56 (e_api_Tune t).toArray :: Ow.own 97 19 e_api_Asked vout_1 out_1 :: Ow.box b_2 28 (eA (gi r_3 n_1)).toArray :: Ow.own 28 17 eA vr_1 r_3 :: fr) h_9 := hS.perm2 [3, 0, 1, 4, 5, 6, 2, 7] 8 rfl rfl
    exact ⟨F_8, decide (r_1 < r0_2), rfl, rfl, rfl, rfl, rfl, rfl, rfl, rfl, rfl, rfl, rfl, rfl, hK, hS, hN_2, hM⟩
  ·
   rintro f_2 h_10 ⟨F_9, b_3, e0, e1, e5, e6, e7, e8, e9, e11, e24, e25, e26, e46, hK, hS, hN_2, hM⟩
   unfold query_Queries_Due_j1 at hM
   refine HW.fr [(0, .pointer (some ⟨bq, 0, none⟩)), (1, .int .i64 r_1), (5, .pointer (some ⟨b_1, 0, none⟩)), (6, .bool false), (7, .slice none 0 0), (8, vout_1), (9, .bool r_2), (11, .pointer (some ⟨b_2, 0, none⟩)), (24, vr_1), (25, .int .i64 (r_3.length : Int)), (26, .int .i64 n_1), (46, .bool b_3)] ⟨e0, e1, e5, e6, e7, e8, e9, e11, e24, e25, e26, e46, trivial⟩ ?_
   refine HW.cond b_3 rfl (fun c_3 => ?_) (fun c_3 => ?_)
   ·
    replace hM := hM.1 c_3
    refine HW.exit (thenQ_exit (blockQ_exit (thenQ_normal (?_))))
    refine HW.region ?_
    obtain ⟨ho_2, hM⟩ := hM
    refine oV (.int .i64 (n_1 + 1)) (q_addN _ rfl rfl rfl ho_2.1 ho_2.2) rfl ?_
    refine oM (.int .i64 (n_1 + 1)) rfl rfl ?_
    refine HO.nil (thenQ_normal (?_))
    replace hS : St F_9 (Ow.box bq 167 #[.int .i64 q_0_2, .pointer (some ⟨bq_at, 0, none⟩), .int .i64 q_2_2, .map (some rq_open)] :: Ow.box bq_at 222 #[.map (some rq_at_at)] :: Ow.map rq_at_at kT kI q_1_0_2 :: Ow.pm rq_open (fun (x : TA) => .agg (eA x).toArray) pv_query_left th_query_left q_3_2 none :: Ow.box b_1 56 (e_api_Tune t).toArray :: Ow.own 97 19 e_api_Asked vout_1 out_1 :: Ow.own 28 17 eA vr_1 r_3 :: fr) h_10 := hS.perm2 [0, 1, 2, 3, 4, 5, 7] 8 rfl rfl
    rw [hKe_1] at hM
    exact ⟨(q_0_2, q_1_0_2, q_2_2, q_3_2, out_1, n_1 + 1), ⟨F_9, vout_1, rfl, rfl, rfl, rfl, rfl, rfl, rfl, rfl, rfl, rfl, hK, hS, hN_2, hM.1⟩, hM.2⟩
   ·
    replace hM := hM.2 c_3
    refine HW.skip (thenQ_normal (?_))
    refine HW.seq ?_
    refine HW.regionA 7 mixed (fun h => (NfI nf_api_Asked h out_1) ∧ (Blk h bq (.cells #[.int .i64 q_0_2, .pointer (some ⟨bq_at, 0, none⟩), .int .i64 q_2_2, .map (some rq_open)] 167 (0, 0))) ∧ (Blk h bq_at (.cells #[.map (some rq_at_at)] 222 (0, 0))) ∧ (MapIs h rq_at_at kT kI q_1_0_2) ∧ (MapIs h rq_open (fun (x : TA) => .agg (eA x).toArray) (pmV (β := TqL) pv_query_left) q_3_2) ∧ (Blk h b_1 (.cells (e_api_Tune t).toArray 56 (0, 0))) ∧ (OwnIs h 0 97 19 e_api_Asked vout_1 out_1) ∧ (Blk h b_2 (.cells (eA (gi r_3 n_1)).toArray 28 (0, 0))) ∧ (OwnIs h 0 28 17 eA vr_1 r_3)) [] (by kernel_rfl) ?_
    refine HA.val (k := 0) (v := .pointer (some ⟨bq, 0, none⟩)) rfl rfl (by kernel_rfl) (by kernel_rfl) (want_none) rfl (fun _ ⟨hN_2, c453, c454, c455, c456, c457, c458, c459, c460⟩ => q_move rfl) ?_
    refine HA.val (k := 1) (v := .pointer (some ⟨bq, 0, none⟩)) rfl rfl (by kernel_rfl) (by kernel_rfl) (want_none) rfl (fun _ ⟨hN_2, c453, c454, c455, c456, c457, c458, c459, c460⟩ => q_nilCheck rfl) ?_
    refine HA.val (k := 2) (v := .pointer (some ⟨bq, 3, none⟩)) rfl rfl (by kernel_rfl) (by kernel_rfl) (want_none) rfl (fun _ ⟨hN_2, c453, c454, c455, c456, c457, c458, c459, c460⟩ => q_fieldAddr fa_167_3 rfl rfl) ?_
    refine HA.val (k := 3) (v := .map (some rq_open)) rfl rfl (by kernel_rfl) (by kernel_rfl) (want_none) rfl (fun _ ⟨hN_2, c453, c454, c455, c456, c457, c458, c459, c460⟩ => q_load to_165 rfl (Blk.cell c453 rfl)) ?_
    refine HA.val (k := 4) (v := .agg (eA (gi r_3 n_1)).toArray) rfl rfl (by kernel_rfl) (by kernel_rfl) (want_none) rfl (fun _ ⟨hN_2, c453, c454, c455, c456, c457, c458, c459, c460⟩ => q_loadAgg (cs := (eA (gi r_3 n_1))) ta_28 rfl rfl (Blk.cells (k := 17) c459 rfl)) ?_
    rcases Bool.eq_false_or_eq_true ((mget q_3_2 (gi r_3 n_1)).isSome) with c_4 | c_4
    ·
     replace hM := hM.1 c_4
     refine HA.val (k := 5) (v := .pointer (some ⟨(mget0 q_3_2 (gi r_3 n_1)).1.1, 0, none⟩)) rfl rfl (by kernel_rfl) (by kernel_rfl) (want_none) rfl (fun _ ⟨hN_2, c453, c454, c455, c456, c457, c458, c459, c460⟩ => q_pmYes (k := (gi r_3 n_1)) ka_28 tmk_165 c456 rfl rfl (pm_some c_4)) ?_
     replace hS : St F_9 (Ow.box (mget0 q_3_2 (gi r_3 n_1)).1.1 179 #[.int .i64 (((mget0 q_3_2 (gi r_3 n_1)).2).1), .map (some ((mget0 q_3_2 (gi r_3 n_1)).1.2))] :: Ow.map (mget0 q_3_2 (gi r_3 n_1)).1.2 (fun (x : TA) => .agg (eA x).toArray) kI (((mget0 q_3_2 (gi r_3 n_1)).2).2) :: Ow.box bq 167 #[.int .i64 q_0_2, .pointer (some ⟨bq_at, 0, none⟩), .int .i64 q_2_2, .map (some rq_open)] :: Ow.box bq_at 222 #[.map (some rq_at_at)] :: Ow.map rq_at_at kT kI q_1_0_2 :: Ow.pm rq_open (fun (x : TA) => .agg (eA x).toArray) pv_query_left th_query_left q_3_2 (some ((gi r_3 n_1), ((mget0 q_3_2 (gi r_3 n_1)).1.1, (mget0 q_3_2 (gi r_3 n_1)).1.2))) :: Ow.box b_1 56 (e_api_Tune t).toArray :: Ow.own 97 19 e_api_Asked vout_1 out_1 :: Ow.box b_2 28 (eA (gi r_3 n_1)).toArray :: Ow.own 28 17 eA vr_1 r_3 :: fr) h_10 := (St.pmTake (th := th_query_left) hS 3 rfl (pm_some c_4)).unbm
     refine HA.val (k := 6) (v := .pointer (some ⟨(mget0 q_3_2 (gi r_3 n_1)).1.1, 0, none⟩)) rfl rfl (by kernel_rfl) (by kernel_rfl) (want_none) rfl (fun _ ⟨hN_2, c453, c454, c455, c456, c457, c458, c459, c460⟩ => q_assign rfl) ?_
     refine HA.nil ⟨⟨hN_2.is, (hS.box 2 rfl), (hS.box 3 rfl), (hS.mp 4 rfl), (hS.pmi 5 rfl).map, (hS.box 6 rfl), (hS.own 7 rfl), (hS.box 8 rfl), (hS.own 9 rfl)⟩, (Go.Wk.at_nil _ _)⟩ (by kernel_rfl) (thenQ_normal (?_))
     refine HW.seq ?_
     refine HW.region ?_
     refine oM (vout_1) rfl rfl ?_
     refine oM (.pointer (some ⟨(mget0 q_3_2 (gi r_3 n_1)).1.1, 0, none⟩)) rfl rfl ?_
     refine oV (.agg (eA (gi r_3 n_1)).toArray) (q_loadAgg (cs := (eA (gi r_3 n_1))) ta_28 rfl rfl (Blk.cells (k := 17) (hS.box 8 rfl) rfl)) rfl ?_
     replace hS : St F_9 (Ow.box (mget0 q_3_2 (gi r_3 n_1)).1.1 179 #[.int .i64 (((mget0 q_3_2 (gi r_3 n_1)).2).1), .map (some ((mget0 q_3_2 (gi r_3 n_1)).1.2))] :: Ow.map (mget0 q_3_2 (gi r_3 n_1)).1.2 (fun (x : TA) => .agg (eA x).toArray) kI (((mget0 q_3_2 (gi r_3 n_1)).2).2) :: Ow.box bq 167 #[.int .i64 q_0_2, .pointer (some ⟨bq_at, 0, none⟩), .int .i64 q_2_2, .map (some rq_open)] :: Ow.box bq_at 222 #[.map (some rq_at_at)] :: Ow.map rq_at_at kT kI q_1_0_2 :: Ow.pm rq_open (fun (x : TA) => .agg (eA x).toArray) pv_query_left th_query_left q_3_2 (some ((gi r_3 n_1), ((mget0 q_3_2 (gi r_3 n_1)).1.1, (mget0 q_3_2 (gi r_3 n_1)).1.2))) :: Ow.box b_1 56 (e_api_Tune t).toArray :: Ow.own 97 19 e_api_Asked vout_1 out_1 :: Ow.box b_2 28 (eA (gi r_3 n_1)).toArray :: Ow.own 28 17 eA vr_1 r_3 :: fr) h_10 := hS
     have hZ_7 := hS
     have hkz_7 := (hS.freeze).2
     replace hS := hS.freeze.1
     have hL_7 := hZ_7.lent
     replace hS : St (fun bz_ => F_9 bz_ ∨ (Ow.box (mget0 q_3_2 (gi r_3 n_1)).1.1 179 #[.int .i64 (((mget0 q_3_2 (gi r_3 n_1)).2).1), .map (some ((mget0 q_3_2 (gi r_3 n_1)).1.2))]).foot bz_) (Ow.map (mget0 q_3_2 (gi r_3 n_1)).1.2 (fun (x : TA) => .agg (eA x).toArray) kI (((mget0 q_3_2 (gi r_3 n_1)).2).2) :: Ow.box bq 167 #[.int .i64 q_0_2, .pointer (some ⟨bq_at, 0, none⟩), .int .i64 q_2_2, .map (some rq_open)] :: Ow.box bq_at 222 #[.map (some rq_at_at)] :: Ow.map rq_at_at kT kI q_1_0_2 :: Ow.pm rq_open (fun (x : TA) => .agg (eA x).toArray) pv_query_left th_query_left q_3_2 (some ((gi r_3 n_1), ((mget0 q_3_2 (gi r_3 n_1)).1.1, (mget0 q_3_2 (gi r_3 n_1)).1.2))) :: Ow.box b_1 56 (e_api_Tune t).toArray :: Ow.own 97 19 e_api_Asked vout_1 out_1 :: Ow.box b_2 28 (eA (gi r_3 n_1)).toArray :: Ow.own 28 17 eA vr_1 r_3 :: fr) h_10 := hS
     have hZ_8 := hS
     have hkz_8 := (hS.freeze).2
     replace hS := hS.freeze.1
     have hL_8 := hZ_8.lent
     refine HO.call (want_none) rfl (ec en_125 rfl rfl) (query_left_asked_walk (fr := (Ow.box bq 167 #[.int .i64 q_0_2, .pointer (some ⟨bq_at, 0, none⟩), .int .i64 q_2_2, .map (some rq_open)] :: Ow.box bq_at 222 #[.map (some rq_at_at)] :: Ow.map rq_at_at kT kI q_1_0_2 :: Ow.pm rq_open (fun (x : TA) => .agg (eA x).toArray) pv_query_left th_query_left q_3_2 (some ((gi r_3 n_1), ((mget0 q_3_2 (gi r_3 n_1)).1.1, (mget0 q_3_2 (gi r_3 n_1)).1.2))) :: Ow.box b_1 56 (e_api_Tune t).toArray :: Ow.own 97 19 e_api_Asked vout_1 out_1 :: Ow.box b_2 28 (eA (gi r_3 n_1)).toArray :: Ow.own 28 17 eA vr_1 r_3 :: fr)) (((mget0 q_3_2 (gi r_3 n_1)).2).1) (((mget0 q_3_2 (gi r_3 n_1)).2).2) (gi r_3 n_1) ((mget0 q_3_2 (gi r_3 n_1)).1.1) ((mget0 q_3_2 (gi r_3 n_1)).1.2) hS hL_8 (hL_7.kp hkz_8) hM) ?_
     rintro _ h_11 ⟨F_10, r_0_1, r_1_1, r_17_1, r_18_1, vr_18_1, rfl, hk, hS, _, _, hM⟩
     obtain ⟨hS, hk⟩ := hZ_8.back hk hS
     obtain ⟨hS, hk⟩ := hZ_7.back hk hS
     generalize (fun bz_ => (fun bz_ => F_10 bz_ ∧ ¬ (Ow.map (mget0 q_3_2 (gi r_3 n_1)).1.2 (fun (x : TA) => .agg (eA x).toArray) kI (((mget0 q_3_2 (gi r_3 n_1)).2).2)).foot bz_) bz_ ∧ ¬ (Ow.box (mget0 q_3_2 (gi r_3 n_1)).1.1 179 #[.int .i64 (((mget0 q_3_2 (gi r_3 n_1)).2).1), .map (some ((mget0 q_3_2 (gi r_3 n_1)).1.2))]).foot bz_) = F_11 at hS hk
     replace hK := hK.trans hk
     replace hN_2 := hN_2.kp hk
     replace hS : St F_11 (Ow.own 28 17 eA vr_18_1 r_18_1 :: Ow.box (mget0 q_3_2 (gi r_3 n_1)).1.1 179 #[.int .i64 (((mget0 q_3_2 (gi r_3 n_1)).2).1), .map (some ((mget0 q_3_2 (gi r_3 n_1)).1.2))] :: Ow.map (mget0 q_3_2 (gi r_3 n_1)).1.2 (fun (x : TA) => .agg (eA x).toArray) kI (((mget0 q_3_2 (gi r_3 n_1)).2).2) :: Ow.box bq 167 #[.int .i64 q_0_2, .pointer (some ⟨bq_at, 0, none⟩), .int .i64 q_2_2, .map (some rq_open)] :: Ow.box bq_at 222 #[.map (some rq_at_at)] :: Ow.map rq_at_at kT kI q_1_0_2 :: Ow.pm rq_open (fun (x : TA) => .agg (eA x).toArray) pv_query_left th_query_left q_3_2 (some ((gi r_3 n_1), ((mget0 q_3_2 (gi r_3 n_1)).1.1, (mget0 q_3_2 (gi r_3 n_1)).1.2))) :: Ow.box b_1 56 (e_api_Tune t).toArray :: Ow.own 97 19 e_api_Asked vout_1 out_1 :: Ow.box b_2 28 (eA (gi r_3 n_1)).toArray :: Ow.own 28 17 eA vr_1 r_3 :: fr) h_11 := hS.perm2 [2, 0, 1, 3, 4, 5, 6, 7, 8, 9, 10] 11 rfl rfl
     obtain ⟨F_12, hS, hk, hL_9⟩ := hS.freezeOwn
     replace hK := hK.trans hk
     replace hN_2 := hN_2.kp hk
     replace hM := hM vr_18_1
     refine HO.eff (want_none) rfl (st_lit (enc := e_api_Asked) (cells := #[.bool r_0_1, .int .u8 (b8 r_1_1 0), .int .u8 (b8 r_1_1 1), .int .u8 (b8 r_1_1 2), .int .u8 (b8 r_1_1 3), .int .u8 (b8 r_1_1 4), .int .u8 (b8 r_1_1 5), .int .u8 (b8 r_1_1 6), .int .u8 (b8 r_1_1 7), .int .u8 (b8 r_1_1 8), .int .u8 (b8 r_1_1 9), .int .u8 (b8 r_1_1 10), .int .u8 (b8 r_1_1 11), .int .u8 (b8 r_1_1 12), .int .u8 (b8 r_1_1 13), .int .u8 (b8 r_1_1 14), .int .u8 (b8 r_1_1 15), .bool r_17_1, vr_18_1]) #[.bool false, .int .u8 0, .int .u8 0, .int .u8 0, .int .u8 0, .int .u8 0, .int .u8 0, .int .u8 0, .int .u8 0, .int .u8 0, .int .u8 0, .int .u8 0, .int .u8 0, .int .u8 0, .int .u8 0, .int .u8 0, .int .u8 0, .bool false, .slice none 0 0] ([((r_0_1, r_1_1), r_17_1, (vr_18_1, r_18_1))] : List T_api_Asked) hS tl_58 (by decide) (by decide) (by kernel_rfl) (by kernel_rfl) rfl (by intro x hx; rfl) rfl) ?_
     rintro _ h_12 ⟨b_4, rfl, hS, hk⟩
     replace hK := hK.trans hk
     replace hN_2 := hN_2.kp hk
     replace hL_9 := hL_9.kp hk
     have hN_4 : NfL nf_api_Asked F_12 h_12 ([((r_0_1, r_1_1), r_17_1, (vr_18_1, r_18_1))] : List T_api_Asked) := (NfL.cons (nfm_api_Asked ((r_0_1, r_1_1), r_17_1, (vr_18_1, r_18_1)) hL_9) (NfL.nil _ _ _))
     obtain ⟨ho_3, hM⟩ := hM
     refine HO.eff (want_none) rfl (st_append te_58 hS (i := 8) rfl (hS.own 0 rfl).slice rfl rfl rfl (fun a_ ha_ => nfo_api_Asked (hN_4.is.all a_ ha_)) ho_3 (by omega)) ?_
     rintro v_1 h_13 ⟨hS, hk⟩
     replace hK := hK.trans hk
     replace hN_2 := hN_2.kp hk
     replace hL_9 := hL_9.kp hk
     replace hN_4 := hN_4.kp hk
     have hN_5 : NfL nf_api_Asked F_12 h_13 (out_1 ++ ([((r_0_1, r_1_1), r_17_1, (vr_18_1, r_18_1))] : List T_api_Asked)) := NfL.app hN_2 hN_4
     refine oA (v_1) rfl rfl ?_
     refine HO.nil (thenQ_normal (?_))
     refine HW.seq ?_
     refine HW.regionA 11 mixed (fun h => (Blk h bq (.cells #[.int .i64 q_0_2, .pointer (some ⟨bq_at, 0, none⟩), .int .i64 q_2_2, .map (some rq_open)] 167 (0, 0))) ∧ (Blk h b_1 (.cells (e_api_Tune t).toArray 56 (0, 0))) ∧ (Blk h b_2 (.cells (eA (gi r_3 n_1)).toArray 28 (0, 0)))) [] (by kernel_rfl) ?_
     refine HA.val (k := 0) (v := .pointer (some ⟨bq, 0, none⟩)) rfl rfl (by kernel_rfl) (by kernel_rfl) (want_none) rfl (fun _ ⟨c453, c457, c459⟩ => q_move rfl) ?_
     refine HA.val (k := 1) (v := .pointer (some ⟨bq, 0, none⟩)) rfl rfl (by kernel_rfl) (by kernel_rfl) (want_none) rfl (fun _ ⟨c453, c457, c459⟩ => q_nilCheck rfl) ?_
     refine HA.val (k := 2) (v := .pointer (some ⟨bq, 1, none⟩)) rfl rfl (by kernel_rfl) (by kernel_rfl) (want_none) rfl (fun _ ⟨c453, c457, c459⟩ => q_fieldAddr fa_167_1 rfl rfl) ?_
     refine HA.val (k := 3) (v := .pointer (some ⟨bq_at, 0, none⟩)) rfl rfl (by kernel_rfl) (by kernel_rfl) (want_none) rfl (fun _ ⟨c453, c457, c459⟩ => q_load to_163 rfl (Blk.cell c453 rfl)) ?_
     refine HA.val (k := 4) (v := .agg (eA (gi r_3 n_1)).toArray) rfl rfl (by kernel_rfl) (by kernel_rfl) (want_none) rfl (fun _ ⟨c453, c457, c459⟩ => q_loadAgg (cs := (eA (gi r_3 n_1))) ta_28 rfl rfl (Blk.cells (k := 17) c459 rfl)) ?_
     refine HA.val (k := 6) (v := .int .i64 r_1) rfl rfl (by kernel_rfl) (by kernel_rfl) (want_none) rfl (fun _ ⟨c453, c457, c459⟩ => q_move rfl) ?_
     refine HA.val (k := 7) (v := .pointer (some ⟨b_1, 3, none⟩)) rfl rfl (by kernel_rfl) (by kernel_rfl) (want_none) rfl (fun _ ⟨c453, c457, c459⟩ => q_fieldAddr fa_56_3 rfl rfl) ?_
     refine HA.val (k := 8) (v := .int .i64 t.2.2.2.1) rfl rfl (by kernel_rfl) (by kernel_rfl) (want_none) rfl (fun _ ⟨c453, c457, c459⟩ => q_load to_3 rfl (Blk.cell c457 rfl)) ?_
     obtain ⟨ho_4, hM⟩ := hM
     refine HA.val (k := 9) (v := .int .i64 (r_1 + t.2.2.2.1)) rfl rfl (by kernel_rfl) (by kernel_rfl) (want_none) rfl (fun _ ⟨c453, c457, c459⟩ => q_addN _ rfl rfl rfl ho_4.1 ho_4.2) ?_
     refine HA.one (k := 5) ⟨⟨(hS.box 3 rfl), (hS.box 7 rfl), (hS.box 9 rfl)⟩, (Go.Wk.at_nil _ _)⟩ (by kernel_rfl) ?_
     refine HS.call rfl (want_none) rfl (ec en_117 rfl rfl) (query_key_walk (fr := (Ow.own 97 19 e_api_Asked (.slice (some ⟨b_4, 0, none⟩) 1 1) ([((r_0_1, r_1_1), r_17_1, (vr_18_1, r_18_1))] : List T_api_Asked) :: Ow.box (mget0 q_3_2 (gi r_3 n_1)).1.1 179 #[.int .i64 (((mget0 q_3_2 (gi r_3 n_1)).2).1), .map (some ((mget0 q_3_2 (gi r_3 n_1)).1.2))] :: Ow.map (mget0 q_3_2 (gi r_3 n_1)).1.2 (fun (x : TA) => .agg (eA x).toArray) kI (((mget0 q_3_2 (gi r_3 n_1)).2).2) :: Ow.box bq 167 #[.int .i64 q_0_2, .pointer (some ⟨bq_at, 0, none⟩), .int .i64 q_2_2, .map (some rq_open)] :: Ow.box bq_at 222 #[.map (some rq_at_at)] :: Ow.map rq_at_at kT kI q_1_0_2 :: Ow.pm rq_open (fun (x : TA) => .agg (eA x).toArray) pv_query_left th_query_left q_3_2 (some ((gi r_3 n_1), ((mget0 q_3_2 (gi r_3 n_1)).1.1, (mget0 q_3_2 (gi r_3 n_1)).1.2))) :: Ow.box b_1 56 (e_api_Tune t).toArray :: Ow.own 97 19 e_api_Asked v_1 (out_1 ++ ([((r_0_1, r_1_1), r_17_1, (vr_18_1, r_18_1))] : List T_api_Asked)) :: Ow.box b_2 28 (eA (gi r_3 n_1)).toArray :: Ow.own 28 17 eA vr_1 r_3 :: fr)) (gi r_3 n_1) hS hM) ?_
     rintro _ h_14 ⟨F_13, r_5, rfl, hk, hS, hM⟩
     replace hK := hK.trans hk
     replace hN_2 := hN_2.kp hk
     replace hL_9 := hL_9.kp hk
     replace hN_4 := hN_4.kp hk
     replace hN_5 := hN_5.kp hk
     refine HA.one (k := 10) ⟨⟨(hS.box 3 rfl), (hS.box 7 rfl), (hS.box 9 rfl)⟩, (Go.Wk.at_nil _ _)⟩ (by kernel_rfl) ?_
     replace hS : St F_13 (Ow.box bq_at 222 #[.map (some rq_at_at)] :: Ow.map rq_at_at kT kI q_1_0_2 :: Ow.own 97 19 e_api_Asked (.slice (some ⟨b_4, 0, none⟩) 1 1) ([((r_0_1, r_1_1), r_17_1, (vr_18_1, r_18_1))] : List T_api_Asked) :: Ow.box (mget0 q_3_2 (gi r_3 n_1)).1.1 179 #[.int .i64 (((mget0 q_3_2 (gi r_3 n_1)).2).1), .map (some ((mget0 q_3_2 (gi r_3 n_1)).1.2))] :: Ow.map (mget0 q_3_2 (gi r_3 n_1)).1.2 (fun (x : TA) => .agg (eA x).toArray) kI (((mget0 q_3_2 (gi r_3 n_1)).2).2) :: Ow.box bq 167 #[.int .i64 q_0_2, .pointer (some ⟨bq_at, 0, none⟩), .int .i64 q_2_2, .map (some rq_open)] :: Ow.pm rq_open (fun (x : TA) => .agg (eA x).toArray) pv_query_left th_query_left q_3_2 (some ((gi r_3 n_1), ((mget0 q_3_2 (gi r_3 n_1)).1.1, (mget0 q_3_2 (gi r_3 n_1)).1.2))) :: Ow.box b_1 56 (e_api_Tune t).toArray :: Ow.own 97 19 e_api_Asked v_1 (out_1 ++ ([((r_0_1, r_1_1), r_17_1, (vr_18_1, r_18_1))] : List T_api_Asked)) :: Ow.box b_2 28 (eA (gi r_3 n_1)).toArray :: Ow.own 28 17 eA vr_1 r_3 :: fr) h_14 := hS.perm2 [4, 5, 0, 1, 2, 3, 6, 7, 8, 9, 10] 11 rfl rfl
     refine HS.call rfl (want_none) rfl (ec en_110 rfl rfl) (clock_Clock_Set_string_walk (fr := (Ow.own 97 19 e_api_Asked (.slice (some ⟨b_4, 0, none⟩) 1 1) ([((r_0_1, r_1_1), r_17_1, (vr_18_1, r_18_1))] : List T_api_Asked) :: Ow.box (mget0 q_3_2 (gi r_3 n_1)).1.1 179 #[.int .i64 (((mget0 q_3_2 (gi r_3 n_1)).2).1), .map (some ((mget0 q_3_2 (gi r_3 n_1)).1.2))] :: Ow.map (mget0 q_3_2 (gi r_3 n_1)).1.2 (fun (x : TA) => .agg (eA x).toArray) kI (((mget0 q_3_2 (gi r_3 n_1)).2).2) :: Ow.box bq 167 #[.int .i64 q_0_2, .pointer (some ⟨bq_at, 0, none⟩), .int .i64 q_2_2, .map (some rq_open)] :: Ow.pm rq_open (fun (x : TA) => .agg (eA x).toArray) pv_query_left th_query_left q_3_2 (some ((gi r_3 n_1), ((mget0 q_3_2 (gi r_3 n_1)).1.1, (mget0 q_3_2 (gi r_3 n_1)).1.2))) :: Ow.box b_1 56 (e_api_Tune t).toArray :: Ow.own 97 19 e_api_Asked v_1 (out_1 ++ ([((r_0_1, r_1_1), r_17_1, (vr_18_1, r_18_1))] : List T_api_Asked)) :: Ow.box b_2 28 (eA (gi r_3 n_1)).toArray :: Ow.own 28 17 eA vr_1 r_3 :: fr)) q_1_0_2 r_5 (r_1 + t.2.2.2.1) bq_at rq_at_at hS hM) ?_
     rintro _ h_15 ⟨F_14, r_6, cm_1, rfl, hk, hS, hM⟩
     replace hK := hK.trans hk
     replace hN_2 := hN_2.kp hk
     replace hL_9 := hL_9.kp hk
     replace hN_4 := hN_4.kp hk
     replace hN_5 := hN_5.kp hk
     refine HA.nil ⟨⟨(hS.box 5 rfl), (hS.box 7 rfl), (hS.box 9 rfl)⟩, (Go.Wk.at_nil _ _)⟩ (by kernel_rfl) (thenQ_normal (?_))
     refine HW.seq ?_
     refine HW.region ?_
     refine oM (.pointer (some ⟨(mget0 q_3_2 (gi r_3 n_1)).1.1, 0, none⟩)) rfl rfl ?_
     replace hS : St F_14 (Ow.box (mget0 q_3_2 (gi r_3 n_1)).1.1 179 #[.int .i64 (((mget0 q_3_2 (gi r_3 n_1)).2).1), .map (some ((mget0 q_3_2 (gi r_3 n_1)).1.2))] :: Ow.map (mget0 q_3_2 (gi r_3 n_1)).1.2 (fun (x : TA) => .agg (eA x).toArray) kI (((mget0 q_3_2 (gi r_3 n_1)).2).2) :: Ow.box bq_at 222 #[.map (some rq_at_at)] :: Ow.map rq_at_at kT kI cm_1 :: Ow.own 97 19 e_api_Asked (.slice (some ⟨b_4, 0, none⟩) 1 1) ([((r_0_1, r_1_1), r_17_1, (vr_18_1, r_18_1))] : List T_api_Asked) :: Ow.box bq 167 #[.int .i64 q_0_2, .pointer (some ⟨bq_at, 0, none⟩), .int .i64 q_2_2, .map (some rq_open)] :: Ow.pm rq_open (fun (x : TA) => .agg (eA x).toArray) pv_query_left th_query_left q_3_2 (some ((gi r_3 n_1), ((mget0 q_3_2 (gi r_3 n_1)).1.1, (mget0 q_3_2 (gi r_3 n_1)).1.2))) :: Ow.box b_1 56 (e_api_Tune t).toArray :: Ow.own 97 19 e_api_Asked v_1 (out_1 ++ ([((r_0_1, r_1_1), r_17_1, (vr_18_1, r_18_1))] : List T_api_Asked)) :: Ow.box b_2 28 (eA (gi r_3 n_1)).toArray :: Ow.own 28 17 eA vr_1 r_3 :: fr) h_15 := hS.perm2 [3, 4, 0, 1, 2, 5, 6, 7, 8, 9, 10] 11 rfl rfl
     refine HO.call (want_none) rfl (ec en_126 rfl rfl) (query_left_tell_walk (fr := (Ow.box bq_at 222 #[.map (some rq_at_at)] :: Ow.map rq_at_at kT kI cm_1 :: Ow.own 97 19 e_api_Asked (.slice (some ⟨b_4, 0, none⟩) 1 1) ([((r_0_1, r_1_1), r_17_1, (vr_18_1, r_18_1))] : List T_api_Asked) :: Ow.box bq 167 #[.int .i64 q_0_2, .pointer (some ⟨bq_at, 0, none⟩), .int .i64 q_2_2, .map (some rq_open)] :: Ow.pm rq_open (fun (x : TA) => .agg (eA x).toArray) pv_query_left th_query_left q_3_2 (some ((gi r_3 n_1), ((mget0 q_3_2 (gi r_3 n_1)).1.1, (mget0 q_3_2 (gi r_3 n_1)).1.2))) :: Ow.box b_1 56 (e_api_Tune t).toArray :: Ow.own 97 19 e_api_Asked v_1 (out_1 ++ ([((r_0_1, r_1_1), r_17_1, (vr_18_1, r_18_1))] : List T_api_Asked)) :: Ow.box b_2 28 (eA (gi r_3 n_1)).toArray :: Ow.own 28 17 eA vr_1 r_3 :: fr)) (((mget0 q_3_2 (gi r_3 n_1)).2).1) (((mget0 q_3_2 (gi r_3 n_1)).2).2) ((mget0 q_3_2 (gi r_3 n_1)).1.1) ((mget0 q_3_2 (gi r_3 n_1)).1.2) hS hM) ?_
     rintro _ h_16 ⟨F_15, x_all_1, xm_1, rfl, hk, hS, hM⟩
     replace hK := hK.trans hk
     replace hN_2 := hN_2.kp hk
     replace hL_9 := hL_9.kp hk
     replace hN_4 := hN_4.kp hk
     replace hN_5 := hN_5.kp hk
     refine HO.nil (thenQ_normal (?_))
     refine HW.seq_mid (fun f h => ∃ (F' : Fz) (q_3_3 : List (TA × (Nat × Nat) × TqL)) (b_5 : Bool), f 0 = .pointer (some ⟨bq, 0, none⟩) ∧ f 1 = .int .i64 r_1 ∧ f 5 = .pointer (some ⟨b_1, 0, none⟩) ∧ f 6 = .bool false ∧ f 7 = .slice none 0 0 ∧ f 8 = v_1 ∧ f 9 = .bool r_2 ∧ f 11 = .pointer (some ⟨b_2, 0, none⟩) ∧ f 24 = vr_1 ∧ f 25 = .int .i64 (r_3.length : Int) ∧ f 26 = .int .i64 n_1 ∧ f 84 = .bool b_5 ∧ Kp F h0 F' h ∧ St F' (Ow.box bq 167 #[.int .i64 q_0_2, .pointer (some ⟨bq_at, 0, none⟩), .int .i64 q_2_2, .map (some rq_open)] :: Ow.box bq_at 222 #[.map (some rq_at_at)] :: Ow.map rq_at_at kT kI cm_1 :: Ow.pm rq_open (fun (x : TA) => .agg (eA x).toArray) pv_query_left th_query_left q_3_3 none :: Ow.box b_1 56 (e_api_Tune t).toArray :: Ow.own 97 19 e_api_Asked v_1 (out_1 ++ ([((r_0_1, r_1_1), r_17_1, (vr_18_1, r_18_1))] : List T_api_Asked)) :: Ow.box b_2 28 (eA (gi r_3 n_1)).toArray :: Ow.own 28 17 eA vr_1 r_3 :: fr) h ∧ (NfL nf_api_Asked F' h out_1) ∧ (SliceF F' h 17 eA vr_18_1 r_18_1) ∧ (NfL nf_api_Asked F' h ([((r_0_1, r_1_1), r_17_1, (vr_18_1, r_18_1))] : List T_api_Asked)) ∧ (NfL nf_api_Asked F' h (out_1 ++ ([((r_0_1, r_1_1), r_17_1, (vr_18_1, r_18_1))] : List T_api_Asked))) ∧ query_Queries_Due_j2 r_3 q_0_2 q_2_2 out_1 n_1 K_1 r_0_1 r_1_1 r_17_1 r_18_1 vr_18_1 cm_1 q_3_3 b_5) ?_ ?_
     ·
      refine HW.region ?_
      refine oM (.pointer (some ⟨(mget0 q_3_2 (gi r_3 n_1)).1.1, 0, none⟩)) rfl rfl ?_
      refine oV (.pointer (some ⟨(mget0 q_3_2 (gi r_3 n_1)).1.1, 0, none⟩)) (q_nilCheck rfl) rfl ?_
      refine oV (.pointer (some ⟨(mget0 q_3_2 (gi r_3 n_1)).1.1, 0, none⟩)) (q_fieldAddr fa_179_0 rfl rfl) rfl ?_
      refine oV (.int .i64 x_all_1) (q_load to_3 rfl (Blk.cell (hS.box 0 rfl) rfl)) rfl ?_
      refine oV (.bool (decide (x_all_1 = 0))) (q_eql rfl rfl) rfl ?_
      refine oM (.bool (decide (x_all_1 = 0))) rfl rfl ?_
      rcases Bool.eq_false_or_eq_true (decide (x_all_1 = 0)) with c_5 | c_5
      ·
       replace hM := hM.1 (of_decide_eq_true c_5)
       refine HO.val (v := .pointer (some ⟨(mget0 q_3_2 (gi r_3 n_1)).1.1, 0, none⟩)) (want_by rfl rfl c_5) rfl (q_move rfl) ?_
       refine HO.val (v := .pointer (some ⟨(mget0 q_3_2 (gi r_3 n_1)).1.1, 0, none⟩)) (want_by rfl rfl c_5) rfl (q_nilCheck rfl) ?_
       refine HO.val (v := .pointer (some ⟨(mget0 q_3_2 (gi r_3 n_1)).1.1, 1, none⟩)) (want_by rfl rfl c_5) rfl (q_fieldAddr fa_179_1 rfl rfl) ?_
       refine HO.val (v := .map (some ((mget0 q_3_2 (gi r_3 n_1)).1.2))) (want_by rfl rfl c_5) rfl (q_load to_177 rfl (Blk.cell (hS.box 0 rfl) rfl)) ?_
       refine HO.val (v := .int .i64 (xm_1.length : Int)) (want_by rfl rfl c_5) rfl (q_lenMap Tryz.underlying177 (hS.mp 1 rfl) rfl rfl) ?_
       refine HO.val (v := .bool (decide ((xm_1.length : Int) = 0))) (want_by rfl rfl c_5) rfl (q_eql rfl rfl) ?_
       refine oV (.bool (decide ((xm_1.length : Int) = 0))) (q_pickK true rfl c_5 rfl) rfl ?_
       refine HO.nil (thenQ_normal (?_))
       replace hS : St F_15 (Ow.box bq_at 222 #[.map (some rq_at_at)] :: Ow.map rq_at_at kT kI cm_1 :: Ow.own 97 19 e_api_Asked (.slice (some ⟨b_4, 0, none⟩) 1 1) ([((r_0_1, r_1_1), r_17_1, (vr_18_1, r_18_1))] : List T_api_Asked) :: Ow.box bq 167 #[.int .i64 q_0_2, .pointer (some ⟨bq_at, 0, none⟩), .int .i64 q_2_2, .map (some rq_open)] :: Ow.pm rq_open (fun (x : TA) => .agg (eA x).toArray) pv_query_left th_query_left (mset q_3_2 (gi r_3 n_1) ((mget0 q_3_2 (gi r_3 n_1)).1, (x_all_1, xm_1))) none :: Ow.box b_1 56 (e_api_Tune t).toArray :: Ow.own 97 19 e_api_Asked v_1 (out_1 ++ ([((r_0_1, r_1_1), r_17_1, (vr_18_1, r_18_1))] : List T_api_Asked)) :: Ow.box b_2 28 (eA (gi r_3 n_1)).toArray :: Ow.own 28 17 eA vr_1 r_3 :: fr) h_16 := St.pmPut (th := th_query_left) (j := (mget0 q_3_2 (gi r_3 n_1)).1) (y := (x_all_1, xm_1)) (St.doboth hS) 4 rfl
       replace hS : St F_15 (Ow.box bq 167 #[.int .i64 q_0_2, .pointer (some ⟨bq_at, 0, none⟩), .int .i64 q_2_2, .map (some rq_open)] :: Ow.box bq_at 222 #[.map (some rq_at_at)] :: Ow.map rq_at_at kT kI cm_1 :: Ow.pm rq_open (fun (x : TA) => .agg (eA x).toArray) pv_query_left th_query_left (mset q_3_2 (gi r_3 n_1) ((mget0 q_3_2 (gi r_3 n_1)).1, (x_all_1, xm_1))) none :: Ow.box b_1 56 (e_api_Tune t).toArray :: Ow.own 97 19 e_api_Asked v_1 (out_1 ++ ([((r_0_1, r_1_1), r_17_1, (vr_18_1, r_18_1))] : List T_api_Asked)) :: Ow.box b_2 28 (eA (gi r_3 n_1)).toArray :: Ow.own 28 17 eA vr_1 r_3 :: fr) h_16 := hS.perm2 [3, 0, 1, 4, 5, 6, 7, 8] 9 rfl rfl
       exact ⟨F_15, mset q_3_2 (gi r_3 n_1) ((mget0 q_3_2 (gi r_3 n_1)).1, (x_all_1, xm_1)), decide ((xm_1.length : Int) = 0), rfl, rfl, rfl, rfl, rfl, rfl, rfl, rfl, rfl, rfl, rfl, rfl, hK, hS, hN_2, hL_9, hN_4, hN_5, hM⟩
      ·
       replace hM := hM.2 (of_decide_eq_false c_5)
       refine HO.past (past_by rfl rfl c_5) rfl ?_
       refine HO.past (past_by rfl rfl c_5) rfl ?_
       refine HO.past (past_by rfl rfl c_5) rfl ?_
       refine HO.past (past_by rfl rfl c_5) rfl ?_
       refine HO.past (past_by rfl rfl c_5) rfl ?_
       refine HO.past (past_by rfl rfl c_5) rfl ?_
       refine oV (.bool false) (q_pickK false rfl c_5 rfl) rfl ?_
       refine HO.nil (thenQ_normal (?_))
       replace hS : St F_15 (Ow.box bq_at 222 #[.map (some rq_at_at)] :: Ow.map rq_at_at kT kI cm_1 :: Ow.own 97 19 e_api_Asked (.slice (some ⟨b_4, 0, none⟩) 1 1) ([((r_0_1, r_1_1), r_17_1, (vr_18_1, r_18_1))] : List T_api_Asked) :: Ow.box bq 167 #[.int .i64 q_0_2, .pointer (some ⟨bq_at, 0, none⟩), .int .i64 q_2_2, .map (some rq_open)] :: Ow.pm rq_open (fun (x : TA) => .agg (eA x).toArray) pv_query_left th_query_left (mset q_3_2 (gi r_3 n_1) ((mget0 q_3_2 (gi r_3 n_1)).1, (x_all_1, xm_1))) none :: Ow.box b_1 56 (e_api_Tune t).toArray :: Ow.own 97 19 e_api_Asked v_1 (out_1 ++ ([((r_0_1, r_1_1), r_17_1, (vr_18_1, r_18_1))] : List T_api_Asked)) :: Ow.box b_2 28 (eA (gi r_3 n_1)).toArray :: Ow.own 28 17 eA vr_1 r_3 :: fr) h_16 := St.pmPut (th := th_query_left) (j := (mget0 q_3_2 (gi r_3 n_1)).1) (y := (x_all_1, xm_1)) (St.doboth hS) 4 rfl
       replace hS : St F_15 (Ow.box bq 167 #[.int .i64 q_0_2, .pointer (some ⟨bq_at, 0, none⟩), .int .i64 q_2_2, .map (some rq_open)] :: Ow.box bq_at 222 #[.map (some rq_at_at)] :: Ow.map rq_at_at kT kI cm_1 :: Ow.pm rq_open (fun (x : TA) => .agg (eA x).toArray) pv_query_left th_query_left (mset q_3_2 (gi r_3 n_1) ((mget0 q_3_2 (gi r_3 n_1)).1, (x_all_1, xm_1))) none :: Ow.box b_1 56 (e_api_Tune t).toArray :: Ow.own 97 19 e_api_Asked v_1 (out_1 ++ ([((r_0_1, r_1_1), r_17_1, (vr_18_1, r_18_1))] : List T_api_Asked)) :: Ow.box b_2 28 (eA (gi r_3 n_1)).toArray :: Ow.own 28 17 eA vr_1 r_3 :: fr) h_16 := hS.perm2 [3, 0, 1, 4, 5, 6, 7, 8] 9 rfl rfl
       exact ⟨F_15, mset q_3_2 (gi r_3 n_1) ((mget0 q_3_2 (gi r_3 n_1)).1, (x_all_1, xm_1)), false, rfl, rfl, rfl, rfl, rfl, rfl, rfl, rfl, rfl, rfl, rfl, rfl, hK, hS, hN_2, hL_9, hN_4, hN_5, hM⟩
     ·
      rintro f_3 h_17 ⟨F_16, q_3_3, b_5, e0, e1, e5, e6, e7, e8, e9, e11, e24, e25, e26, e84, hK, hS, hN_2, hL_9, hN_4, hN_5, hM⟩
      unfold query_Queries_Due_j2 at hM
      refine HW.fr [(0, .pointer (some ⟨bq, 0, none⟩)), (1, .int .i64 r_1), (5, .pointer (some ⟨b_1, 0, none⟩)), (6, .bool false), (7, .slice none 0 0), (8, v_1), (9, .bool r_2), (11, .pointer (some ⟨b_2, 0, none⟩)), (24, vr_1), (25, .int .i64 (r_3.length : Int)), (26, .int .i64 n_1), (84, .bool b_5)] ⟨e0, e1, e5, e6, e7, e8, e9, e11, e24, e25, e26, e84, trivial⟩ ?_
      refine HW.cond b_5 rfl (fun c_6 => ?_) (fun c_6 => ?_)
      ·
       replace hM := hM.1 c_6
       refine HW.region ?_
       refine oM (.pointer (some ⟨bq, 0, none⟩)) rfl rfl ?_
       refine oV (.agg (eA (gi r_3 n_1)).toArray) (q_loadAgg (cs := (eA (gi r_3 n_1))) ta_28 rfl rfl (Blk.cells (k := 17) (hS.box 6 rfl) rfl)) rfl ?_
       refine HO.call (want_none) rfl (ec en_121 rfl rfl) (query_Queries_cancel_walk (fr := (Ow.box b_1 56 (e_api_Tune t).toArray :: Ow.own 97 19 e_api_Asked v_1 (out_1 ++ ([((r_0_1, r_1_1), r_17_1, (vr_18_1, r_18_1))] : List T_api_Asked)) :: Ow.box b_2 28 (eA (gi r_3 n_1)).toArray :: Ow.own 28 17 eA vr_1 r_3 :: fr)) q_0_2 cm_1 q_2_2 q_3_3 (gi r_3 n_1) bq bq_at rq_at_at rq_open hS hM) ?_
       rintro _ h_18 ⟨F_17, r_7, q_now_4, qm_7, q_first_4, qm_8, rfl, hk, hS, hM⟩
       replace hK := hK.trans hk
       replace hN_5 := hN_5.kp hk
       refine HO.nil (blockQ_normal (thenQ_normal (?_)))
       refine HW.region ?_
       obtain ⟨ho_5, hM⟩ := hM
       refine oV (.int .i64 (n_1 + 1)) (q_addN _ rfl rfl rfl ho_5.1 ho_5.2) rfl ?_
       refine oM (.int .i64 (n_1 + 1)) rfl rfl ?_
       refine HO.nil (thenQ_normal (?_))
       replace hS : St F_17 (Ow.box bq 167 #[.int .i64 q_now_4, .pointer (some ⟨bq_at, 0, none⟩), .int .i64 q_first_4, .map (some rq_open)] :: Ow.box bq_at 222 #[.map (some rq_at_at)] :: Ow.map rq_at_at kT kI qm_7 :: Ow.pm rq_open (fun (x : TA) => .agg (eA x).toArray) pv_query_left th_query_left qm_8 none :: Ow.box b_1 56 (e_api_Tune t).toArray :: Ow.own 97 19 e_api_Asked v_1 (out_1 ++ ([((r_0_1, r_1_1), r_17_1, (vr_18_1, r_18_1))] : List T_api_Asked)) :: Ow.own 28 17 eA vr_1 r_3 :: fr) h_18 := hS.perm2 [0, 1, 2, 3, 4, 5, 7] 8 rfl rfl
       rw [hKe_1] at hM
       exact ⟨(q_now_4, qm_7, q_first_4, qm_8, out_1 ++ ([((r_0_1, r_1_1), r_17_1, (vr_18_1, r_18_1))] : List T_api_Asked), n_1 + 1), ⟨F_17, v_1, rfl, rfl, rfl, rfl, rfl, rfl, rfl, rfl, rfl, rfl, hK, hS, hN_5, hM.1⟩, hM.2⟩
      ·
       replace hM := hM.2 c_6
       refine HW.skip (blockQ_normal (thenQ_normal (?_)))
       refine HW.region ?_
       obtain ⟨ho_6, hM⟩ := hM
       refine oV (.int .i64 (n_1 + 1)) (q_addN _ rfl rfl rfl ho_6.1 ho_6.2) rfl ?_
       refine oM (.int .i64 (n_1 + 1)) rfl rfl ?_
       refine HO.nil (thenQ_normal (?_))
       replace hS : St F_16 (Ow.box bq 167 #[.int .i64 q_0_2, .pointer (some ⟨bq_at, 0, none⟩), .int .i64 q_2_2, .map (some rq_open)] :: Ow.box bq_at 222 #[.map (some rq_at_at)] :: Ow.map rq_at_at kT kI cm_1 :: Ow.pm rq_open (fun (x : TA) => .agg (eA x).toArray) pv_query_left th_query_left q_3_3 none :: Ow.box b_1 56 (e_api_Tune t).toArray :: Ow.own 97 19 e_api_Asked v_1 (out_1 ++ ([((r_0_1, r_1_1), r_17_1, (vr_18_1, r_18_1))] : List T_api_Asked)) :: Ow.own 28 17 eA vr_1 r_3 :: fr) h_17 := hS.perm2 [0, 1, 2, 3, 4, 5, 7] 8 rfl rfl
       rw [hKe_1] at hM
       exact ⟨(q_0_2, cm_1, q_2_2, q_3_3, out_1 ++ ([((r_0_1, r_1_1), r_17_1, (vr_18_1, r_18_1))] : List T_api_Asked), n_1 + 1), ⟨F_16, v_1, rfl, rfl, rfl, rfl, rfl, rfl, rfl, rfl, rfl, rfl, hK, hS, hN_5, hM.1⟩, hM.2⟩
    ·
     replace hM := hM.2 c_4
     refine HA.val (k := 5) (v := .pointer none) rfl rfl (by kernel_rfl) (by kernel_rfl) (want_none) rfl (fun _ ⟨hN_2, c453, c454, c455, c456, c457, c458, c459, c460⟩ => q_pmNo (k := (gi r_3 n_1)) ka_28 tmk_165 c456 rfl rfl (pm_none c_4)) ?_
     refine HA.val (k := 6) (v := .pointer none) rfl rfl (by kernel_rfl) (by kernel_rfl) (want_none) rfl (fun _ ⟨hN_2, c453, c454, c455, c456, c457, c458, c459, c460⟩ => q_assign rfl) ?_
     refine HA.nil ⟨⟨hN_2.is, (hS.box 0 rfl), (hS.box 1 rfl), (hS.mp 2 rfl), (hS.pmi 3 rfl).map, (hS.box 4 rfl), (hS.own 5 rfl), (hS.box 6 rfl), (hS.own 7 rfl)⟩, (Go.Wk.at_nil _ _)⟩ (by kernel_rfl) (thenQ_normal (?_))
     refine HW.seq ?_
     refine HW.region ?_
     refine oM (vout_1) rfl rfl ?_
     refine oM (.pointer none) rfl rfl ?_
     refine oV (.agg (eA (gi r_3 n_1)).toArray) (q_loadAgg (cs := (eA (gi r_3 n_1))) ta_28 rfl rfl (Blk.cells (k := 17) (hS.box 6 rfl) rfl)) rfl ?_
     exact hM.elim
 ·
  replace hM := hM.2 (of_decide_eq_false c_1)
  refine HW.exit (thenQ_exit (thenQ_exit (blockQ_exit (thenQ_normal (?_)))))
  refine HW.seq ?_
  refine HW.region ?_
  refine oM (.bool r_2) rfl rfl ?_
  refine oM (vout_1) rfl rfl ?_
  refine oA (.bool r_2) rfl rfl ?_
  refine oA (vout_1) rfl rfl ?_
  refine HO.nil (thenQ_normal (?_))
  refine HW.ret (?_)
  refine ⟨.inr rfl, .tuple #[.bool r_2, vout_1], res2 rfl (rt rfl) (rt rfl), ?_⟩
  replace hS : St F_5 (Ow.own 97 19 e_api_Asked vout_1 out_1 :: Ow.box bq 167 #[.int .i64 q_0_2, .pointer (some ⟨bq_at, 0, none⟩), .int .i64 q_2_2, .map (some rq_open)] :: Ow.box bq_at 222 #[.map (some rq_at_at)] :: Ow.map rq_at_at kT kI q_1_0_2 :: Ow.pm rq_open (fun (x : TA) => .agg (eA x).toArray) pv_query_left th_query_left q_3_2 none :: fr) h_5 := hS.perm2 [5, 0, 1, 2, 3] 7 rfl rfl
  exact ⟨F_5, r_2, out_1, q_0_2, q_1_0_2, q_2_2, q_3_2, vout_1, rfl, hK, hS, hN_2, hM⟩
def law22_lives_W (Q : Bool → Prop) : Prop :=
 query_New_W  (law18_Usual_W  (fun r_4 => query_Queries_Start_W 0 [] 0 [] 0 r_4 (fun q_now_1 qm_1 q_first_1 qm_2 => law18_Usual_W  (fun r_5 => query_Queries_Due_W q_now_1 qm_1 q_first_1 qm_2 0 r_5 (fun r0_1 r1_1 q_now_2 qm_3 q_first_2 qm_4 => law18_Usual_W  (fun r_6 => query_Queries_Due_W q_now_2 qm_3 q_first_2 qm_4 2 r_6 (fun r0_2 r1_2 q_now_3 qm_5 q_first_3 qm_6 => law18_Usual_W  (fun r_7 => query_Queries_Due_W q_now_3 qm_5 q_first_3 qm_6 3 r_7 (fun r0_3 r1_3 q_now_4 qm_7 q_first_4 qm_8 => law18_Usual_W  (fun r_8 => query_Queries_Due_W q_now_4 qm_7 q_first_4 qm_8 14 r_8 (fun r0_4 r1_4 q_now_5 qm_9 q_first_5 qm_10 => law18_Usual_W  (fun r_9 => query_Queries_Due_W q_now_5 qm_9 q_first_5 qm_10 15 r_9 (fun r0_5 r1_5 q_now_6 qm_11 q_first_6 qm_12 => (r0_1 = true → ((!r0_2) = true → (r0_3 = true → ((!r0_4) = true → Q r0_5) ∧ ((!r0_4) = false → Q false)) ∧ (r0_3 = false → Q false)) ∧ ((!r0_2) = false → Q false)) ∧ (r0_1 = false → Q false))))))))))))))
theorem law22_lives_walk {F : Fz} {fr : List Ow} {h0 : Heap}  (hS : St F (fr) h0)  {Q : Bool → Prop} (hM : law22_lives_W Q) :
  HC Tryz.prog 40 #[] h0 fun u h' => ∃ (F' : Fz) (r_1 : Bool), u = .bool r_1 ∧ Kp F h0 F' h' ∧ St F' (fr) h' ∧ Q r_1 := by
 unfold law22_lives_W at hM
 have hK := Kp.refl F h0
 refine HC.of_HW (n := 61) Tryz.func40 rfl rfl (Nat.le_of_ble_eq_true rfl) ?_
 refine HW.seq ?_
 refine HW.region ?_
 refine oA (.bool false) rfl rfl ?_
 refine HO.nil (thenQ_normal (?_))
 refine HW.seq ?_
 refine HW.region ?_
 refine HO.call (want_none) rfl (ec en_41 rfl rfl) (query_New_walk (fr := (fr))  hS hM) ?_
 rintro _ h_1 ⟨F_1, b_1, b_2, r_2, r_3, rfl, hk, hS, hM⟩
 replace hK := hK.trans hk
 refine oA (.pointer (some ⟨b_1, 0, none⟩)) rfl rfl ?_
 refine HO.nil (thenQ_normal (?_))
 refine HW.seq ?_
 refine HW.region ?_
 refine oM (.pointer (some ⟨b_1, 0, none⟩)) rfl rfl ?_
 refine HO.call (want_none) rfl (ec en_21 rfl rfl) (law18_Usual_walk (fr := (Ow.box b_1 167 #[.int .i64 0, .pointer (some ⟨b_2, 0, none⟩), .int .i64 0, .map (some r_3)] :: Ow.box b_2 222 #[.map (some r_2)] :: Ow.map r_2 kT kI ([] : List (Str × Int)) :: Ow.pm r_3 (fun (x : TA) => .agg (eA x).toArray) pv_query_left th_query_left ([] : List (TA × (Nat × Nat) × TqL)) none :: fr))  hS hM) ?_
 rintro _ h_2 ⟨F_2, r_4, rfl, hk, hS, hM⟩
 replace hK := hK.trans hk
 refine HO.call (want_none) rfl (ec en_43 rfl rfl) (query_Queries_Start_walk (fr := (fr)) 0 [] 0 [] 0 r_4 b_1 b_2 r_2 r_3 hS hM) ?_
 rintro _ h_3 ⟨F_3, q_now_1, qm_1, q_first_1, qm_2, rfl, hk, hS, hM⟩
 replace hK := hK.trans hk
 refine HO.nil (thenQ_normal (?_))
 refine HW.seq ?_
 refine HW.region ?_
 refine oM (.pointer (some ⟨b_1, 0, none⟩)) rfl rfl ?_
 refine HO.call (want_none) rfl (ec en_21 rfl rfl) (law18_Usual_walk (fr := (Ow.box b_1 167 #[.int .i64 q_now_1, .pointer (some ⟨b_2, 0, none⟩), .int .i64 q_first_1, .map (some r_3)] :: Ow.box b_2 222 #[.map (some r_2)] :: Ow.map r_2 kT kI qm_1 :: Ow.pm r_3 (fun (x : TA) => .agg (eA x).toArray) pv_query_left th_query_left qm_2 none :: fr))  hS hM) ?_
 rintro _ h_4 ⟨F_4, r_5, rfl, hk, hS, hM⟩
 replace hK := hK.trans hk
 refine HO.call (want_none) rfl (ec en_51 rfl rfl) (query_Queries_Due_walk (fr := (fr)) q_now_1 qm_1 q_first_1 qm_2 0 r_5 b_1 b_2 r_2 r_3 hS hM) ?_
 rintro _ h_5 ⟨F_5, r0_1, r1_1, q_now_2, qm_3, q_first_2, qm_4, vr1_1, rfl, hk, hS, hL_1, hM⟩
 replace hK := hK.trans hk
 refine oM (.tuple #[.bool r0_1, vr1_1]) rfl rfl ?_
 refine oV (.bool r0_1) (q_extract rfl rfl) rfl ?_
 refine oV (vr1_1) (q_extract rfl rfl) rfl ?_
 refine oA (.bool r0_1) rfl rfl ?_
 refine oA (vr1_1) rfl rfl ?_
 refine HO.nil (thenQ_normal (?_))
 refine HW.seq ?_
 refine HW.region ?_
 refine oM (.pointer (some ⟨b_1, 0, none⟩)) rfl rfl ?_
 refine HO.call (want_none) rfl (ec en_21 rfl rfl) (law18_Usual_walk (fr := (Ow.own 97 19 e_api_Asked vr1_1 r1_1 :: Ow.box b_1 167 #[.int .i64 q_now_2, .pointer (some ⟨b_2, 0, none⟩), .int .i64 q_first_2, .map (some r_3)] :: Ow.box b_2 222 #[.map (some r_2)] :: Ow.map r_2 kT kI qm_3 :: Ow.pm r_3 (fun (x : TA) => .agg (eA x).toArray) pv_query_left th_query_left qm_4 none :: fr))  hS hM) ?_
 rintro _ h_6 ⟨F_6, r_6, rfl, hk, hS, hM⟩
 replace hK := hK.trans hk
 replace hS : St F_6 (Ow.box b_1 167 #[.int .i64 q_now_2, .pointer (some ⟨b_2, 0, none⟩), .int .i64 q_first_2, .map (some r_3)] :: Ow.box b_2 222 #[.map (some r_2)] :: Ow.map r_2 kT kI qm_3 :: Ow.pm r_3 (fun (x : TA) => .agg (eA x).toArray) pv_query_left th_query_left qm_4 none :: Ow.own 97 19 e_api_Asked vr1_1 r1_1 :: fr) h_6 := hS.perm2 [1, 2, 3, 4, 0] 5 rfl rfl
 refine HO.call (want_none) rfl (ec en_51 rfl rfl) (query_Queries_Due_walk (fr := (Ow.own 97 19 e_api_Asked vr1_1 r1_1 :: fr)) q_now_2 qm_3 q_first_2 qm_4 2 r_6 b_1 b_2 r_2 r_3 hS hM) ?_
 rintro _ h_7 ⟨F_7, r0_2, r1_2, q_now_3, qm_5, q_first_3, qm_6, vr1_2, rfl, hk, hS, hL_2, hM⟩
 replace hK := hK.trans hk
 refine oM (.tuple #[.bool r0_2, vr1_2]) rfl rfl ?_
 refine oV (.bool r0_2) (q_extract rfl rfl) rfl ?_
 refine oV (vr1_2) (q_extract rfl rfl) rfl ?_
 refine oA (.bool r0_2) rfl rfl ?_
 refine oA (vr1_2) rfl rfl ?_
 refine HO.nil (thenQ_normal (?_))
 refine HW.seq ?_
 refine HW.region ?_
 refine oM (.pointer (some ⟨b_1, 0, none⟩)) rfl rfl ?_
 refine HO.call (want_none) rfl (ec en_21 rfl rfl) (law18_Usual_walk (fr := (Ow.own 97 19 e_api_Asked vr1_2 r1_2 :: Ow.box b_1 167 #[.int .i64 q_now_3, .pointer (some ⟨b_2, 0, none⟩), .int .i64 q_first_3, .map (some r_3)] :: Ow.box b_2 222 #[.map (some r_2)] :: Ow.map r_2 kT kI qm_5 :: Ow.pm r_3 (fun (x : TA) => .agg (eA x).toArray) pv_query_left th_query_left qm_6 none :: Ow.own 97 19 e_api_Asked vr1_1 r1_1 :: fr))  hS hM) ?_
 rintro _ h_8 ⟨F_8, r_7, rfl, hk, hS, hM⟩
 replace hK := hK.trans hk
 replace hS : St F_8 (Ow.box b_1 167 #[.int .i64 q_now_3, .pointer (some ⟨b_2, 0, none⟩), .int .i64 q_first_3, .map (some r_3)] :: Ow.box b_2 222 #[.map (some r_2)] :: Ow.map r_2 kT kI qm_5 :: Ow.pm r_3 (fun (x : TA) => .agg (eA x).toArray) pv_query_left th_query_left qm_6 none :: Ow.own 97 19 e_api_Asked vr1_2 r1_2 :: Ow.own 97 19 e_api_Asked vr1_1 r1_1 :: fr) h_8 := hS.perm2 [1, 2, 3, 4, 0, 5] 6 rfl rfl
 refine HO.call (want_none) rfl (ec en_51 rfl rfl) (query_Queries_Due_walk (fr := (Ow.own 97 19 e_api_Asked vr1_2 r1_2 :: Ow.own 97 19 e_api_Asked vr1_1 r1_1 :: fr)) q_now_3 qm_5 q_first_3 qm_6 3 r_7 b_1 b_2 r_2 r_3 hS hM) ?_
 rintro _ h_9 ⟨F_9, r0_3, r1_3, q_now_4, qm_7, q_first_4, qm_8, vr1_3, rfl, hk, hS, hL_3, hM⟩
 replace hK := hK.trans hk
 refine oM (.tuple #[.bool r0_3, vr1_3]) rfl rfl ?_
 refine oV (.bool r0_3) (q_extract rfl rfl) rfl ?_
 refine oV (vr1_3) (q_extract rfl rfl) rfl ?_
 refine oA (.bool r0_3) rfl rfl ?_
 refine oA (vr1_3) rfl rfl ?_
 refine HO.nil (thenQ_normal (?_))
 refine HW.seq ?_
 refine HW.region ?_
 refine oM (.pointer (some ⟨b_1, 0, none⟩)) rfl rfl ?_
 refine HO.call (want_none) rfl (ec en_21 rfl rfl) (law18_Usual_walk (fr := (Ow.own 97 19 e_api_Asked vr1_3 r1_3 :: Ow.box b_1 167 #[.int .i64 q_now_4, .pointer (some ⟨b_2, 0, none⟩), .int .i64 q_first_4, .map (some r_3)] :: Ow.box b_2 222 #[.map (some r_2)] :: Ow.map r_2 kT kI qm_7 :: Ow.pm r_3 (fun (x : TA) => .agg (eA x).toArray) pv_query_left th_query_left qm_8 none :: Ow.own 97 19 e_api_Asked vr1_2 r1_2 :: Ow.own 97 19 e_api_Asked vr1_1 r1_1 :: fr))  hS hM) ?_
 rintro _ h_10 ⟨F_10, r_8, rfl, hk, hS, hM⟩
 replace hK := hK.trans hk
 replace hS : St F_10 (Ow.box b_1 167 #[.int .i64 q_now_4, .pointer (some ⟨b_2, 0, none⟩), .int .i64 q_first_4, .map (some r_3)] :: Ow.box b_2 222 #[.map (some r_2)] :: Ow.map r_2 kT kI qm_7 :: Ow.pm r_3 (fun (x : TA) => .agg (eA x).toArray) pv_query_left th_query_left qm_8 none :: Ow.own 97 19 e_api_Asked vr1_3 r1_3 :: Ow.own 97 19 e_api_Asked vr1_2 r1_2 :: Ow.own 97 19 e_api_Asked vr1_1 r1_1 :: fr) h_10 := hS.perm2 [1, 2, 3, 4, 0, 5, 6] 7 rfl rfl
 refine HO.call (want_none) rfl (ec en_51 rfl rfl) (query_Queries_Due_walk (fr := (Ow.own 97 19 e_api_Asked vr1_3 r1_3 :: Ow.own 97 19 e_api_Asked vr1_2 r1_2 :: Ow.own 97 19 e_api_Asked vr1_1 r1_1 :: fr)) q_now_4 qm_7 q_first_4 qm_8 14 r_8 b_1 b_2 r_2 r_3 hS hM) ?_
 rintro _ h_11 ⟨F_11, r0_4, r1_4, q_now_5, qm_9, q_first_5, qm_10, vr1_4, rfl, hk, hS, hL_4, hM⟩
 replace hK := hK.trans hk
 refine oM (.tuple #[.bool r0_4, vr1_4]) rfl rfl ?_
 refine oV (.bool r0_4) (q_extract rfl rfl) rfl ?_
 refine oV (vr1_4) (q_extract rfl rfl) rfl ?_
 refine oA (.bool r0_4) rfl rfl ?_
 refine oA (vr1_4) rfl rfl ?_
 refine HO.nil (thenQ_normal (?_))
 refine HW.seq ?_
 refine HW.region ?_
 refine oM (.pointer (some ⟨b_1, 0, none⟩)) rfl rfl ?_
 refine HO.call (want_none) rfl (ec en_21 rfl rfl) (law18_Usual_walk (fr := (Ow.own 97 19 e_api_Asked vr1_4 r1_4 :: Ow.box b_1 167 #[.int .i64 q_now_5, .pointer (some ⟨b_2, 0, none⟩), .int .i64 q_first_5, .map (some r_3)] :: Ow.box b_2 222 #[.map (some r_2)] :: Ow.map r_2 kT kI qm_9 :: Ow.pm r_3 (fun (x : TA) => .agg (eA x).toArray) pv_query_left th_query_left qm_10 none :: Ow.own 97 19 e_api_Asked vr1_3 r1_3 :: Ow.own 97 19 e_api_Asked vr1_2 r1_2 :: Ow.own 97 19 e_api_Asked vr1_1 r1_1 :: fr))  hS hM) ?_
 rintro _ h_12 ⟨F_12, r_9, rfl, hk, hS, hM⟩
 replace hK := hK.trans hk
 replace hS : St F_12 (Ow.box b_1 167 #[.int .i64 q_now_5, .pointer (some ⟨b_2, 0, none⟩), .int .i64 q_first_5, .map (some r_3)] :: Ow.box b_2 222 #[.map (some r_2)] :: Ow.map r_2 kT kI qm_9 :: Ow.pm r_3 (fun (x : TA) => .agg (eA x).toArray) pv_query_left th_query_left qm_10 none :: Ow.own 97 19 e_api_Asked vr1_4 r1_4 :: Ow.own 97 19 e_api_Asked vr1_3 r1_3 :: Ow.own 97 19 e_api_Asked vr1_2 r1_2 :: Ow.own 97 19 e_api_Asked vr1_1 r1_1 :: fr) h_12 := hS.perm2 [1, 2, 3, 4, 0, 5, 6, 7] 8 rfl rfl
 refine HO.call (want_none) rfl (ec en_51 rfl rfl) (query_Queries_Due_walk (fr := (Ow.own 97 19 e_api_Asked vr1_4 r1_4 :: Ow.own 97 19 e_api_Asked vr1_3 r1_3 :: Ow.own 97 19 e_api_Asked vr1_2 r1_2 :: Ow.own 97 19 e_api_Asked vr1_1 r1_1 :: fr)) q_now_5 qm_9 q_first_5 qm_10 15 r_9 b_1 b_2 r_2 r_3 hS hM) ?_
 rintro _ h_13 ⟨F_13, r0_5, r1_5, q_now_6, qm_11, q_first_6, qm_12, vr1_5, rfl, hk, hS, hL_5, hM⟩
 replace hK := hK.trans hk
 refine oM (.tuple #[.bool r0_5, vr1_5]) rfl rfl ?_
 refine oV (.bool r0_5) (q_extract rfl rfl) rfl ?_
 refine oV (vr1_5) (q_extract rfl rfl) rfl ?_
 refine oA (.bool r0_5) rfl rfl ?_
 refine oA (vr1_5) rfl rfl ?_
 refine HO.nil (thenQ_normal (?_))
 refine HW.seq ?_
 refine HW.region ?_
 refine oM (.bool r0_1) rfl rfl ?_
 refine oM (.bool r0_1) rfl rfl ?_
 rcases Bool.eq_false_or_eq_true r0_1 with c_1 | c_1
 ·
  replace hM := hM.1 c_1
  refine HO.val (v := .bool r0_2) (want_by rfl rfl c_1) rfl (q_move rfl) ?_
  refine HO.val (v := .bool (!r0_2)) (want_by rfl rfl c_1) rfl (q_not rfl) ?_
  refine oV (.bool (!r0_2)) (q_pickK true rfl c_1 rfl) rfl ?_
  refine oM (.bool (!r0_2)) rfl rfl ?_
  rcases Bool.eq_false_or_eq_true (!r0_2) with c_2 | c_2
  ·
   replace hM := hM.1 c_2
   refine HO.val (v := .bool r0_3) (want_by rfl rfl c_2) rfl (q_move rfl) ?_
   refine oV (.bool r0_3) (q_pickK true rfl c_2 rfl) rfl ?_
   refine oM (.bool r0_3) rfl rfl ?_
   rcases Bool.eq_false_or_eq_true r0_3 with c_3 | c_3
   ·
    replace hM := hM.1 c_3
    refine HO.val (v := .bool r0_4) (want_by rfl rfl c_3) rfl (q_move rfl) ?_
    refine HO.val (v := .bool (!r0_4)) (want_by rfl rfl c_3) rfl (q_not rfl) ?_
    refine oV (.bool (!r0_4)) (q_pickK true rfl c_3 rfl) rfl ?_
    refine oM (.bool (!r0_4)) rfl rfl ?_
    rcases Bool.eq_false_or_eq_true (!r0_4) with c_4 | c_4
    ·
     replace hM := hM.1 c_4
     refine HO.val (v := .bool r0_5) (want_by rfl rfl c_4) rfl (q_move rfl) ?_
     refine oV (.bool r0_5) (q_pickK true rfl c_4 rfl) rfl ?_
     refine oA (.bool r0_5) rfl rfl ?_
     refine HO.nil (thenQ_normal (?_))
     refine HW.ret (?_)
     refine ⟨.inr rfl, .bool r0_5, res1 rfl (rt rfl), ?_⟩
     replace hS : St F_13 (fr) h_13 := hS.perm2 [] 9 rfl rfl
     exact ⟨F_13, r0_5, rfl, hK, hS, hM⟩
    ·
     replace hM := hM.2 c_4
     refine HO.past (past_by rfl rfl c_4) rfl ?_
     refine oV (.bool false) (q_pickK false rfl c_4 rfl) rfl ?_
     refine oA (.bool false) rfl rfl ?_
     refine HO.nil (thenQ_normal (?_))
     refine HW.ret (?_)
     refine ⟨.inr rfl, .bool false, res1 rfl (rt rfl), ?_⟩
     replace hS : St F_13 (fr) h_13 := hS.perm2 [] 9 rfl rfl
     exact ⟨F_13, false, rfl, hK, hS, hM⟩
   ·
    replace hM := hM.2 c_3
    refine HO.past (past_by rfl rfl c_3) rfl ?_
    refine HO.past (past_by rfl rfl c_3) rfl ?_
    refine oV (.bool false) (q_pickK false rfl c_3 rfl) rfl ?_
    refine oM (.bool false) rfl rfl ?_
    refine HO.past (past_some rfl rfl) rfl ?_
    refine oV (.bool false) (q_pick rfl rfl) rfl ?_
    refine oA (.bool false) rfl rfl ?_
    refine HO.nil (thenQ_normal (?_))
    refine HW.ret (?_)
    refine ⟨.inr rfl, .bool false, res1 rfl (rt rfl), ?_⟩
    replace hS : St F_13 (fr) h_13 := hS.perm2 [] 9 rfl rfl
    exact ⟨F_13, false, rfl, hK, hS, hM⟩
  ·
   replace hM := hM.2 c_2
   refine HO.past (past_by rfl rfl c_2) rfl ?_
   refine oV (.bool false) (q_pickK false rfl c_2 rfl) rfl ?_
   refine oM (.bool false) rfl rfl ?_
   refine HO.past (past_some rfl rfl) rfl ?_
   refine HO.past (past_some rfl rfl) rfl ?_
   refine oV (.bool false) (q_pick rfl rfl) rfl ?_
   refine oM (.bool false) rfl rfl ?_
   refine HO.past (past_some rfl rfl) rfl ?_
   refine oV (.bool false) (q_pick rfl rfl) rfl ?_
   refine oA (.bool false) rfl rfl ?_
   refine HO.nil (thenQ_normal (?_))
   refine HW.ret (?_)
   refine ⟨.inr rfl, .bool false, res1 rfl (rt rfl), ?_⟩
   replace hS : St F_13 (fr) h_13 := hS.perm2 [] 9 rfl rfl
   exact ⟨F_13, false, rfl, hK, hS, hM⟩
 ·
  replace hM := hM.2 c_1
  refine HO.past (past_by rfl rfl c_1) rfl ?_
  refine HO.past (past_by rfl rfl c_1) rfl ?_
  refine oV (.bool false) (q_pickK false rfl c_1 rfl) rfl ?_
  refine oM (.bool false) rfl rfl ?_
  refine HO.past (past_some rfl rfl) rfl ?_
  refine oV (.bool false) (q_pick rfl rfl) rfl ?_
  refine oM (.bool false) rfl rfl ?_
  refine HO.past (past_some rfl rfl) rfl ?_
  refine HO.past (past_some rfl rfl) rfl ?_
  refine oV (.bool false) (q_pick rfl rfl) rfl ?_
  refine oM (.bool false) rfl rfl ?_
  refine HO.past (past_some rfl rfl) rfl ?_
  refine oV (.bool false) (q_pick rfl rfl) rfl ?_
  refine oA (.bool false) rfl rfl ?_
  refine HO.nil (thenQ_normal (?_))
  refine HW.ret (?_)
  refine ⟨.inr rfl, .bool false, res1 rfl (rt rfl), ?_⟩
  replace hS : St F_13 (fr) h_13 := hS.perm2 [] 9 rfl rfl
  exact ⟨F_13, false, rfl, hK, hS, hM⟩
def law08_Addrs_j1 (l : List TA) (Q : (List TA) → Prop) (out_1 : List TA) (i_1 : Int) (K_1 : (List TA) → Int → Prop) (b_2 : Bool) : Prop :=
 (b_2 = true → ((0 : Int) ≤ i_1 ∧ i_1 < (l.length : Int)) ∧ (((out_1.length + ([(gi l i_1)] : List TA).length) * 17 ≤ 140737488355328) ∧ ((I64 (i_1 + 1)) ∧ (K_1 (out_1 ++ ([(gi l i_1)] : List TA)) (i_1 + 1))))) ∧ (b_2 = false → Q out_1)
def law08_Addrs_l1 (l : List TA) (most : Int) (Q : (List TA) → Prop) (K_1 : (List TA) → Int → Prop) (out_1 : List TA) (i_1 : Int) : Prop :=
 (i_1 < (l.length : Int) → law08_Addrs_j1 l Q out_1 i_1 K_1 (decide (i_1 < most))) ∧ (¬ (i_1 < (l.length : Int)) → law08_Addrs_j1 l Q out_1 i_1 K_1 false)
def law08_Addrs_W (l : List TA) (most : Int) (Q : (List TA) → Prop) : Prop :=
 loopW (fun (K_1 : (List TA × Int) → Prop) (s : List TA × Int) => law08_Addrs_l1 l most Q (fun out_1 i_1 => K_1 (out_1, i_1)) s.1 s.2) ([], 0)
theorem law08_Addrs_walk {F : Fz} {fr : List Ow} {h0 : Heap} (l : List TA) (most : Int) (vl : Value) (hS : St F (fr) h0) (hL_l : SliceF F h0 17 eA vl l) {Q : (List TA) → Prop} (hM : law08_Addrs_W l most Q) :
  HC Tryz.prog 58 #[vl, .int .i64 most] h0 fun u h' => ∃ (F' : Fz) (r_1 : List TA) (vr_1 : Value), u = vr_1 ∧ Kp F h0 F' h' ∧ St F' (Ow.own 28 17 eA vr_1 r_1 :: fr) h' ∧ (SliceF F' h' 17 eA vl l) ∧ Q r_1 := by
 unfold law08_Addrs_W at hM
 have hK := Kp.refl F h0
 refine HC.of_HW (n := 27) Tryz.func58 rfl rfl (Nat.le_of_ble_eq_true rfl) ?_
 refine HW.seq ?_
 refine HW.region ?_
 refine oA (.slice none 0 0) rfl rfl ?_
 refine HO.nil (thenQ_normal (?_))
 refine HW.seq ?_
 refine HW.region ?_
 refine HO.eff (want_none) rfl (st_litEmpty (α := TA) eA hS tl_29) ?_
 rintro _ h_1 ⟨b_1, rfl, hS, hk⟩
 replace hK := hK.trans hk
 replace hL_l := hL_l.kp hk
 refine oA (.slice (some ⟨b_1, 0, none⟩) 0 0) rfl rfl ?_
 refine HO.nil (thenQ_normal (?_))
 refine HW.seq ?_
 refine HW.seq ?_
 refine HW.region ?_
 refine oA (.int .i64 0) rfl rfl ?_
 refine HO.nil (thenQ_normal (?_))
 refine HW.block ?_
 obtain ⟨I_1, m_1, hI_1, hR_1⟩ := hM
 refine HW.loop (S := List TA × Int) (fun s f h => match s with | (out_1, i_1) => ∃ (F' : Fz) (vout_1 : Value), f 0 = vl ∧ f 1 = .int .i64 most ∧ f 4 = .slice none 0 0 ∧ f 5 = vout_1 ∧ f 6 = .int .i64 i_1 ∧ Kp F h0 F' h ∧ St F' (Ow.own 28 17 eA vout_1 out_1 :: fr) h ∧ (SliceF F' h 17 eA vl l) ∧ I_1 (out_1, i_1)) m_1 ([], 0) ⟨F, .slice (some ⟨b_1, 0, none⟩) 0 0, rfl, rfl, rfl, rfl, rfl, hK, hS, hL_l, hI_1⟩ ?_
 rintro ⟨out_1, i_1⟩ f_1 h_2 ⟨F_1, vout_1, e0, e1, e4, e5, e6, hK, hS, hL_l, hI0⟩
 obtain ⟨K_1, hKe_1⟩ : ∃ K : (List TA) → Int → Prop, K = fun out_1' i_1' => I_1 (out_1', i_1') ∧ m_1 (out_1', i_1') < m_1 (out_1, i_1) := ⟨_, rfl⟩
 have hM : law08_Addrs_l1 l most Q K_1 out_1 i_1 := by rw [hKe_1]; exact hR_1 (out_1, i_1) hI0
 unfold law08_Addrs_l1 at hM
 refine HW.fr [(0, vl), (1, .int .i64 most), (4, .slice none 0 0), (5, vout_1), (6, .int .i64 i_1)] ⟨e0, e1, e4, e5, e6, trivial⟩ ?_
 refine HW.seq ?_
 refine HW.seq_mid (fun f h => ∃ (F' : Fz) (b_2 : Bool), f 0 = vl ∧ f 1 = .int .i64 most ∧ f 4 = .slice none 0 0 ∧ f 5 = vout_1 ∧ f 6 = .int .i64 i_1 ∧ f 16 = .bool b_2 ∧ Kp F h0 F' h ∧ St F' (Ow.own 28 17 eA vout_1 out_1 :: fr) h ∧ (SliceF F' h 17 eA vl l) ∧ law08_Addrs_j1 l Q out_1 i_1 K_1 b_2) ?_ ?_
 ·
  refine HW.region ?_
  refine oM (.int .i64 i_1) rfl rfl ?_
  refine oM (vl) rfl rfl ?_
  refine oV (.int .i64 (l.length : Int)) (q_len ts_29 (shp hL_l.is) rfl rfl) rfl ?_
  refine oV (.bool (decide (i_1 < (l.length : Int)))) (q_lss rfl rfl) rfl ?_
  refine oM (.bool (decide (i_1 < (l.length : Int)))) rfl rfl ?_
  rcases Bool.eq_false_or_eq_true (decide (i_1 < (l.length : Int))) with c_1 | c_1
  ·
   replace hM := hM.1 (of_decide_eq_true c_1)
   refine HO.val (v := .int .i64 i_1) (want_by rfl rfl c_1) rfl (q_move rfl) ?_
   refine HO.val (v := .int .i64 most) (want_by rfl rfl c_1) rfl (q_move rfl) ?_
   refine HO.val (v := .bool (decide (i_1 < most))) (want_by rfl rfl c_1) rfl (q_lss rfl rfl) ?_
   refine oV (.bool (decide (i_1 < most))) (q_pickK true rfl c_1 rfl) rfl ?_
   refine HO.nil (thenQ_normal (?_))
   exact ⟨F_1, decide (i_1 < most), rfl, rfl, rfl, rfl, rfl, rfl, hK, hS, hL_l, hM⟩
  ·
   replace hM := hM.2 (of_decide_eq_false c_1)
   refine HO.past (past_by rfl rfl c_1) rfl ?_
   refine HO.past (past_by rfl rfl c_1) rfl ?_
   refine HO.past (past_by rfl rfl c_1) rfl ?_
   refine oV (.bool false) (q_pickK false rfl c_1 rfl) rfl ?_
   refine HO.nil (thenQ_normal (?_))
   exact ⟨F_1, false, rfl, rfl, rfl, rfl, rfl, rfl, hK, hS, hL_l, hM⟩
 ·
  rintro f_2 h_3 ⟨F_2, b_2, e0, e1, e4, e5, e6, e16, hK, hS, hL_l, hM⟩
  unfold law08_Addrs_j1 at hM
  refine HW.fr [(0, vl), (1, .int .i64 most), (4, .slice none 0 0), (5, vout_1), (6, .int .i64 i_1), (16, .bool b_2)] ⟨e0, e1, e4, e5, e6, e16, trivial⟩ ?_
  refine HW.cond b_2 rfl (fun c_2 => ?_) (fun c_2 => ?_)
  ·
   replace hM := hM.1 c_2
   refine HW.skip (thenQ_normal (?_))
   refine HW.seq ?_
   refine HW.block ?_
   refine HW.region ?_
   refine oM (vout_1) rfl rfl ?_
   refine oM (vl) rfl rfl ?_
   refine oM (.int .i64 i_1) rfl rfl ?_
   obtain ⟨ho_1, hM⟩ := hM
   refine oV (elemPtr 17 vl (i_1).toNat) (q_idx ts_29 hL_l.is rfl rfl ho_1) rfl ?_
   refine oV (.agg (eA (gi l i_1)).toArray) (q_ldElemAgg (cs := (eA (gi l i_1))) ta_28 hL_l.is rfl ho_1 rfl) rfl ?_
   refine HO.eff (want_none) rfl (st_lit (enc := eA) (cells := #[.bool ((gi l i_1).1), .int .u8 (b8 ((gi l i_1).2) 0), .int .u8 (b8 ((gi l i_1).2) 1), .int .u8 (b8 ((gi l i_1).2) 2), .int .u8 (b8 ((gi l i_1).2) 3), .int .u8 (b8 ((gi l i_1).2) 4), .int .u8 (b8 ((gi l i_1).2) 5), .int .u8 (b8 ((gi l i_1).2) 6), .int .u8 (b8 ((gi l i_1).2) 7), .int .u8 (b8 ((gi l i_1).2) 8), .int .u8 (b8 ((gi l i_1).2) 9), .int .u8 (b8 ((gi l i_1).2) 10), .int .u8 (b8 ((gi l i_1).2) 11), .int .u8 (b8 ((gi l i_1).2) 12), .int .u8 (b8 ((gi l i_1).2) 13), .int .u8 (b8 ((gi l i_1).2) 14), .int .u8 (b8 ((gi l i_1).2) 15)]) #[.bool false, .int .u8 0, .int .u8 0, .int .u8 0, .int .u8 0, .int .u8 0, .int .u8 0, .int .u8 0, .int .u8 0, .int .u8 0, .int .u8 0, .int .u8 0, .int .u8 0, .int .u8 0, .int .u8 0, .int .u8 0, .int .u8 0] ([(gi l i_1)] : List TA) hS tl_29 (by decide) (by decide) (by kernel_rfl) (by kernel_rfl) rfl (by intro x hx; rfl) rfl) ?_
   rintro _ h_4 ⟨b_3, rfl, hS, hk⟩
   replace hK := hK.trans hk
   replace hL_l := hL_l.kp hk
   obtain ⟨ho_2, hM⟩ := hM
   refine HO.eff (want_none) rfl (st_append te_29 hS (i := 1) rfl (hS.own 0 rfl).slice rfl rfl rfl (by intro a _ u hu; simp [eA, encI, encN, encB, encT] at hu; rcases hu with rfl | rfl | rfl | rfl | rfl | rfl | rfl | rfl | rfl | rfl | rfl | rfl | rfl | rfl | rfl | rfl | rfl <;> rfl) ho_2 (by omega)) ?_
   rintro v_1 h_5 ⟨hS, hk⟩
   replace hK := hK.trans hk
   replace hL_l := hL_l.kp hk
   refine oA (v_1) rfl rfl ?_
   refine HO.nil (blockQ_normal (thenQ_normal (?_)))
   refine HW.region ?_
   refine oM (.int .i64 i_1) rfl rfl ?_
   obtain ⟨ho_3, hM⟩ := hM
   refine oV (.int .i64 (i_1 + 1)) (q_addN _ rfl rfl rfl ho_3.1 ho_3.2) rfl ?_
   refine oA (.int .i64 (i_1 + 1)) rfl rfl ?_
   refine HO.nil (thenQ_normal (?_))
   replace hS : St F_2 (Ow.own 28 17 eA v_1 (out_1 ++ ([(gi l i_1)] : List TA)) :: fr) h_5 := hS.perm2 [1] 2 rfl rfl
   rw [hKe_1] at hM
   exact ⟨(out_1 ++ ([(gi l i_1)] : List TA), i_1 + 1), ⟨F_2, v_1, rfl, rfl, rfl, rfl, rfl, hK, hS, hL_l, hM.1⟩, hM.2⟩
  ·
   replace hM := hM.2 c_2
   refine HW.exit (thenQ_exit (thenQ_exit (blockQ_exit (thenQ_normal (?_)))))
   refine HW.seq ?_
   refine HW.region ?_
   refine oM (vout_1) rfl rfl ?_
   refine oA (vout_1) rfl rfl ?_
   refine HO.nil (thenQ_normal (?_))
   refine HW.ret (?_)
   refine ⟨.inr rfl, vout_1, res1 rfl (rt rfl), ?_⟩
   exact ⟨F_2, out_1, vout_1, rfl, hK, hS, hL_l, hM⟩
def law22_Act_j1 (a_Kind : Int) (a_Wait : Int) (a_A_Group : TA) (a_A_All : Bool) (Q : Int → Int → Bool → (Ba 16) → Bool → (List TA) → Prop) (r_1 : List TA) (b_3 : Bool) : Prop :=
 (b_3 = true → Q a_Kind 1 a_A_Group.1 a_A_Group.2 a_A_All r_1) ∧ (b_3 = false → Q a_Kind a_Wait a_A_Group.1 a_A_Group.2 a_A_All r_1)
def law22_Act_W (a_Kind : Int) (a_Wait : Int) (a_A_Group : TA) (a_A_All : Bool) (a_A_Sources : List TA) (Q : Int → Int → Bool → (Ba 16) → Bool → (List TA) → Prop) : Prop :=
 law08_Addrs_W a_A_Sources 5 (fun r_1 => (1000000 < a_Wait → law22_Act_j1 a_Kind a_Wait a_A_Group a_A_All Q r_1 true) ∧ (¬ (1000000 < a_Wait) → law22_Act_j1 a_Kind a_Wait a_A_Group a_A_All Q r_1 (decide (a_Wait < (-1000000)))))
theorem law22_Act_walk {F : Fz} {fr : List Ow} {h0 : Heap} (a_Kind : Int) (a_Wait : Int) (a_A_Group : TA) (a_A_All : Bool) (a_A_Sources : List TA) (va_A_Sources : Value) (hS : St F (fr) h0) (hL_a_A_Sources : SliceF F h0 17 eA va_A_Sources a_A_Sources) {Q : Int → Int → Bool → (Ba 16) → Bool → (List TA) → Prop} (hM : law22_Act_W a_Kind a_Wait a_A_Group a_A_All a_A_Sources Q) :
  HC Tryz.prog 42 #[.agg (c_acequiaref22_Act (.int .i64 a_Kind) (.int .i64 a_Wait) a_A_Group (.bool a_A_All) va_A_Sources).toArray] h0 fun u h' => ∃ (F' : Fz) (r_0_1 : Int) (r_1_1 : Int) (r_2_1 : Bool) (r_3_1 : Ba 16) (r_19_1 : Bool) (r_20_1 : List TA) (vr_20_1 : Value), u = .agg (c_acequiaref22_Act (.int .i64 r_0_1) (.int .i64 r_1_1) (r_2_1, r_3_1) (.bool r_19_1) vr_20_1).toArray ∧ Kp F h0 F' h' ∧ St F' (Ow.own 28 17 eA vr_20_1 r_20_1 :: fr) h' ∧ (SliceF F' h' 17 eA va_A_Sources a_A_Sources) ∧ Q r_0_1 r_1_1 r_2_1 r_3_1 r_19_1 r_20_1 := by
 unfold law22_Act_W at hM
 have hK := Kp.refl F h0
 refine HC.of_HW (n := 19) Tryz.func42 rfl rfl (Nat.le_of_ble_eq_true rfl) ?_
 refine HW.seq ?_
 refine HW.region ?_
 refine HO.eff (want_none) rfl (st_box (c := (c_acequiaref22_Act (.int .i64 a_Kind) (.int .i64 a_Wait) a_A_Group (.bool a_A_All) va_A_Sources).toArray) (k' := 21) hS rfl rfl) ?_
 rintro _ h_1 ⟨b_1, rfl, hS, hk⟩
 replace hK := hK.trans hk
 replace hL_a_A_Sources := hL_a_A_Sources.kp hk
 refine HO.eff (want_none) rfl (st_alloc (c := (c_acequiaref22_Act (.int .i64 0) (.int .i64 0) (false, (default : Ba 16)) (.bool false) (.slice none 0 0)).toArray) hS tz_99 rfl) ?_
 rintro _ h_2 ⟨b_2, rfl, hS, hk⟩
 replace hK := hK.trans hk
 replace hL_a_A_Sources := hL_a_A_Sources.kp hk
 refine HO.nil (thenQ_normal (?_))
 refine HW.seq ?_
 refine HW.region ?_
 refine oV (.pointer (some ⟨b_1, 2, none⟩)) (q_fieldAddr fa_99_2 rfl rfl) rfl ?_
 refine oV (.pointer (some ⟨b_1, 20, none⟩)) (q_fieldAddr fa_97_2 rfl rfl) rfl ?_
 refine oV (va_A_Sources) (q_load to_29 rfl (Blk.cell (hS.box 1 rfl) rfl)) rfl ?_
 refine HO.call (want_none) rfl (ec en_58 rfl rfl) (law08_Addrs_walk (fr := (Ow.box b_2 99 (c_acequiaref22_Act (.int .i64 0) (.int .i64 0) (false, (default : Ba 16)) (.bool false) (.slice none 0 0)).toArray :: Ow.box b_1 99 (c_acequiaref22_Act (.int .i64 a_Kind) (.int .i64 a_Wait) a_A_Group (.bool a_A_All) va_A_Sources).toArray :: fr)) a_A_Sources 5 va_A_Sources hS hL_a_A_Sources hM) ?_
 rintro vr_1 h_3 ⟨F_1, r_1, _, rfl, hk, hS, _, hM⟩
 replace hK := hK.trans hk
 replace hL_a_A_Sources := hL_a_A_Sources.kp hk
 refine oV (.pointer (some ⟨b_1, 2, none⟩)) (q_fieldAddr fa_99_2 rfl rfl) rfl ?_
 refine oV (.pointer (some ⟨b_1, 20, none⟩)) (q_fieldAddr fa_97_2 rfl rfl) rfl ?_
 refine HO.sto (want_none) rfl (st_store (c' := (c_acequiaref22_Act (.int .i64 a_Kind) (.int .i64 a_Wait) a_A_Group (.bool a_A_All) vr_1).toArray) hS (i := 2) rfl to_29 rfl rfl (shp (hS.own 0 rfl).slice).cells (shp (hS.own 0 rfl).slice).one (Nat.le_of_ble_eq_true rfl) rfl) ?_
 rintro h_4 ⟨hS, hk⟩
 replace hK := hK.trans hk
 replace hL_a_A_Sources := hL_a_A_Sources.kp hk
 refine HO.nil (thenQ_normal (?_))
 refine HW.seq ?_
 refine HW.seq_mid (fun f h => ∃ (F' : Fz) (b_3 : Bool), f 1 = .pointer (some ⟨b_1, 0, none⟩) ∧ f 2 = .pointer (some ⟨b_2, 0, none⟩) ∧ f 16 = .bool b_3 ∧ Kp F h0 F' h ∧ St F' (Ow.box b_1 99 (c_acequiaref22_Act (.int .i64 a_Kind) (.int .i64 a_Wait) a_A_Group (.bool a_A_All) vr_1).toArray :: Ow.own 28 17 eA vr_1 r_1 :: Ow.box b_2 99 (c_acequiaref22_Act (.int .i64 0) (.int .i64 0) (false, (default : Ba 16)) (.bool false) (.slice none 0 0)).toArray :: fr) h ∧ (SliceF F' h 17 eA va_A_Sources a_A_Sources) ∧ law22_Act_j1 a_Kind a_Wait a_A_Group a_A_All Q r_1 b_3) ?_ ?_
 ·
  refine HW.region ?_
  refine oV (.pointer (some ⟨b_1, 1, none⟩)) (q_fieldAddr fa_99_1 rfl rfl) rfl ?_
  refine oV (.int .i64 a_Wait) (q_load to_3 rfl (Blk.cell (hS.box 2 rfl) rfl)) rfl ?_
  refine oV (.bool (decide (1000000 < a_Wait))) (q_gtr rfl rfl) rfl ?_
  refine oM (.bool (decide (1000000 < a_Wait))) rfl rfl ?_
  rcases Bool.eq_false_or_eq_true (decide (1000000 < a_Wait)) with c_1 | c_1
  ·
   replace hM := hM.1 (of_decide_eq_true c_1)
   refine HO.past (past_by rfl rfl c_1) rfl ?_
   refine HO.past (past_by rfl rfl c_1) rfl ?_
   refine HO.past (past_by rfl rfl c_1) rfl ?_
   refine oV (.bool true) (q_pickK true rfl c_1 rfl) rfl ?_
   refine HO.nil (thenQ_normal (?_))
   replace hS : St F_1 (Ow.box b_1 99 (c_acequiaref22_Act (.int .i64 a_Kind) (.int .i64 a_Wait) a_A_Group (.bool a_A_All) vr_1).toArray :: Ow.own 28 17 eA vr_1 r_1 :: Ow.box b_2 99 (c_acequiaref22_Act (.int .i64 0) (.int .i64 0) (false, (default : Ba 16)) (.bool false) (.slice none 0 0)).toArray :: fr) h_4 := hS.perm2 [2, 0, 1] 3 rfl rfl
   exact ⟨F_1, true, rfl, rfl, rfl, hK, hS, hL_a_A_Sources, hM⟩
  ·
   replace hM := hM.2 (of_decide_eq_false c_1)
   refine HO.val (v := .pointer (some ⟨b_1, 1, none⟩)) (want_by rfl rfl c_1) rfl (q_fieldAddr fa_99_1 rfl rfl) ?_
   refine HO.val (v := .int .i64 a_Wait) (want_by rfl rfl c_1) rfl (q_load to_3 rfl (Blk.cell (hS.box 2 rfl) rfl)) ?_
   refine HO.val (v := .bool (decide (a_Wait < (-1000000)))) (want_by rfl rfl c_1) rfl (q_lss rfl rfl) ?_
   refine oV (.bool (decide (a_Wait < (-1000000)))) (q_pickK false rfl c_1 rfl) rfl ?_
   refine HO.nil (thenQ_normal (?_))
   replace hS : St F_1 (Ow.box b_1 99 (c_acequiaref22_Act (.int .i64 a_Kind) (.int .i64 a_Wait) a_A_Group (.bool a_A_All) vr_1).toArray :: Ow.own 28 17 eA vr_1 r_1 :: Ow.box b_2 99 (c_acequiaref22_Act (.int .i64 0) (.int .i64 0) (false, (default : Ba 16)) (.bool false) (.slice none 0 0)).toArray :: fr) h_4 := hS.perm2 [2, 0, 1] 3 rfl rfl
   exact ⟨F_1, decide (a_Wait < (-1000000)), rfl, rfl, rfl, hK, hS, hL_a_A_Sources, hM⟩
 ·
  rintro f_1 h_5 ⟨F_2, b_3, e1, e2, e16, hK, hS, hL_a_A_Sources, hM⟩
  unfold law22_Act_j1 at hM
  refine HW.fr [(1, .pointer (some ⟨b_1, 0, none⟩)), (2, .pointer (some ⟨b_2, 0, none⟩)), (16, .bool b_3)] ⟨e1, e2, e16, trivial⟩ ?_
  refine HW.cond b_3 rfl (fun c_2 => ?_) (fun c_2 => ?_)
  ·
   replace hM := hM.1 c_2
   refine HW.region ?_
   refine oV (.pointer (some ⟨b_1, 1, none⟩)) (q_fieldAddr fa_99_1 rfl rfl) rfl ?_
   refine HO.sto (want_none) rfl (st_store (c' := (c_acequiaref22_Act (.int .i64 a_Kind) (.int .i64 1) a_A_Group (.bool a_A_All) vr_1).toArray) hS (i := 0) rfl to_3 rfl rfl rfl rfl (Nat.le_of_ble_eq_true rfl) rfl) ?_
   rintro h_6 ⟨hS, hk⟩
   replace hK := hK.trans hk
   replace hL_a_A_Sources := hL_a_A_Sources.kp hk
   refine HO.nil (thenQ_normal (?_))
   refine HW.seq ?_
   refine HW.region ?_
   refine oV (.agg (c_acequiaref22_Act (.int .i64 a_Kind) (.int .i64 1) a_A_Group (.bool a_A_All) vr_1).toArray) (q_loadAgg (cs := (c_acequiaref22_Act (.int .i64 a_Kind) (.int .i64 1) a_A_Group (.bool a_A_All) vr_1)) ta_99 rfl rfl (Blk.cells (k := 21) (hS.box 0 rfl) rfl)) rfl ?_
   refine HO.sto (want_none) rfl (st_storeAgg (c' := (c_acequiaref22_Act (.int .i64 a_Kind) (.int .i64 1) a_A_Group (.bool a_A_All) vr_1).toArray) hS (i := 2) rfl ta_99 rfl rfl rfl (List.forall_mem_cons.2 ⟨rfl, (List.forall_mem_cons.2 ⟨rfl, (List.forall_mem_cons.2 ⟨rfl, (List.forall_mem_cons.2 ⟨rfl, (List.forall_mem_cons.2 ⟨rfl, (List.forall_mem_cons.2 ⟨rfl, (List.forall_mem_cons.2 ⟨rfl, (List.forall_mem_cons.2 ⟨rfl, (List.forall_mem_cons.2 ⟨rfl, (List.forall_mem_cons.2 ⟨rfl, (List.forall_mem_cons.2 ⟨rfl, (List.forall_mem_cons.2 ⟨rfl, (List.forall_mem_cons.2 ⟨rfl, (List.forall_mem_cons.2 ⟨rfl, (List.forall_mem_cons.2 ⟨rfl, (List.forall_mem_cons.2 ⟨rfl, (List.forall_mem_cons.2 ⟨rfl, (List.forall_mem_cons.2 ⟨rfl, (List.forall_mem_cons.2 ⟨rfl, (List.forall_mem_cons.2 ⟨rfl, (List.forall_mem_cons.2 ⟨(shp (hS.own 1 rfl).slice).one, (fun _ h => by cases h)⟩)⟩)⟩)⟩)⟩)⟩)⟩)⟩)⟩)⟩)⟩)⟩)⟩)⟩)⟩)⟩)⟩)⟩)⟩)⟩)⟩) (Nat.le_of_ble_eq_true rfl) rfl) ?_
   rintro h_7 ⟨hS, hk⟩
   replace hK := hK.trans hk
   replace hL_a_A_Sources := hL_a_A_Sources.kp hk
   refine HO.nil (thenQ_normal (?_))
   refine HW.ret (?_)
   refine ⟨.inr rfl, .agg (c_acequiaref22_Act (.int .i64 a_Kind) (.int .i64 1) a_A_Group (.bool a_A_All) vr_1).toArray, res1 rfl (rca (cs := (c_acequiaref22_Act (.int .i64 a_Kind) (.int .i64 1) a_A_Group (.bool a_A_All) vr_1)) ta_99 rfl rfl (Blk.cells (k := 21) (hS.box 2 rfl) rfl)), ?_⟩
   replace hS : St F_2 (Ow.own 28 17 eA vr_1 r_1 :: fr) h_7 := hS.perm2 [1] 3 rfl rfl
   exact ⟨F_2, a_Kind, 1, a_A_Group.1, a_A_Group.2, a_A_All, r_1, vr_1, rfl, hK, hS, hL_a_A_Sources, hM⟩
  ·
   replace hM := hM.2 c_2
   refine HW.skip (thenQ_normal (?_))
   refine HW.seq ?_
   refine HW.region ?_
   refine oV (.agg (c_acequiaref22_Act (.int .i64 a_Kind) (.int .i64 a_Wait) a_A_Group (.bool a_A_All) vr_1).toArray) (q_loadAgg (cs := (c_acequiaref22_Act (.int .i64 a_Kind) (.int .i64 a_Wait) a_A_Group (.bool a_A_All) vr_1)) ta_99 rfl rfl (Blk.cells (k := 21) (hS.box 0 rfl) rfl)) rfl ?_
   refine HO.sto (want_none) rfl (st_storeAgg (c' := (c_acequiaref22_Act (.int .i64 a_Kind) (.int .i64 a_Wait) a_A_Group (.bool a_A_All) vr_1).toArray) hS (i := 2) rfl ta_99 rfl rfl rfl (List.forall_mem_cons.2 ⟨rfl, (List.forall_mem_cons.2 ⟨rfl, (List.forall_mem_cons.2 ⟨rfl, (List.forall_mem_cons.2 ⟨rfl, (List.forall_mem_cons.2 ⟨rfl, (List.forall_mem_cons.2 ⟨rfl, (List.forall_mem_cons.2 ⟨rfl, (List.forall_mem_cons.2 ⟨rfl, (List.forall_mem_cons.2 ⟨rfl, (List.forall_mem_cons.2 ⟨rfl, (List.forall_mem_cons.2 ⟨rfl, (List.forall_mem_cons.2 ⟨rfl, (List.forall_mem_cons.2 ⟨rfl, (List.forall_mem_cons.2 ⟨rfl, (List.forall_mem_cons.2 ⟨rfl, (List.forall_mem_cons.2 ⟨rfl, (List.forall_mem_cons.2 ⟨rfl, (List.forall_mem_cons.2 ⟨rfl, (List.forall_mem_cons.2 ⟨rfl, (List.forall_mem_cons.2 ⟨rfl, (List.forall_mem_cons.2 ⟨(shp (hS.own 1 rfl).slice).one, (fun _ h => by cases h)⟩)⟩)⟩)⟩)⟩)⟩)⟩)⟩)⟩)⟩)⟩)⟩)⟩)⟩)⟩)⟩)⟩)⟩)⟩)⟩)⟩) (Nat.le_of_ble_eq_true rfl) rfl) ?_
   rintro h_8 ⟨hS, hk⟩
   replace hK := hK.trans hk
   replace hL_a_A_Sources := hL_a_A_Sources.kp hk
   refine HO.nil (thenQ_normal (?_))
   refine HW.ret (?_)
   refine ⟨.inr rfl, .agg (c_acequiaref22_Act (.int .i64 a_Kind) (.int .i64 a_Wait) a_A_Group (.bool a_A_All) vr_1).toArray, res1 rfl (rca (cs := (c_acequiaref22_Act (.int .i64 a_Kind) (.int .i64 a_Wait) a_A_Group (.bool a_A_All) vr_1)) ta_99 rfl rfl (Blk.cells (k := 21) (hS.box 2 rfl) rfl)), ?_⟩
   replace hS : St F_2 (Ow.own 28 17 eA vr_1 r_1 :: fr) h_8 := hS.perm2 [1] 3 rfl rfl
   exact ⟨F_2, a_Kind, a_Wait, a_A_Group.1, a_A_Group.2, a_A_All, r_1, vr_1, rfl, hK, hS, hL_a_A_Sources, hM⟩
def ref01_Within_W (n : Int) (least : Int) (most : Int) (Q : Int → Prop) : Prop :=
 (n < least → Q least) ∧ (¬ (n < least) → (most < n → Q most) ∧ (¬ (most < n) → Q n))
theorem ref01_Within_walk {F : Fz} {fr : List Ow} {h0 : Heap} (n : Int) (least : Int) (most : Int) (hS : St F (fr) h0)  {Q : Int → Prop} (hM : ref01_Within_W n least most Q) :
  HC Tryz.prog 66 #[.int .i64 n, .int .i64 least, .int .i64 most] h0 fun u h' => ∃ (F' : Fz) (r_1 : Int), u = .int .i64 r_1 ∧ Kp F h0 F' h' ∧ St F' (fr) h' ∧ Q r_1 := by
 unfold ref01_Within_W at hM
 have hK := Kp.refl F h0
 refine HC.of_HW (n := 16) Tryz.func66 rfl rfl (Nat.le_of_ble_eq_true rfl) ?_
 refine HW.seq ?_
 refine HW.region ?_
 refine oA (.int .i64 0) rfl rfl ?_
 refine HO.nil (thenQ_normal (?_))
 refine HW.seq ?_
 refine HW.seq ?_
 refine HW.region ?_
 refine oM (.int .i64 n) rfl rfl ?_
 refine oM (.int .i64 least) rfl rfl ?_
 refine oV (.bool (decide (n < least))) (q_lss rfl rfl) rfl ?_
 refine HO.nil (thenQ_normal (?_))
 refine HW.cond (decide (n < least)) rfl (fun c_1 => ?_) (fun c_1 => ?_)
 ·
  replace hM := hM.1 (of_decide_eq_true c_1)
  refine HW.seq ?_
  refine HW.region ?_
  refine oM (.int .i64 least) rfl rfl ?_
  refine oA (.int .i64 least) rfl rfl ?_
  refine HO.nil (thenQ_normal (?_))
  refine HW.ret (thenQ_ret (?_))
  refine ⟨.inr rfl, .int .i64 least, res1 rfl (rt rfl), ?_⟩
  exact ⟨F, least, rfl, hK, hS, hM⟩
 ·
  replace hM := hM.2 (of_decide_eq_false c_1)
  refine HW.skip (thenQ_normal (?_))
  refine HW.seq ?_
  refine HW.seq ?_
  refine HW.region ?_
  refine oM (.int .i64 n) rfl rfl ?_
  refine oM (.int .i64 most) rfl rfl ?_
  refine oV (.bool (decide (most < n))) (q_gtr rfl rfl) rfl ?_
  refine HO.nil (thenQ_normal (?_))
  refine HW.cond (decide (most < n)) rfl (fun c_2 => ?_) (fun c_2 => ?_)
  ·
   replace hM := hM.1 (of_decide_eq_true c_2)
   refine HW.seq ?_
   refine HW.region ?_
   refine oM (.int .i64 most) rfl rfl ?_
   refine oA (.int .i64 most) rfl rfl ?_
   refine HO.nil (thenQ_normal (?_))
   refine HW.ret (thenQ_ret (?_))
   refine ⟨.inr rfl, .int .i64 most, res1 rfl (rt rfl), ?_⟩
   exact ⟨F, most, rfl, hK, hS, hM⟩
  ·
   replace hM := hM.2 (of_decide_eq_false c_2)
   refine HW.skip (thenQ_normal (?_))
   refine HW.seq ?_
   refine HW.region ?_
   refine oM (.int .i64 n) rfl rfl ?_
   refine oA (.int .i64 n) rfl rfl ?_
   refine HO.nil (thenQ_normal (?_))
   refine HW.ret (?_)
   refine ⟨.inr rfl, .int .i64 n, res1 rfl (rt rfl), ?_⟩
   exact ⟨F, n, rfl, hK, hS, hM⟩
def ref22_Q_Settle_W (q_Now : Int) (q_On : Bool) (q_At : Int) (q_First : Int) (q_L : List TrO) (now : Int) (ps : List (SV × List TrL)) (Q : (List (SV × List TrL)) → Int → Bool → Int → Int → (List TrO) → Prop) : Prop :=
 ref01_Within_W now 0 1000000000000 (fun r_1 => (q_Now < r_1 → Q ps r_1 q_On q_At q_First q_L) ∧ (¬ (q_Now < r_1) → Q ps q_Now q_On q_At q_First q_L))
theorem ref22_Q_Settle_walk {F : Fz} {fr : List Ow} {h0 : Heap} (q_Now : Int) (q_On : Bool) (q_At : Int) (q_First : Int) (q_L : List TrO) (now : Int) (ps : List (SV × List TrL)) (bq : Nat) (vq_L : Value) (hS : St F (Ow.box bq 95 #[.int .i64 q_Now, .bool q_On, .int .i64 q_At, .int .i64 q_First, vq_L] :: Ow.own 184 20 erO vq_L q_L :: Ow.pool 190 18 erL ps :: fr) h0)  {Q : (List (SV × List TrL)) → Int → Bool → Int → Int → (List TrO) → Prop} (hM : ref22_Q_Settle_W q_Now q_On q_At q_First q_L now ps Q) :
  HC Tryz.prog 112 #[.pointer (some ⟨bq, 0, none⟩), .int .i64 now] h0 fun u h' => ∃ (F' : Fz) (ps_1 : List (SV × List TrL)) (q_Now_1 : Int) (q_On_1 : Bool) (q_At_1 : Int) (q_First_1 : Int) (q_L_1 : List TrO) (v_1 : Value), u = .tuple #[] ∧ Kp F h0 F' h' ∧ St F' (Ow.pool 190 18 erL ps_1 :: Ow.box bq 95 #[.int .i64 q_Now_1, .bool q_On_1, .int .i64 q_At_1, .int .i64 q_First_1, v_1] :: Ow.own 184 20 erO v_1 q_L_1 :: fr) h' ∧ Q ps_1 q_Now_1 q_On_1 q_At_1 q_First_1 q_L_1 := by
 unfold ref22_Q_Settle_W at hM
 have hK := Kp.refl F h0
 refine HC.of_HW (n := 16) Tryz.func112 rfl rfl (Nat.le_of_ble_eq_true rfl) ?_
 refine HW.seq ?_
 refine HW.region ?_
 refine oM (.int .i64 now) rfl rfl ?_
 refine HO.call (want_none) rfl (ec en_66 rfl rfl) (ref01_Within_walk (fr := (Ow.box bq 95 #[.int .i64 q_Now, .bool q_On, .int .i64 q_At, .int .i64 q_First, vq_L] :: Ow.own 184 20 erO vq_L q_L :: Ow.pool 190 18 erL ps :: fr)) now 0 1000000000000 hS hM) ?_
 rintro _ h_1 ⟨F_1, r_1, rfl, hk, hS, hM⟩
 replace hK := hK.trans hk
 refine oA (.int .i64 r_1) rfl rfl ?_
 refine HO.nil (thenQ_normal (?_))
 refine HW.seq ?_
 refine HW.region ?_
 refine oM (.int .i64 r_1) rfl rfl ?_
 refine oM (.pointer (some ⟨bq, 0, none⟩)) rfl rfl ?_
 refine oV (.pointer (some ⟨bq, 0, none⟩)) (q_nilCheck rfl) rfl ?_
 refine oV (.pointer (some ⟨bq, 0, none⟩)) (q_fieldAddr fa_95_0 rfl rfl) rfl ?_
 refine oV (.int .i64 q_Now) (q_load to_3 rfl (Blk.cell (hS.box 0 rfl) rfl)) rfl ?_
 refine oV (.bool (decide (q_Now < r_1))) (q_gtr rfl rfl) rfl ?_
 refine HO.nil (thenQ_normal (?_))
 refine HW.cond (decide (q_Now < r_1)) rfl (fun c_1 => ?_) (fun c_1 => ?_)
 ·
  replace hM := hM.1 (of_decide_eq_true c_1)
  refine HW.region ?_
  refine oM (.pointer (some ⟨bq, 0, none⟩)) rfl rfl ?_
  refine oM (.int .i64 r_1) rfl rfl ?_
  refine oV (.pointer (some ⟨bq, 0, none⟩)) (q_nilCheck rfl) rfl ?_
  refine oV (.pointer (some ⟨bq, 0, none⟩)) (q_fieldAddr fa_95_0 rfl rfl) rfl ?_
  refine HO.sto (want_none) rfl (st_store (c' := #[.int .i64 r_1, .bool q_On, .int .i64 q_At, .int .i64 q_First, vq_L]) hS (i := 0) rfl to_3 rfl rfl rfl rfl (Nat.le_of_ble_eq_true rfl) rfl) ?_
  rintro h_2 ⟨hS, hk⟩
  replace hK := hK.trans hk
  refine HO.nil (?_)
  refine ⟨.inl rfl, .tuple #[], res0 rfl , ?_⟩
  replace hS : St F_1 (Ow.pool 190 18 erL ps :: Ow.box bq 95 #[.int .i64 r_1, .bool q_On, .int .i64 q_At, .int .i64 q_First, vq_L] :: Ow.own 184 20 erO vq_L q_L :: fr) h_2 := hS.perm2 [2, 0, 1] 3 rfl rfl
  exact ⟨F_1, ps, r_1, q_On, q_At, q_First, q_L, vq_L, rfl, hK, hS, hM⟩
 ·
  replace hM := hM.2 (of_decide_eq_false c_1)
  refine HW.skip (?_)
  refine ⟨.inl rfl, .tuple #[], res0 rfl , ?_⟩
  replace hS : St F_1 (Ow.pool 190 18 erL ps :: Ow.box bq 95 #[.int .i64 q_Now, .bool q_On, .int .i64 q_At, .int .i64 q_First, vq_L] :: Ow.own 184 20 erO vq_L q_L :: fr) h_1 := hS.perm2 [2, 0, 1] 3 rfl rfl
  exact ⟨F_1, ps, q_Now, q_On, q_At, q_First, q_L, vq_L, rfl, hK, hS, hM⟩
def ref22_Q_Start_W (q_Now : Int) (q_On : Bool) (q_At : Int) (q_First : Int) (q_L : List TrO) (now : Int) (t : T_api_Tune) (ps : List (SV × List TrL)) (Q : (List (SV × List TrL)) → Int → Bool → Int → Int → (List TrO) → Prop) : Prop :=
 ref22_Q_Settle_W q_Now q_On q_At q_First q_L now ps (fun ps_2 q_Now_2 q_On_2 q_At_2 q_First_2 q_L_2 => Q ps_2 q_Now_2 true q_Now_2 t.1 q_L_2)
theorem ref22_Q_Start_walk {F : Fz} {fr : List Ow} {h0 : Heap} (q_Now : Int) (q_On : Bool) (q_At : Int) (q_First : Int) (q_L : List TrO) (now : Int) (t : T_api_Tune) (ps : List (SV × List TrL)) (bq : Nat) (vq_L : Value) (hS : St F (Ow.box bq 95 #[.int .i64 q_Now, .bool q_On, .int .i64 q_At, .int .i64 q_First, vq_L] :: Ow.own 184 20 erO vq_L q_L :: Ow.pool 190 18 erL ps :: fr) h0)  {Q : (List (SV × List TrL)) → Int → Bool → Int → Int → (List TrO) → Prop} (hM : ref22_Q_Start_W q_Now q_On q_At q_First q_L now t ps Q) :
  HC Tryz.prog 44 #[.pointer (some ⟨bq, 0, none⟩), .int .i64 now, .agg (e_api_Tune t).toArray] h0 fun u h' => ∃ (F' : Fz) (ps_1 : List (SV × List TrL)) (q_Now_1 : Int) (q_On_1 : Bool) (q_At_1 : Int) (q_First_1 : Int) (q_L_1 : List TrO) (v_1 : Value), u = .tuple #[] ∧ Kp F h0 F' h' ∧ St F' (Ow.pool 190 18 erL ps_1 :: Ow.box bq 95 #[.int .i64 q_Now_1, .bool q_On_1, .int .i64 q_At_1, .int .i64 q_First_1, v_1] :: Ow.own 184 20 erO v_1 q_L_1 :: fr) h' ∧ Q ps_1 q_Now_1 q_On_1 q_At_1 q_First_1 q_L_1 := by
 unfold ref22_Q_Start_W at hM
 have hK := Kp.refl F h0
 refine HC.of_HW (n := 24) Tryz.func44 rfl rfl (Nat.le_of_ble_eq_true rfl) ?_
 refine HW.seq ?_
 refine HW.region ?_
 refine HO.eff (want_none) rfl (st_box (c := (e_api_Tune t).toArray) (k' := 5) hS rfl rfl) ?_
 rintro _ h_1 ⟨b_1, rfl, hS, hk⟩
 replace hK := hK.trans hk
 refine HO.nil (thenQ_normal (?_))
 refine HW.seq ?_
 refine HW.region ?_
 refine oM (.pointer (some ⟨bq, 0, none⟩)) rfl rfl ?_
 refine oM (.int .i64 now) rfl rfl ?_
 replace hS : St F (Ow.box bq 95 #[.int .i64 q_Now, .bool q_On, .int .i64 q_At, .int .i64 q_First, vq_L] :: Ow.own 184 20 erO vq_L q_L :: Ow.pool 190 18 erL ps :: Ow.box b_1 56 (e_api_Tune t).toArray :: fr) h_1 := hS.perm2 [1, 2, 3, 0] 4 rfl rfl
 refine HO.call (want_none) rfl (ec en_112 rfl rfl) (ref22_Q_Settle_walk (fr := (Ow.box b_1 56 (e_api_Tune t).toArray :: fr)) q_Now q_On q_At q_First q_L now ps bq vq_L hS hM) ?_
 rintro _ h_2 ⟨F_1, ps_2, q_Now_2, q_On_2, q_At_2, q_First_2, q_L_2, v_2, rfl, hk, hS, hM⟩
 replace hK := hK.trans hk
 refine HO.nil (thenQ_normal (?_))
 refine HW.regionA 18 mixed (fun h => (Blk h b_1 (.cells (e_api_Tune t).toArray 56 (0, 0)))) [(11, fun h => (Blk h bq (.cells #[.int .i64 q_Now_2, .bool q_On_2, .int .i64 q_At_2, .int .i64 q_First_2, v_2] 95 (0, 0))))] (by kernel_rfl) ?_
 refine HA.val (k := 0) (v := .pointer (some ⟨bq, 0, none⟩)) rfl rfl (by kernel_rfl) (by kernel_rfl) (want_none) rfl (fun _ c209 => q_move rfl) ?_
 refine HA.val (k := 1) (v := .pointer (some ⟨bq, 0, none⟩)) rfl rfl (by kernel_rfl) (by kernel_rfl) (want_none) rfl (fun _ c209 => q_move rfl) ?_
 refine HA.val (k := 2) (v := .pointer (some ⟨bq, 0, none⟩)) rfl rfl (by kernel_rfl) (by kernel_rfl) (want_none) rfl (fun _ c209 => q_move rfl) ?_
 refine HA.val (k := 3) (v := .pointer (some ⟨bq, 0, none⟩)) rfl rfl (by kernel_rfl) (by kernel_rfl) (want_none) rfl (fun _ c209 => q_move rfl) ?_
 refine HA.val (k := 4) (v := .pointer (some ⟨bq, 0, none⟩)) rfl rfl (by kernel_rfl) (by kernel_rfl) (want_none) rfl (fun _ c209 => q_nilCheck rfl) ?_
 refine HA.val (k := 5) (v := .pointer (some ⟨bq, 0, none⟩)) rfl rfl (by kernel_rfl) (by kernel_rfl) (want_none) rfl (fun _ c209 => q_fieldAddr fa_95_0 rfl rfl) ?_
 refine Go.Wk.HA.valN (k := 6) (v := .int .i64 q_Now_2) 0 11 (fun h => (Blk h bq (.cells #[.int .i64 q_Now_2, .bool q_On_2, .int .i64 q_At_2, .int .i64 q_First_2, v_2] 95 (0, 0)))) rfl rfl (by kernel_rfl) (by kernel_rfl) (want_none) rfl rfl (by kernel_rfl) (fun _ c209 c1 => q_load to_3 rfl (Blk.cell c1 rfl)) ?_
 refine HA.val (k := 7) (v := .pointer (some ⟨b_1, 0, none⟩)) rfl rfl (by kernel_rfl) (by kernel_rfl) (want_none) rfl (fun _ c209 => q_fieldAddr fa_56_0 rfl rfl) ?_
 refine HA.val (k := 8) (v := .int .i64 t.1) rfl rfl (by kernel_rfl) (by kernel_rfl) (want_none) rfl (fun _ c209 => q_load to_3 rfl (Blk.cell c209 rfl)) ?_
 refine HA.val (k := 9) (v := .pointer (some ⟨bq, 0, none⟩)) rfl rfl (by kernel_rfl) (by kernel_rfl) (want_none) rfl (fun _ c209 => q_nilCheck rfl) ?_
 refine HA.val (k := 10) (v := .pointer (some ⟨bq, 1, none⟩)) rfl rfl (by kernel_rfl) (by kernel_rfl) (want_none) rfl (fun _ c209 => q_fieldAddr fa_95_1 rfl rfl) ?_
 refine HA.one (k := 11) ⟨(hS.box 3 rfl), (at_now (hS.box 1 rfl) (Go.Wk.at_nil _ _))⟩ (by kernel_rfl) ?_
 refine HS.sto rfl (want_none) rfl (st_store (c' := #[.int .i64 q_Now_2, .bool true, .int .i64 q_At_2, .int .i64 q_First_2, v_2]) hS (i := 1) rfl to_4 rfl rfl rfl rfl (Nat.le_of_ble_eq_true rfl) rfl) ?_
 rintro h_3 ⟨hS, hk⟩
 replace hK := hK.trans hk
 refine Go.Wk.HA.re (fun h => (Blk h b_1 (.cells (e_api_Tune t).toArray 56 (0, 0)))) [(14, fun h => (Blk h bq (.cells #[.int .i64 q_Now_2, .bool true, .int .i64 q_At_2, .int .i64 q_First_2, v_2] 95 (0, 0))))] (fun L_ h_ hL_ c209 hs_ => ⟨c209, (at_gone hL_ (by kernel_rfl) (Go.Wk.at_nil _ _))⟩) ?_
 refine HA.val (k := 12) (v := .pointer (some ⟨bq, 0, none⟩)) rfl rfl (by kernel_rfl) (by kernel_rfl) (want_none) rfl (fun _ c209 => q_nilCheck rfl) ?_
 refine HA.val (k := 13) (v := .pointer (some ⟨bq, 2, none⟩)) rfl rfl (by kernel_rfl) (by kernel_rfl) (want_none) rfl (fun _ c209 => q_fieldAddr fa_95_2 rfl rfl) ?_
 refine HA.one (k := 14) ⟨(hS.box 3 rfl), (at_now (hS.box 1 rfl) (Go.Wk.at_nil _ _))⟩ (by kernel_rfl) ?_
 refine HS.sto rfl (want_none) rfl (st_store (c' := #[.int .i64 q_Now_2, .bool true, .int .i64 q_Now_2, .int .i64 q_First_2, v_2]) hS (i := 1) rfl to_3 rfl rfl rfl rfl (Nat.le_of_ble_eq_true rfl) rfl) ?_
 rintro h_4 ⟨hS, hk⟩
 replace hK := hK.trans hk
 refine Go.Wk.HA.re (fun h => (Blk h b_1 (.cells (e_api_Tune t).toArray 56 (0, 0)))) [(17, fun h => (Blk h bq (.cells #[.int .i64 q_Now_2, .bool true, .int .i64 q_Now_2, .int .i64 q_First_2, v_2] 95 (0, 0))))] (fun L_ h_ hL_ c209 hs_ => ⟨c209, (at_gone hL_ (by kernel_rfl) (Go.Wk.at_nil _ _))⟩) ?_
 refine HA.val (k := 15) (v := .pointer (some ⟨bq, 0, none⟩)) rfl rfl (by kernel_rfl) (by kernel_rfl) (want_none) rfl (fun _ c209 => q_nilCheck rfl) ?_
 refine HA.val (k := 16) (v := .pointer (some ⟨bq, 3, none⟩)) rfl rfl (by kernel_rfl) (by kernel_rfl) (want_none) rfl (fun _ c209 => q_fieldAddr fa_95_3 rfl rfl) ?_
 refine HA.one (k := 17) ⟨(hS.box 3 rfl), (at_now (hS.box 1 rfl) (Go.Wk.at_nil _ _))⟩ (by kernel_rfl) ?_
 refine HS.sto rfl (want_none) rfl (st_store (c' := #[.int .i64 q_Now_2, .bool true, .int .i64 q_Now_2, .int .i64 t.1, v_2]) hS (i := 1) rfl to_3 rfl rfl rfl rfl (Nat.le_of_ble_eq_true rfl) rfl) ?_
 rintro h_5 ⟨hS, hk⟩
 replace hK := hK.trans hk
 refine HA.nil ⟨(hS.box 3 rfl), (at_done (by kernel_rfl) (Go.Wk.at_nil _ _))⟩ (by kernel_rfl) (?_)
 refine ⟨.inl rfl, .tuple #[], res0 rfl , ?_⟩
 replace hS : St F_1 (Ow.pool 190 18 erL ps_2 :: Ow.box bq 95 #[.int .i64 q_Now_2, .bool true, .int .i64 q_Now_2, .int .i64 t.1, v_2] :: Ow.own 184 20 erO v_2 q_L_2 :: fr) h_5 := hS.perm2 [0, 1, 2] 4 rfl rfl
 exact ⟨F_1, ps_2, q_Now_2, true, q_Now_2, t.1, q_L_2, v_2, rfl, hK, hS, hM⟩
def clock_Clock_Keys_string_W (c_at : List (Str × Int)) (Q : (List Str) → Prop) : Prop :=
 (c_at.length ≤ 1000000 ∧ ∀ p ∈ c_at, p.1.length ≤ 1000000) ∧ (∀ l_1 : List Str, List.Perm l_1 (c_at.map Prod.fst) → List.Pairwise (fun x y => ¬ y < x) l_1 → (Q l_1))
theorem clock_Clock_Keys_string_walk {F : Fz} {fr : List Ow} {h0 : Heap} (c_at : List (Str × Int)) (bc : Nat) (rc_at : Nat) (hS : St F (fr) h0) (hM_rc_at : RoF (Ow.map rc_at kT kI c_at) F h0) (hB_bc : RoF (Ow.box bc 222 #[.map (some rc_at)]) F h0) (hD : DM.on = false) {Q : (List Str) → Prop} (hM : clock_Clock_Keys_string_W c_at Q) :
  HC Tryz.prog 113 #[.pointer (some ⟨bc, 0, none⟩)] h0 fun u h' => ∃ (F' : Fz) (r_1 : List Str) (vr_1 : Value), u = vr_1 ∧ Kp F h0 F' h' ∧ St F' (Ow.own 9 1 encT vr_1 r_1 :: fr) h' ∧ (RoF (Ow.map rc_at kT kI c_at) F' h') ∧ (RoF (Ow.box bc 222 #[.map (some rc_at)]) F' h') ∧ Q r_1 := by
 unfold clock_Clock_Keys_string_W at hM
 have hK := Kp.refl F h0
 refine HC.of_HW (n := 11) Tryz.func113 rfl rfl (Nat.le_of_ble_eq_true rfl) ?_
 refine HW.seq ?_
 refine HW.region ?_
 refine oA (.slice none 0 0) rfl rfl ?_
 refine HO.nil (thenQ_normal (?_))
 refine HW.seq ?_
 refine HW.seq ?_
 refine HW.region ?_
 refine oM (.pointer (some ⟨bc, 0, none⟩)) rfl rfl ?_
 refine oV (.bool false) (q_eqlPnil Tryz.underlying163 rfl rfl rfl) rfl ?_
 refine HO.nil (thenQ_normal (?_))
 refine HW.condF rfl ?_
 refine HW.skip (thenQ_normal (?_))
 refine HW.seq ?_
 refine HW.region ?_
 refine oM (.pointer (some ⟨bc, 0, none⟩)) rfl rfl ?_
 refine oV (.pointer (some ⟨bc, 0, none⟩)) (q_nilCheck rfl) rfl ?_
 refine oV (.pointer (some ⟨bc, 0, none⟩)) (q_fieldAddr fa_222_0 rfl rfl) rfl ?_
 refine oV (.map (some rc_at)) (q_load to_220 rfl (Blk.cell hB_bc.box rfl)) rfl ?_
 refine HO.call (want_none) rfl (ec en_178 rfl rfl) (mkeysT hS) ?_
 rintro _ h_1 ⟨b_1, rfl, hk, hS⟩
 replace hK := hK.trans hk
 replace hM_rc_at := hM_rc_at.kp hk
 replace hB_bc := hB_bc.kp hk
 obtain ⟨ho_1, hM⟩ := hM
 refine HO.call (want_none) rfl (ec en_177 rfl rfl) (sortedT hD hS (hS.box 0 rfl) hM_rc_at.mp ho_1.1 ho_1.2) ?_
 rintro v_1 h_2 ⟨l_1, hk, hS, hp_1, hs_1⟩
 replace hM := hM l_1 hp_1 hs_1
 replace hK := hK.trans hk
 replace hM_rc_at := hM_rc_at.kp hk
 replace hB_bc := hB_bc.kp hk
 refine oA (v_1) rfl rfl ?_
 refine HO.nil (thenQ_normal (?_))
 refine HW.ret (?_)
 refine ⟨.inr rfl, v_1, res1 rfl (rt rfl), ?_⟩
 replace hS : St F (Ow.own 9 1 encT v_1 l_1 :: fr) h_2 := hS.perm2 [0] 2 rfl rfl
 exact ⟨F, l_1, v_1, rfl, hK, hS, hM_rc_at, hB_bc, hM⟩
end Go.Wk
