/- Walks of trees: what all laws share. -/
import Derived.Test.YtjliljlmgepmpaaGreatDoorStrs
import Derived.Test.YtjliljlmgepmpaaGreatDoorTxt
import Derived.Test.YtjliljlmgepmpaaGreatDoorNest
import Derived.Test.YtjliljlmgepmpaaGreatDoorBag
import Derived.Test.YtjliljlmgepmpaaGreatDoorGrw
import Derived.Test.YtjliljlmgepmpaaGreatDoorTight
import Derived.Test.YtjliljlmgepmpaaGreatDoorRf
import Derived.Test.YtjliljlmgepmpaaGreatDoorLayTr
import Derived.Test.YtjliljlmgepmpaaGreatDoorBld
import Derived.Test.YtjliljlmgepmpaaGreatDoorProg
set_option linter.unusedSimpArgs false
set_option linter.unusedVariables false
set_option linter.unusedSectionVars false
namespace Go.Wk
open Go.HL
open Go.Proofs hiding encI
variable [DM]
abbrev T_api_Branch := Int × Int
def tab10 (_ : Unit) : List Value := Lib.pow10Tab.map fun z => Value.int .u64 z
def e_api_Branch (x : T_api_Branch) : List Value := [.int .i64 x.1, .int .i64 x.2]
theorem en_133 (args : Array Value) (w : World) : (callFunc 133 args).run Tryz.prog w = .ok (.enter 133 args) w := by kernel_rfl
theorem ts_79 : TSlice Tryz.prog 79 5 1 := ⟨Tryz.underlying79, Tryz.sizeOf5⟩
theorem to_5 : TOne Tryz.prog 5 := ⟨Tryz.isAgg5, Tryz.sizeOf5⟩
theorem en_134 (args : Array Value) (w : World) : (callFunc 134 args).run Tryz.prog w = .ok (.enter 134 args) w := by kernel_rfl
theorem en_104 (args : Array Value) (w : World) : (callFunc 104 args).run Tryz.prog w = .ok (.enter 104 args) w := by kernel_rfl
theorem en_86 (args : Array Value) (w : World) : (callFunc 86 args).run Tryz.prog w = .ok (.enter 86 args) w := by kernel_rfl
theorem en_64 (args : Array Value) (w : World) : (callFunc 64 args).run Tryz.prog w = .ok (.enter 64 args) w := by kernel_rfl
theorem en_65 (args : Array Value) (w : World) : (callFunc 65 args).run Tryz.prog w = .ok (.enter 65 args) w := by kernel_rfl
theorem tz_46 : TZero Tryz.prog 46 (.agg #[.int .i64 0, .int .i64 0]) := Tryz.zeroValue46
theorem en_66 (args : Array Value) (w : World) : (callFunc 66 args).run Tryz.prog w = .ok (.enter 66 args) w := by kernel_rfl
theorem en_43 (args : Array Value) (w : World) : (callFunc 43 args).run Tryz.prog w = .ok (.enter 43 args) w := by kernel_rfl
theorem tp_46 : TPlaces Tryz.prog 46 #[(0, 1), (1, 1)] #[.int .i64 0, .int .i64 0] := tplaces Tryz.runUnderlying46 Tryz.zeroValue46 rfl (fun w => by kernel_rfl)
theorem ta_46 : TAgg Tryz.prog 46 2 := ⟨Tryz.isAgg46, Tryz.sizeOf46⟩
theorem mixed : Tryz.prog.follows .mixedOrders = true := by kernel_rfl
theorem en_99 (args : Array Value) (w : World) : (callFunc 99 args).run Tryz.prog w = .ok (.enter 99 args) w := by kernel_rfl
theorem ts_36 : TSlice Tryz.prog 36 3 1 := ⟨Tryz.underlying36, Tryz.sizeOf3⟩
theorem to_3 : TOne Tryz.prog 3 := ⟨Tryz.isAgg3, Tryz.sizeOf3⟩
theorem fa_46_0 : FieldAt Tryz.prog 46 0 0 := fun a w => by kernel_rfl
theorem fa_46_1 : FieldAt Tryz.prog 46 1 1 := fun a w => by kernel_rfl
theorem en_82 (args : Array Value) (w : World) : (callFunc 82 args).run Tryz.prog w = .ok (.enter 82 args) w := by kernel_rfl
theorem tz_3 : TZero Tryz.prog 3 (.int .i64 0) := Tryz.zeroValue3
theorem tl_36 : TLit Tryz.prog 36 3 1 #[.int .i64 0] := tlit ts_36 tz_3 rfl
theorem en_81 (args : Array Value) (w : World) : (callFunc 81 args).run Tryz.prog w = .ok (.enter 81 args) w := by kernel_rfl
theorem fa_24_1 : FieldAt Tryz.prog 24 1 1 := fun a w => by kernel_rfl
theorem to_22 : TOne Tryz.prog 22 := ⟨Tryz.isAgg22, Tryz.sizeOf22⟩
theorem ts_22 : TSlice Tryz.prog 22 46 2 := ⟨Tryz.underlying22, Tryz.sizeOf46⟩
theorem tz_36 : TZero Tryz.prog 36 (.slice none 0 0) := Tryz.zeroValue36
theorem tmk_62 : TMapK Tryz.prog 62 3 36 (.slice none 0 0) := ⟨Tryz.underlying62, tz_36⟩
theorem ka_3 : KeyAt Tryz.prog 3 kI := keyAt_of keyOk_int Tryz.underlying3
theorem te_36 : TElem Tryz.prog 36 3 1 8 := ⟨Tryz.underlying36, ⟨Tryz.t3, .int .i64 0, by kernel_rfl, by kernel_rfl, by kernel_rfl, by kernel_rfl, by kernel_rfl⟩, by decide⟩
theorem ta_24 : TAgg Tryz.prog 24 2 := ⟨Tryz.isAgg24, Tryz.sizeOf24⟩
theorem en_54 (args : Array Value) (w : World) : (callFunc 54 args).run Tryz.prog w = .ok (.enter 54 args) w := by kernel_rfl
theorem tmk_64 : TMapK Tryz.prog 64 3 3 (.int .i64 0) := ⟨Tryz.underlying64, tz_3⟩
theorem fa_24_0 : FieldAt Tryz.prog 24 0 0 := fun a w => by kernel_rfl
theorem en_62 (args : Array Value) (w : World) : (callFunc 62 args).run Tryz.prog w = .ok (.enter 62 args) w := by kernel_rfl
theorem en_53 (args : Array Value) (w : World) : (callFunc 53 args).run Tryz.prog w = .ok (.enter 53 args) w := by kernel_rfl
theorem en_68 (args : Array Value) (w : World) : (callFunc 68 args).run Tryz.prog w = .ok (.enter 68 args) w := by kernel_rfl
theorem en_67 (args : Array Value) (w : World) : (callFunc 67 args).run Tryz.prog w = .ok (.enter 67 args) w := by kernel_rfl
theorem en_69 (args : Array Value) (w : World) : (callFunc 69 args).run Tryz.prog w = .ok (.enter 69 args) w := by kernel_rfl
theorem tz_24 : TZero Tryz.prog 24 (.agg #[.int .i64 0, .slice none 0 0]) := Tryz.zeroValue24
theorem en_42 (args : Array Value) (w : World) : (callFunc 42 args).run Tryz.prog w = .ok (.enter 42 args) w := by kernel_rfl
theorem ts_50 : TSlice Tryz.prog 50 9 1 := ⟨Tryz.underlying50, Tryz.sizeOf9⟩
theorem to_9 : TOne Tryz.prog 9 := ⟨Tryz.isAgg9, Tryz.sizeOf9⟩
theorem tp_24 : TPlaces Tryz.prog 24 #[(0, 1), (1, 1)] #[.int .i64 0, .slice none 0 0] := tplaces Tryz.runUnderlying24 Tryz.zeroValue24 rfl (fun w => by kernel_rfl)
theorem en_44 (args : Array Value) (w : World) : (callFunc 44 args).run Tryz.prog w = .ok (.enter 44 args) w := by kernel_rfl
theorem tl_22 : TLit Tryz.prog 22 46 2 #[.int .i64 0, .int .i64 0] := tlit ts_22 tz_46 rfl
theorem te_22 : TElem Tryz.prog 22 46 2 16 := ⟨Tryz.underlying22, ⟨Tryz.t46, .agg #[.int .i64 0, .int .i64 0], by kernel_rfl, by kernel_rfl, by kernel_rfl, by kernel_rfl, by kernel_rfl⟩, by decide⟩
theorem en_45 (args : Array Value) (w : World) : (callFunc 45 args).run Tryz.prog w = .ok (.enter 45 args) w := by kernel_rfl
theorem en_46 (args : Array Value) (w : World) : (callFunc 46 args).run Tryz.prog w = .ok (.enter 46 args) w := by kernel_rfl
theorem to_62 : TOne Tryz.prog 62 := ⟨Tryz.isAgg62, Tryz.sizeOf62⟩
theorem en_77 (args : Array Value) (w : World) : (callFunc 77 args).run Tryz.prog w = .ok (.enter 77 args) w := by kernel_rfl
theorem en_75 (args : Array Value) (w : World) : (callFunc 75 args).run Tryz.prog w = .ok (.enter 75 args) w := by kernel_rfl
theorem tz_62 : TZero Tryz.prog 62 (.map none) := Tryz.zeroValue62
theorem en_57 (args : Array Value) (w : World) : (callFunc 57 args).run Tryz.prog w = .ok (.enter 57 args) w := by kernel_rfl
theorem en_56 (args : Array Value) (w : World) : (callFunc 56 args).run Tryz.prog w = .ok (.enter 56 args) w := by kernel_rfl
theorem en_52 (args : Array Value) (w : World) : (callFunc 52 args).run Tryz.prog w = .ok (.enter 52 args) w := by kernel_rfl
theorem en_71 (args : Array Value) (w : World) : (callFunc 71 args).run Tryz.prog w = .ok (.enter 71 args) w := by kernel_rfl
theorem en_74 (args : Array Value) (w : World) : (callFunc 74 args).run Tryz.prog w = .ok (.enter 74 args) w := by kernel_rfl
theorem en_73 (args : Array Value) (w : World) : (callFunc 73 args).run Tryz.prog w = .ok (.enter 73 args) w := by kernel_rfl
theorem en_72 (args : Array Value) (w : World) : (callFunc 72 args).run Tryz.prog w = .ok (.enter 72 args) w := by kernel_rfl
theorem en_51 (args : Array Value) (w : World) : (callFunc 51 args).run Tryz.prog w = .ok (.enter 51 args) w := by kernel_rfl
theorem en_49 (args : Array Value) (w : World) : (callFunc 49 args).run Tryz.prog w = .ok (.enter 49 args) w := by kernel_rfl
theorem en_76 (args : Array Value) (w : World) : (callFunc 76 args).run Tryz.prog w = .ok (.enter 76 args) w := by kernel_rfl
theorem en_55 (args : Array Value) (w : World) : (callFunc 55 args).run Tryz.prog w = .ok (.enter 55 args) w := by kernel_rfl
theorem en_10 (args : Array Value) (w : World) : (callFunc 10 args).run Tryz.prog w = .ok (.enter 10 args) w := by kernel_rfl
theorem en_29 (args : Array Value) (w : World) : (callFunc 29 args).run Tryz.prog w = .ok (.enter 29 args) w := by kernel_rfl
theorem en_31 (args : Array Value) (w : World) : (callFunc 31 args).run Tryz.prog w = .ok (.enter 31 args) w := by kernel_rfl
theorem en_22 (args : Array Value) (w : World) : (callFunc 22 args).run Tryz.prog w = .ok (.enter 22 args) w := by kernel_rfl
theorem en_26 (args : Array Value) (w : World) : (callFunc 26 args).run Tryz.prog w = .ok (.enter 26 args) w := by kernel_rfl
theorem en_16 (args : Array Value) (w : World) : (callFunc 16 args).run Tryz.prog w = .ok (.enter 16 args) w := by kernel_rfl
theorem en_50 (args : Array Value) (w : World) : (callFunc 50 args).run Tryz.prog w = .ok (.enter 50 args) w := by kernel_rfl
theorem en_47 (args : Array Value) (w : World) : (callFunc 47 args).run Tryz.prog w = .ok (.enter 47 args) w := by kernel_rfl
theorem en_20 (args : Array Value) (w : World) : (callFunc 20 args).run Tryz.prog w = .ok (.enter 20 args) w := by kernel_rfl
theorem en_39 (args : Array Value) (w : World) : (callFunc 39 args).run Tryz.prog w = .ok (.enter 39 args) w := by kernel_rfl
def internal_strconv_lower_W (c : Int) (Q : Int → Prop) : Prop :=
 ((0 : Int) ≤ (bits .or .u8 c 32) ∧ (bits .or .u8 c 32) < 256) ∧ (Q ((u8w (bits .or .u8 c 32)).toNat : Int))
set_option maxHeartbeats 40000000 in
set_option maxRecDepth 100000 in
theorem internal_strconv_lower_walk {F : Fz} {fr : List Ow} {h0 : Heap} (c : Int) (hS : St F (fr) h0)  {Q : Int → Prop} (hM : internal_strconv_lower_W c Q) :
  HC Tryz.prog 133 #[.int .u8 c] h0 fun u h' => ∃ (F' : Fz) (r_1 : Int), u = .int .u8 r_1 ∧ Kp F h0 F' h' ∧ St F' (fr) h' ∧ Q r_1 := by
 unfold internal_strconv_lower_W at hM
 have hK := Kp.refl F h0
 refine HC.of_HW (n := 5) Tryz.func133 rfl rfl (Nat.le_of_ble_eq_true rfl) ?_
 refine HW.seq ?_
 refine HW.region ?_
 refine oA (.int .u8 0) rfl rfl ?_
 refine HO.nil (thenQ_normal (?_))
 refine HW.seq ?_
 refine HW.region ?_
 refine oM (.int .u8 c) rfl rfl ?_
 obtain ⟨ho_1, hM⟩ := hM
 refine oV (.int .u8 ((u8w (bits .or .u8 c 32)).toNat : Int)) ((q_bits (by simp) rfl rfl).of_eq (u8r_v ho_1)) rfl ?_
 refine oA (.int .u8 ((u8w (bits .or .u8 c 32)).toNat : Int)) rfl rfl ?_
 refine HO.nil (thenQ_normal (?_))
 refine HW.ret (?_)
 refine ⟨.inr rfl, .int .u8 ((u8w (bits .or .u8 c 32)).toNat : Int), res1 rfl (rt rfl), ?_⟩
 exact ⟨F, ((u8w (bits .or .u8 c 32)).toNat : Int), rfl, hK, hS, hM⟩

def internal_strconv_underscoreOK_j4 (Q : Bool → Prop) (s_1 : Str) (saw_2 : Int) (i_2 : Int) (K_1 : Int → Int → Prop) : Prop :=
 ((0 : Int) ≤ i_2 ∧ i_2 < (s_1.length : Int)) ∧ ((((gi s_1 i_2).toNat : Int) = 95 → (¬ (saw_2 = 48) → Q false) ∧ (saw_2 = 48 → (I64 (i_2 + 1)) ∧ (K_1 95 (i_2 + 1)))) ∧ (¬ (((gi s_1 i_2).toNat : Int) = 95) → (saw_2 = 95 → Q false) ∧ (¬ (saw_2 = 95) → (I64 (i_2 + 1)) ∧ (K_1 33 (i_2 + 1)))))
def internal_strconv_underscoreOK_l1 (Q : Bool → Prop) (s_1 : Str) (hex_1 : Bool) (K_1 : Int → Int → Prop) (saw_2 : Int) (i_2 : Int) : Prop :=
 (i_2 < (s_1.length : Int) → ((0 : Int) ≤ i_2 ∧ i_2 < (s_1.length : Int)) ∧ ((48 ≤ ((gi s_1 i_2).toNat : Int) → (((gi s_1 i_2).toNat : Int) ≤ 57 → (I64 (i_2 + 1)) ∧ (K_1 48 (i_2 + 1))) ∧ (¬ (((gi s_1 i_2).toNat : Int) ≤ 57) → (hex_1 = true → internal_strconv_lower_W ((gi s_1 i_2).toNat : Int) (fun r_6 => (97 ≤ r_6 → internal_strconv_lower_W ((gi s_1 i_2).toNat : Int) (fun r_7 => (r_7 ≤ 102 → (I64 (i_2 + 1)) ∧ (K_1 48 (i_2 + 1))) ∧ (¬ (r_7 ≤ 102) → internal_strconv_underscoreOK_j4 Q s_1 saw_2 i_2 K_1))) ∧ (¬ (97 ≤ r_6) → internal_strconv_underscoreOK_j4 Q s_1 saw_2 i_2 K_1))) ∧ (hex_1 = false → internal_strconv_underscoreOK_j4 Q s_1 saw_2 i_2 K_1))) ∧ (¬ (48 ≤ ((gi s_1 i_2).toNat : Int)) → (hex_1 = true → internal_strconv_lower_W ((gi s_1 i_2).toNat : Int) (fun r_8 => (97 ≤ r_8 → internal_strconv_lower_W ((gi s_1 i_2).toNat : Int) (fun r_9 => (r_9 ≤ 102 → (I64 (i_2 + 1)) ∧ (K_1 48 (i_2 + 1))) ∧ (¬ (r_9 ≤ 102) → internal_strconv_underscoreOK_j4 Q s_1 saw_2 i_2 K_1))) ∧ (¬ (97 ≤ r_8) → internal_strconv_underscoreOK_j4 Q s_1 saw_2 i_2 K_1))) ∧ (hex_1 = false → internal_strconv_underscoreOK_j4 Q s_1 saw_2 i_2 K_1)))) ∧ (¬ (i_2 < (s_1.length : Int)) → Q (!decide (saw_2 = 95)))
def internal_strconv_underscoreOK_j2 (Q : Bool → Prop) (s_1 : Str) (saw_1 : Int) (i_1 : Int) (hex_1 : Bool) : Prop :=
 loopW (fun (K_1 : (Int × Int) → Prop) (s : Int × Int) => internal_strconv_underscoreOK_l1 Q s_1 hex_1 (fun saw_2 i_2 => K_1 (saw_2, i_2)) s.1 s.2) (saw_1, i_1)
def internal_strconv_underscoreOK_j3 (Q : Bool → Prop) (s_1 : Str) (b_1 : Bool) : Prop :=
 (b_1 = true → ((0 : Int) ≤ 1 ∧ 1 < (s_1.length : Int)) ∧ (internal_strconv_lower_W ((gi s_1 1).toNat : Int) (fun r_5 => internal_strconv_underscoreOK_j2 Q s_1 48 2 (decide (r_5 = 120))))) ∧ (b_1 = false → internal_strconv_underscoreOK_j2 Q s_1 94 0 false)
def internal_strconv_underscoreOK_j1 (Q : Bool → Prop) (s_1 : Str) : Prop :=
 (2 ≤ (s_1.length : Int) → ((0 : Int) ≤ 0 ∧ 0 < (s_1.length : Int)) ∧ ((((gi s_1 0).toNat : Int) = 48 → ((0 : Int) ≤ 1 ∧ 1 < (s_1.length : Int)) ∧ (internal_strconv_lower_W ((gi s_1 1).toNat : Int) (fun r_2 => (r_2 = 98 → internal_strconv_underscoreOK_j3 Q s_1 true) ∧ (¬ (r_2 = 98) → internal_strconv_lower_W ((gi s_1 1).toNat : Int) (fun r_3 => (r_3 = 111 → internal_strconv_underscoreOK_j3 Q s_1 true) ∧ (¬ (r_3 = 111) → internal_strconv_lower_W ((gi s_1 1).toNat : Int) (fun r_4 => internal_strconv_underscoreOK_j3 Q s_1 (decide (r_4 = 120))))))))) ∧ (¬ (((gi s_1 0).toNat : Int) = 48) → internal_strconv_underscoreOK_j3 Q s_1 false))) ∧ (¬ (2 ≤ (s_1.length : Int)) → internal_strconv_underscoreOK_j3 Q s_1 false)
def internal_strconv_underscoreOK_W (s1 : Str) (Q : Bool → Prop) : Prop :=
 (1 ≤ (s1.length : Int) → ((0 : Int) ≤ 0 ∧ 0 < (s1.length : Int)) ∧ ((((gi s1 0).toNat : Int) = 45 → ((0 : Int) ≤ 1 ∧ 1 ≤ (s1.length : Int)) ∧ (internal_strconv_underscoreOK_j1 Q (cut s1 1 (s1.length : Int)))) ∧ (¬ (((gi s1 0).toNat : Int) = 45) → (((gi s1 0).toNat : Int) = 43 → ((0 : Int) ≤ 1 ∧ 1 ≤ (s1.length : Int)) ∧ (internal_strconv_underscoreOK_j1 Q (cut s1 1 (s1.length : Int)))) ∧ (¬ (((gi s1 0).toNat : Int) = 43) → internal_strconv_underscoreOK_j1 Q s1)))) ∧ (¬ (1 ≤ (s1.length : Int)) → internal_strconv_underscoreOK_j1 Q s1)
set_option maxHeartbeats 40000000 in
set_option maxRecDepth 100000 in
theorem internal_strconv_underscoreOK_walk {F : Fz} {fr : List Ow} {h0 : Heap} (s1 : Str) (hS : St F (fr) h0)  {Q : Bool → Prop} (hM : internal_strconv_underscoreOK_W s1 Q) :
  HC Tryz.prog 134 #[.string (bs s1)] h0 fun u h' => ∃ (F' : Fz) (r_1 : Bool), u = .bool r_1 ∧ Kp F h0 F' h' ∧ St F' (fr) h' ∧ Q r_1 := by
 unfold internal_strconv_underscoreOK_W at hM
 have hK := Kp.refl F h0
 refine HC.of_HW (n := 94) Tryz.func134 rfl rfl (Nat.le_of_ble_eq_true rfl) ?_
 refine HW.seq ?_
 refine HW.region ?_
 refine oA (.bool false) rfl rfl ?_
 refine HO.nil (thenQ_normal (?_))
 refine HW.seq ?_
 refine HW.region ?_
 refine oA (.int .i32 94) rfl rfl ?_
 refine HO.nil (thenQ_normal (?_))
 refine HW.seq ?_
 refine HW.region ?_
 refine oA (.int .i64 0) rfl rfl ?_
 refine HO.nil (thenQ_normal (?_))
 refine HW.seq_mid (fun f h => ∃ (F' : Fz) (s_1 : Str), f 0 = .string (bs s_1) ∧ f 2 = .bool false ∧ f 3 = .int .i32 94 ∧ f 4 = .int .i64 0 ∧ Kp F h0 F' h ∧ St F' (fr) h ∧ internal_strconv_underscoreOK_j1 Q s_1) ?_ ?_
 ·
  refine HW.seq ?_
  refine HW.region ?_
  refine oM (.string (bs s1)) rfl rfl ?_
  refine oV (.int .i64 (s1.length : Int)) (q_lenT Tryz.underlying9 rfl rfl) rfl ?_
  refine oV (.bool (decide (1 ≤ (s1.length : Int)))) (q_geq rfl rfl) rfl ?_
  refine oM (.bool (decide (1 ≤ (s1.length : Int)))) rfl rfl ?_
  rcases Bool.eq_false_or_eq_true (decide (1 ≤ (s1.length : Int))) with c_1 | c_1
  ·
   replace hM := hM.1 (of_decide_eq_true c_1)
   refine HO.val (v := .string (bs s1)) (want_by rfl rfl c_1) rfl (q_move rfl) ?_
   obtain ⟨ho_1, hM⟩ := hM
   refine HO.val (v := .int .u8 ((gi s1 0).toNat : Int)) (want_by rfl rfl c_1) rfl (q_idxT Tryz.underlying9 rfl rfl ho_1) ?_
   refine HO.val (v := .bool (decide (((gi s1 0).toNat : Int) = 45))) (want_by rfl rfl c_1) rfl (q_eql rfl rfl) ?_
   refine HO.val (v := .bool (decide (((gi s1 0).toNat : Int) = 45))) (want_by rfl rfl c_1) rfl (q_move rfl) ?_
   rcases Bool.eq_false_or_eq_true (decide (((gi s1 0).toNat : Int) = 45)) with c_2 | c_2
   ·
    replace hM := hM.1 (of_decide_eq_true c_2)
    refine HO.past (past_by rfl rfl c_2) rfl ?_
    refine HO.past (past_by rfl rfl c_2) rfl ?_
    refine HO.past (past_by rfl rfl c_2) rfl ?_
    refine HO.val (v := .bool true) (want_by rfl rfl c_1) rfl (q_pickK true rfl c_2 rfl) ?_
    refine oV (.bool true) (q_pickK true rfl c_1 rfl) rfl ?_
    refine HO.nil (thenQ_normal (?_))
    refine HW.condT rfl ?_
    refine HW.region ?_
    refine oM (.string (bs s1)) rfl rfl ?_
    obtain ⟨ho_2, hM⟩ := hM
    refine oV (.string (bs (cut s1 1 (s1.length : Int)))) (q_strL Tryz.underlying9 rfl rfl ho_2) rfl ?_
    refine oA (.string (bs (cut s1 1 (s1.length : Int)))) rfl rfl ?_
    refine HO.nil (thenQ_normal (?_))
    exact ⟨F, cut s1 1 (s1.length : Int), rfl, rfl, rfl, rfl, hK, hS, hM⟩
   ·
    replace hM := hM.2 (of_decide_eq_false c_2)
    refine HO.val (v := .string (bs s1)) (want_by rfl rfl c_2) rfl (q_move rfl) ?_
    refine HO.val (v := .int .u8 ((gi s1 0).toNat : Int)) (want_by rfl rfl c_2) rfl (q_idxT Tryz.underlying9 rfl rfl ho_1) ?_
    refine HO.val (v := .bool (decide (((gi s1 0).toNat : Int) = 43))) (want_by rfl rfl c_2) rfl (q_eql rfl rfl) ?_
    refine HO.val (v := .bool (decide (((gi s1 0).toNat : Int) = 43))) (want_by rfl rfl c_1) rfl (q_pickK false rfl c_2 rfl) ?_
    refine oV (.bool (decide (((gi s1 0).toNat : Int) = 43))) (q_pickK true rfl c_1 rfl) rfl ?_
    refine HO.nil (thenQ_normal (?_))
    refine HW.cond (decide (((gi s1 0).toNat : Int) = 43)) rfl (fun c_3 => ?_) (fun c_3 => ?_)
    ·
     replace hM := hM.1 (of_decide_eq_true c_3)
     refine HW.region ?_
     refine oM (.string (bs s1)) rfl rfl ?_
     obtain ⟨ho_3, hM⟩ := hM
     refine oV (.string (bs (cut s1 1 (s1.length : Int)))) (q_strL Tryz.underlying9 rfl rfl ho_3) rfl ?_
     refine oA (.string (bs (cut s1 1 (s1.length : Int)))) rfl rfl ?_
     refine HO.nil (thenQ_normal (?_))
     exact ⟨F, cut s1 1 (s1.length : Int), rfl, rfl, rfl, rfl, hK, hS, hM⟩
    ·
     replace hM := hM.2 (of_decide_eq_false c_3)
     refine HW.skip (thenQ_normal (?_))
     exact ⟨F, s1, rfl, rfl, rfl, rfl, hK, hS, hM⟩
  ·
   replace hM := hM.2 (of_decide_eq_false c_1)
   refine HO.past (past_by rfl rfl c_1) rfl ?_
   refine HO.past (past_by rfl rfl c_1) rfl ?_
   refine HO.past (past_by rfl rfl c_1) rfl ?_
   refine HO.past (past_by rfl rfl c_1) rfl ?_
   refine HO.past (past_undef rfl rfl) rfl ?_
   refine HO.past (past_undef rfl rfl) rfl ?_
   refine HO.past (past_undef rfl rfl) rfl ?_
   refine HO.past (past_by rfl rfl c_1) rfl ?_
   refine oV (.bool false) (q_pickK false rfl c_1 rfl) rfl ?_
   refine HO.nil (thenQ_normal (?_))
   refine HW.condF rfl ?_
   refine HW.skip (thenQ_normal (?_))
   exact ⟨F, s1, rfl, rfl, rfl, rfl, hK, hS, hM⟩
 ·
  rintro f_1 h_1 ⟨F_1, s_1, e0, e2, e3, e4, hK, hS, hM⟩
  unfold internal_strconv_underscoreOK_j1 at hM
  refine HW.fr [(0, .string (bs s_1)), (2, .bool false), (3, .int .i32 94), (4, .int .i64 0)] ⟨e0, e2, e3, e4, trivial⟩ ?_
  refine HW.seq ?_
  refine HW.region ?_
  refine oA (.bool false) rfl rfl ?_
  refine HO.nil (thenQ_normal (?_))
  refine HW.seq_mid (fun f h => ∃ (F' : Fz) (saw_1 : Int) (i_1 : Int) (hex_1 : Bool), f 0 = .string (bs s_1) ∧ f 2 = .bool false ∧ f 3 = .int .i32 saw_1 ∧ f 4 = .int .i64 i_1 ∧ f 5 = .bool hex_1 ∧ Kp F h0 F' h ∧ St F' (fr) h ∧ internal_strconv_underscoreOK_j2 Q s_1 saw_1 i_1 hex_1) ?_ ?_
  ·
   refine HW.seq_mid (fun f h => ∃ (F' : Fz) (b_1 : Bool), f 0 = .string (bs s_1) ∧ f 2 = .bool false ∧ f 3 = .int .i32 94 ∧ f 4 = .int .i64 0 ∧ f 5 = .bool false ∧ f 46 = .bool b_1 ∧ Kp F h0 F' h ∧ St F' (fr) h ∧ internal_strconv_underscoreOK_j3 Q s_1 b_1) ?_ ?_
   ·
    refine HW.region ?_
    refine oM (.string (bs s_1)) rfl rfl ?_
    refine oV (.int .i64 (s_1.length : Int)) (q_lenT Tryz.underlying9 rfl rfl) rfl ?_
    refine oV (.bool (decide (2 ≤ (s_1.length : Int)))) (q_geq rfl rfl) rfl ?_
    refine oM (.bool (decide (2 ≤ (s_1.length : Int)))) rfl rfl ?_
    rcases Bool.eq_false_or_eq_true (decide (2 ≤ (s_1.length : Int))) with c_4 | c_4
    ·
     replace hM := hM.1 (of_decide_eq_true c_4)
     refine HO.val (v := .string (bs s_1)) (want_by rfl rfl c_4) rfl (q_move rfl) ?_
     obtain ⟨ho_4, hM⟩ := hM
     refine HO.val (v := .int .u8 ((gi s_1 0).toNat : Int)) (want_by rfl rfl c_4) rfl (q_idxT Tryz.underlying9 rfl rfl ho_4) ?_
     refine HO.val (v := .bool (decide (((gi s_1 0).toNat : Int) = 48))) (want_by rfl rfl c_4) rfl (q_eql rfl rfl) ?_
     refine oV (.bool (decide (((gi s_1 0).toNat : Int) = 48))) (q_pickK true rfl c_4 rfl) rfl ?_
     refine oM (.bool (decide (((gi s_1 0).toNat : Int) = 48))) rfl rfl ?_
     rcases Bool.eq_false_or_eq_true (decide (((gi s_1 0).toNat : Int) = 48)) with c_5 | c_5
     ·
      replace hM := hM.1 (of_decide_eq_true c_5)
      refine HO.val (v := .string (bs s_1)) (want_by rfl rfl c_5) rfl (q_move rfl) ?_
      obtain ⟨ho_5, hM⟩ := hM
      refine HO.val (v := .int .u8 ((gi s_1 1).toNat : Int)) (want_by rfl rfl c_5) rfl (q_idxT Tryz.underlying9 rfl rfl ho_5) ?_
      refine HO.call (want_by rfl rfl c_5) rfl (ec en_133 rfl rfl) (internal_strconv_lower_walk (fr := (fr)) ((gi s_1 1).toNat : Int) hS hM) ?_
      rintro _ h_2 ⟨F_2, r_2, rfl, hk, hS, hM⟩
      replace hK := hK.trans hk
      refine HO.val (v := .bool (decide (r_2 = 98))) (want_by rfl rfl c_5) rfl (q_eql rfl rfl) ?_
      refine HO.val (v := .bool (decide (r_2 = 98))) (want_by rfl rfl c_5) rfl (q_move rfl) ?_
      rcases Bool.eq_false_or_eq_true (decide (r_2 = 98)) with c_6 | c_6
      ·
       replace hM := hM.1 (of_decide_eq_true c_6)
       refine HO.past (past_by rfl rfl c_6) rfl ?_
       refine HO.past (past_by rfl rfl c_6) rfl ?_
       refine HO.past (past_by rfl rfl c_6) rfl ?_
       refine HO.past (past_by rfl rfl c_6) rfl ?_
       refine HO.val (v := .bool true) (want_by rfl rfl c_5) rfl (q_pickK true rfl c_6 rfl) ?_
       refine HO.val (v := .bool true) (want_by rfl rfl c_5) rfl (q_move rfl) ?_
       refine HO.past (past_some rfl rfl) rfl ?_
       refine HO.past (past_some rfl rfl) rfl ?_
       refine HO.past (past_some rfl rfl) rfl ?_
       refine HO.past (past_some rfl rfl) rfl ?_
       refine HO.val (v := .bool true) (want_by rfl rfl c_5) rfl (q_pick rfl rfl) ?_
       refine oV (.bool true) (q_pickK true rfl c_5 rfl) rfl ?_
       refine HO.nil (thenQ_normal (?_))
       exact ⟨F_2, true, rfl, rfl, rfl, rfl, rfl, rfl, hK, hS, hM⟩
      ·
       replace hM := hM.2 (of_decide_eq_false c_6)
       refine HO.val (v := .string (bs s_1)) (want_by rfl rfl c_6) rfl (q_move rfl) ?_
       refine HO.val (v := .int .u8 ((gi s_1 1).toNat : Int)) (want_by rfl rfl c_6) rfl (q_idxT Tryz.underlying9 rfl rfl ho_5) ?_
       refine HO.call (want_by rfl rfl c_6) rfl (ec en_133 rfl rfl) (internal_strconv_lower_walk (fr := (fr)) ((gi s_1 1).toNat : Int) hS hM) ?_
       rintro _ h_3 ⟨F_3, r_3, rfl, hk, hS, hM⟩
       replace hK := hK.trans hk
       refine HO.val (v := .bool (decide (r_3 = 111))) (want_by rfl rfl c_6) rfl (q_eql rfl rfl) ?_
       refine HO.val (v := .bool (decide (r_3 = 111))) (want_by rfl rfl c_5) rfl (q_pickK false rfl c_6 rfl) ?_
       refine HO.val (v := .bool (decide (r_3 = 111))) (want_by rfl rfl c_5) rfl (q_move rfl) ?_
       rcases Bool.eq_false_or_eq_true (decide (r_3 = 111)) with c_7 | c_7
       ·
        replace hM := hM.1 (of_decide_eq_true c_7)
        refine HO.past (past_by rfl rfl c_7) rfl ?_
        refine HO.past (past_by rfl rfl c_7) rfl ?_
        refine HO.past (past_by rfl rfl c_7) rfl ?_
        refine HO.past (past_by rfl rfl c_7) rfl ?_
        refine HO.val (v := .bool true) (want_by rfl rfl c_5) rfl (q_pickK true rfl c_7 rfl) ?_
        refine oV (.bool true) (q_pickK true rfl c_5 rfl) rfl ?_
        refine HO.nil (thenQ_normal (?_))
        exact ⟨F_3, true, rfl, rfl, rfl, rfl, rfl, rfl, hK, hS, hM⟩
       ·
        replace hM := hM.2 (of_decide_eq_false c_7)
        refine HO.val (v := .string (bs s_1)) (want_by rfl rfl c_7) rfl (q_move rfl) ?_
        refine HO.val (v := .int .u8 ((gi s_1 1).toNat : Int)) (want_by rfl rfl c_7) rfl (q_idxT Tryz.underlying9 rfl rfl ho_5) ?_
        refine HO.call (want_by rfl rfl c_7) rfl (ec en_133 rfl rfl) (internal_strconv_lower_walk (fr := (fr)) ((gi s_1 1).toNat : Int) hS hM) ?_
        rintro _ h_4 ⟨F_4, r_4, rfl, hk, hS, hM⟩
        replace hK := hK.trans hk
        refine HO.val (v := .bool (decide (r_4 = 120))) (want_by rfl rfl c_7) rfl (q_eql rfl rfl) ?_
        refine HO.val (v := .bool (decide (r_4 = 120))) (want_by rfl rfl c_5) rfl (q_pickK false rfl c_7 rfl) ?_
        refine oV (.bool (decide (r_4 = 120))) (q_pickK true rfl c_5 rfl) rfl ?_
        refine HO.nil (thenQ_normal (?_))
        exact ⟨F_4, decide (r_4 = 120), rfl, rfl, rfl, rfl, rfl, rfl, hK, hS, hM⟩
     ·
      replace hM := hM.2 (of_decide_eq_false c_5)
      refine HO.past (past_by rfl rfl c_5) rfl ?_
      refine HO.past (past_by rfl rfl c_5) rfl ?_
      refine HO.past (past_by rfl rfl c_5) rfl ?_
      refine HO.past (past_by rfl rfl c_5) rfl ?_
      refine HO.past (past_by rfl rfl c_5) rfl ?_
      refine HO.past (past_undef rfl rfl) rfl ?_
      refine HO.past (past_undef rfl rfl) rfl ?_
      refine HO.past (past_undef rfl rfl) rfl ?_
      refine HO.past (past_undef rfl rfl) rfl ?_
      refine HO.past (past_by rfl rfl c_5) rfl ?_
      refine HO.past (past_by rfl rfl c_5) rfl ?_
      refine HO.past (past_undef rfl rfl) rfl ?_
      refine HO.past (past_undef rfl rfl) rfl ?_
      refine HO.past (past_undef rfl rfl) rfl ?_
      refine HO.past (past_undef rfl rfl) rfl ?_
      refine HO.past (past_by rfl rfl c_5) rfl ?_
      refine oV (.bool false) (q_pickK false rfl c_5 rfl) rfl ?_
      refine HO.nil (thenQ_normal (?_))
      exact ⟨F_1, false, rfl, rfl, rfl, rfl, rfl, rfl, hK, hS, hM⟩
    ·
     replace hM := hM.2 (of_decide_eq_false c_4)
     refine HO.past (past_by rfl rfl c_4) rfl ?_
     refine HO.past (past_by rfl rfl c_4) rfl ?_
     refine HO.past (past_by rfl rfl c_4) rfl ?_
     refine oV (.bool false) (q_pickK false rfl c_4 rfl) rfl ?_
     refine oM (.bool false) rfl rfl ?_
     refine HO.past (past_some rfl rfl) rfl ?_
     refine HO.past (past_some rfl rfl) rfl ?_
     refine HO.past (past_some rfl rfl) rfl ?_
     refine HO.past (past_some rfl rfl) rfl ?_
     refine HO.past (past_some rfl rfl) rfl ?_
     refine HO.past (past_undef rfl rfl) rfl ?_
     refine HO.past (past_undef rfl rfl) rfl ?_
     refine HO.past (past_undef rfl rfl) rfl ?_
     refine HO.past (past_undef rfl rfl) rfl ?_
     refine HO.past (past_some rfl rfl) rfl ?_
     refine HO.past (past_some rfl rfl) rfl ?_
     refine HO.past (past_undef rfl rfl) rfl ?_
     refine HO.past (past_undef rfl rfl) rfl ?_
     refine HO.past (past_undef rfl rfl) rfl ?_
     refine HO.past (past_undef rfl rfl) rfl ?_
     refine HO.past (past_some rfl rfl) rfl ?_
     refine oV (.bool false) (q_pick rfl rfl) rfl ?_
     refine HO.nil (thenQ_normal (?_))
     exact ⟨F_1, false, rfl, rfl, rfl, rfl, rfl, rfl, hK, hS, hM⟩
   ·
    rintro f_2 h_5 ⟨F_5, b_1, e0, e2, e3, e4, e5, e46, hK, hS, hM⟩
    unfold internal_strconv_underscoreOK_j3 at hM
    refine HW.fr [(0, .string (bs s_1)), (2, .bool false), (3, .int .i32 94), (4, .int .i64 0), (5, .bool false), (46, .bool b_1)] ⟨e0, e2, e3, e4, e5, e46, trivial⟩ ?_
    refine HW.cond b_1 rfl (fun c_8 => ?_) (fun c_8 => ?_)
    ·
     replace hM := hM.1 c_8
     refine HW.seq ?_
     refine HW.region ?_
     refine oA (.int .i64 2) rfl rfl ?_
     refine HO.nil (thenQ_normal (?_))
     refine HW.seq ?_
     refine HW.region ?_
     refine oA (.int .i32 48) rfl rfl ?_
     refine HO.nil (thenQ_normal (?_))
     refine HW.region ?_
     refine oM (.string (bs s_1)) rfl rfl ?_
     obtain ⟨ho_6, hM⟩ := hM
     refine oV (.int .u8 ((gi s_1 1).toNat : Int)) (q_idxT Tryz.underlying9 rfl rfl ho_6) rfl ?_
     refine HO.call (want_none) rfl (ec en_133 rfl rfl) (internal_strconv_lower_walk (fr := (fr)) ((gi s_1 1).toNat : Int) hS hM) ?_
     rintro _ h_6 ⟨F_6, r_5, rfl, hk, hS, hM⟩
     replace hK := hK.trans hk
     refine oV (.bool (decide (r_5 = 120))) (q_eql rfl rfl) rfl ?_
     refine oA (.bool (decide (r_5 = 120))) rfl rfl ?_
     refine HO.nil (thenQ_normal (?_))
     exact ⟨F_6, 48, 2, decide (r_5 = 120), rfl, rfl, rfl, rfl, rfl, hK, hS, hM⟩
    ·
     replace hM := hM.2 c_8
     refine HW.skip (thenQ_normal (?_))
     exact ⟨F_5, 94, 0, false, rfl, rfl, rfl, rfl, rfl, hK, hS, hM⟩
  ·
   rintro f_3 h_7 ⟨F_7, saw_1, i_1, hex_1, e0, e2, e3, e4, e5, hK, hS, hM⟩
   unfold internal_strconv_underscoreOK_j2 at hM
   refine HW.fr [(0, .string (bs s_1)), (2, .bool false), (3, .int .i32 saw_1), (4, .int .i64 i_1), (5, .bool hex_1)] ⟨e0, e2, e3, e4, e5, trivial⟩ ?_
   refine HW.seq ?_
   refine HW.block ?_
   obtain ⟨I_1, m_1, hI_1, hR_1⟩ := hM
   refine HW.loop (S := Int × Int) (fun s f h => match s with | (saw_2, i_2) => ∃ (F' : Fz), f 0 = .string (bs s_1) ∧ f 2 = .bool false ∧ f 3 = .int .i32 saw_2 ∧ f 4 = .int .i64 i_2 ∧ f 5 = .bool hex_1 ∧ Kp F h0 F' h ∧ St F' (fr) h ∧ I_1 (saw_2, i_2)) m_1 (saw_1, i_1) ⟨F_7, rfl, rfl, rfl, rfl, rfl, hK, hS, hI_1⟩ ?_
   rintro ⟨saw_2, i_2⟩ f_4 h_8 ⟨F_8, e0, e2, e3, e4, e5, hK, hS, hI0⟩
   obtain ⟨K_1, hKe_1⟩ : ∃ K : Int → Int → Prop, K = fun saw_2' i_2' => I_1 (saw_2', i_2') ∧ m_1 (saw_2', i_2') < m_1 (saw_2, i_2) := ⟨_, rfl⟩
   have hM : internal_strconv_underscoreOK_l1 Q s_1 hex_1 K_1 saw_2 i_2 := by rw [hKe_1]; exact hR_1 (saw_2, i_2) hI0
   unfold internal_strconv_underscoreOK_l1 at hM
   refine HW.fr [(0, .string (bs s_1)), (2, .bool false), (3, .int .i32 saw_2), (4, .int .i64 i_2), (5, .bool hex_1)] ⟨e0, e2, e3, e4, e5, trivial⟩ ?_
   refine HW.seq ?_
   refine HW.seq ?_
   refine HW.region ?_
   refine oM (.int .i64 i_2) rfl rfl ?_
   refine oM (.string (bs s_1)) rfl rfl ?_
   refine oV (.int .i64 (s_1.length : Int)) (q_lenT Tryz.underlying9 rfl rfl) rfl ?_
   refine oV (.bool (decide (i_2 < (s_1.length : Int)))) (q_lss rfl rfl) rfl ?_
   refine HO.nil (thenQ_normal (?_))
   refine HW.cond (decide (i_2 < (s_1.length : Int))) rfl (fun c_9 => ?_) (fun c_9 => ?_)
   ·
    replace hM := hM.1 (of_decide_eq_true c_9)
    refine HW.skip (thenQ_normal (?_))
    refine HW.seq ?_
    refine HW.block ?_
    refine HW.seq_mid (fun f h => ∃ (F' : Fz), f 0 = .string (bs s_1) ∧ f 2 = .bool false ∧ f 3 = .int .i32 saw_2 ∧ f 4 = .int .i64 i_2 ∧ f 5 = .bool hex_1 ∧ Kp F h0 F' h ∧ St F' (fr) h ∧ internal_strconv_underscoreOK_j4 Q s_1 saw_2 i_2 K_1) ?_ ?_
    ·
     refine HW.seq ?_
     refine HW.region ?_
     refine oM (.string (bs s_1)) rfl rfl ?_
     refine oM (.int .i64 i_2) rfl rfl ?_
     obtain ⟨ho_7, hM⟩ := hM
     refine oV (.int .u8 ((gi s_1 i_2).toNat : Int)) (q_idxT Tryz.underlying9 rfl rfl ho_7) rfl ?_
     refine oV (.bool (decide (48 ≤ ((gi s_1 i_2).toNat : Int)))) (q_leq rfl rfl) rfl ?_
     refine oM (.bool (decide (48 ≤ ((gi s_1 i_2).toNat : Int)))) rfl rfl ?_
     rcases Bool.eq_false_or_eq_true (decide (48 ≤ ((gi s_1 i_2).toNat : Int))) with c_10 | c_10
     ·
      replace hM := hM.1 (of_decide_eq_true c_10)
      refine HO.val (v := .string (bs s_1)) (want_by rfl rfl c_10) rfl (q_move rfl) ?_
      refine HO.val (v := .int .i64 i_2) (want_by rfl rfl c_10) rfl (q_move rfl) ?_
      refine HO.val (v := .int .u8 ((gi s_1 i_2).toNat : Int)) (want_by rfl rfl c_10) rfl (q_idxT Tryz.underlying9 rfl rfl ho_7) ?_
      refine HO.val (v := .bool (decide (((gi s_1 i_2).toNat : Int) ≤ 57))) (want_by rfl rfl c_10) rfl (q_leq rfl rfl) ?_
      refine oV (.bool (decide (((gi s_1 i_2).toNat : Int) ≤ 57))) (q_pickK true rfl c_10 rfl) rfl ?_
      refine oM (.bool (decide (((gi s_1 i_2).toNat : Int) ≤ 57))) rfl rfl ?_
      rcases Bool.eq_false_or_eq_true (decide (((gi s_1 i_2).toNat : Int) ≤ 57)) with c_11 | c_11
      ·
       replace hM := hM.1 (of_decide_eq_true c_11)
       refine HO.past (past_by rfl rfl c_11) rfl ?_
       refine HO.past (past_by rfl rfl c_11) rfl ?_
       refine HO.past (past_undef rfl rfl) rfl ?_
       refine HO.past (past_undef rfl rfl) rfl ?_
       refine HO.past (past_undef rfl rfl) rfl ?_
       refine HO.past (past_undef rfl rfl) rfl ?_
       refine HO.past (past_undef rfl rfl) rfl ?_
       refine HO.past (past_by rfl rfl c_11) rfl ?_
       refine HO.past (past_by rfl rfl c_11) rfl ?_
       refine HO.past (past_undef rfl rfl) rfl ?_
       refine HO.past (past_undef rfl rfl) rfl ?_
       refine HO.past (past_undef rfl rfl) rfl ?_
       refine HO.past (past_undef rfl rfl) rfl ?_
       refine HO.past (past_undef rfl rfl) rfl ?_
       refine HO.past (past_by rfl rfl c_11) rfl ?_
       refine oV (.bool true) (q_pickK true rfl c_11 rfl) rfl ?_
       refine HO.nil (thenQ_normal (?_))
       refine HW.condT rfl ?_
       refine HW.seq ?_
       refine HW.region ?_
       refine oA (.int .i32 48) rfl rfl ?_
       refine HO.nil (thenQ_normal (?_))
       refine HW.exit (thenQ_exit (blockQ_exit (thenQ_normal (?_))))
       refine HW.region ?_
       refine oM (.int .i64 i_2) rfl rfl ?_
       obtain ⟨ho_8, hM⟩ := hM
       refine oV (.int .i64 (i_2 + 1)) (q_addN _ rfl rfl rfl ho_8.1 ho_8.2) rfl ?_
       refine oA (.int .i64 (i_2 + 1)) rfl rfl ?_
       refine HO.nil (thenQ_normal (?_))
       rw [hKe_1] at hM
       exact ⟨(48, i_2 + 1), ⟨F_8, rfl, rfl, rfl, rfl, rfl, hK, hS, hM.1⟩, hM.2⟩
      ·
       replace hM := hM.2 (of_decide_eq_false c_11)
       refine HO.val (v := .bool hex_1) (want_by rfl rfl c_11) rfl (q_move rfl) ?_
       refine HO.val (v := .bool hex_1) (want_by rfl rfl c_11) rfl (q_move rfl) ?_
       rcases Bool.eq_false_or_eq_true hex_1 with c_12 | c_12
       ·
        replace hM := hM.1 c_12
        refine HO.val (v := .string (bs s_1)) (want_by rfl rfl c_12) rfl (q_move rfl) ?_
        refine HO.val (v := .int .i64 i_2) (want_by rfl rfl c_12) rfl (q_move rfl) ?_
        refine HO.val (v := .int .u8 ((gi s_1 i_2).toNat : Int)) (want_by rfl rfl c_12) rfl (q_idxT Tryz.underlying9 rfl rfl ho_7) ?_
        refine HO.call (want_by rfl rfl c_12) rfl (ec en_133 rfl rfl) (internal_strconv_lower_walk (fr := (fr)) ((gi s_1 i_2).toNat : Int) hS hM) ?_
        rintro _ h_9 ⟨F_9, r_6, rfl, hk, hS, hM⟩
        replace hK := hK.trans hk
        refine HO.val (v := .bool (decide (97 ≤ r_6))) (want_by rfl rfl c_12) rfl (q_leq rfl rfl) ?_
        refine HO.val (v := .bool (decide (97 ≤ r_6))) (want_by rfl rfl c_11) rfl (q_pickK true rfl c_12 rfl) ?_
        refine HO.val (v := .bool (decide (97 ≤ r_6))) (want_by rfl rfl c_11) rfl (q_move rfl) ?_
        rcases Bool.eq_false_or_eq_true (decide (97 ≤ r_6)) with c_13 | c_13
        ·
         replace hM := hM.1 (of_decide_eq_true c_13)
         refine HO.val (v := .string (bs s_1)) (want_by rfl rfl c_13) rfl (q_move rfl) ?_
         refine HO.val (v := .int .i64 i_2) (want_by rfl rfl c_13) rfl (q_move rfl) ?_
         refine HO.val (v := .int .u8 ((gi s_1 i_2).toNat : Int)) (want_by rfl rfl c_13) rfl (q_idxT Tryz.underlying9 rfl rfl ho_7) ?_
         refine HO.call (want_by rfl rfl c_13) rfl (ec en_133 rfl rfl) (internal_strconv_lower_walk (fr := (fr)) ((gi s_1 i_2).toNat : Int) hS hM) ?_
         rintro _ h_10 ⟨F_10, r_7, rfl, hk, hS, hM⟩
         replace hK := hK.trans hk
         refine HO.val (v := .bool (decide (r_7 ≤ 102))) (want_by rfl rfl c_13) rfl (q_leq rfl rfl) ?_
         refine HO.val (v := .bool (decide (r_7 ≤ 102))) (want_by rfl rfl c_11) rfl (q_pickK true rfl c_13 rfl) ?_
         refine oV (.bool (decide (r_7 ≤ 102))) (q_pickK false rfl c_11 rfl) rfl ?_
         refine HO.nil (thenQ_normal (?_))
         refine HW.cond (decide (r_7 ≤ 102)) rfl (fun c_14 => ?_) (fun c_14 => ?_)
         ·
          replace hM := hM.1 (of_decide_eq_true c_14)
          refine HW.seq ?_
          refine HW.region ?_
          refine oA (.int .i32 48) rfl rfl ?_
          refine HO.nil (thenQ_normal (?_))
          refine HW.exit (thenQ_exit (blockQ_exit (thenQ_normal (?_))))
          refine HW.region ?_
          refine oM (.int .i64 i_2) rfl rfl ?_
          obtain ⟨ho_9, hM⟩ := hM
          refine oV (.int .i64 (i_2 + 1)) (q_addN _ rfl rfl rfl ho_9.1 ho_9.2) rfl ?_
          refine oA (.int .i64 (i_2 + 1)) rfl rfl ?_
          refine HO.nil (thenQ_normal (?_))
          rw [hKe_1] at hM
          exact ⟨(48, i_2 + 1), ⟨F_10, rfl, rfl, rfl, rfl, rfl, hK, hS, hM.1⟩, hM.2⟩
         ·
          replace hM := hM.2 (of_decide_eq_false c_14)
          refine HW.skip (thenQ_normal (?_))
          exact ⟨F_10, rfl, rfl, rfl, rfl, rfl, hK, hS, hM⟩
        ·
         replace hM := hM.2 (of_decide_eq_false c_13)
         refine HO.past (past_by rfl rfl c_13) rfl ?_
         refine HO.past (past_by rfl rfl c_13) rfl ?_
         refine HO.past (past_by rfl rfl c_13) rfl ?_
         refine HO.past (past_by rfl rfl c_13) rfl ?_
         refine HO.past (past_by rfl rfl c_13) rfl ?_
         refine HO.val (v := .bool false) (want_by rfl rfl c_11) rfl (q_pickK false rfl c_13 rfl) ?_
         refine oV (.bool false) (q_pickK false rfl c_11 rfl) rfl ?_
         refine HO.nil (thenQ_normal (?_))
         refine HW.condF rfl ?_
         refine HW.skip (thenQ_normal (?_))
         exact ⟨F_9, rfl, rfl, rfl, rfl, rfl, hK, hS, hM⟩
       ·
        replace hM := hM.2 c_12
        refine HO.past (past_by rfl rfl c_12) rfl ?_
        refine HO.past (past_by rfl rfl c_12) rfl ?_
        refine HO.past (past_by rfl rfl c_12) rfl ?_
        refine HO.past (past_by rfl rfl c_12) rfl ?_
        refine HO.past (past_by rfl rfl c_12) rfl ?_
        refine HO.val (v := .bool false) (want_by rfl rfl c_11) rfl (q_pickK false rfl c_12 rfl) ?_
        refine HO.val (v := .bool false) (want_by rfl rfl c_11) rfl (q_move rfl) ?_
        refine HO.past (past_some rfl rfl) rfl ?_
        refine HO.past (past_some rfl rfl) rfl ?_
        refine HO.past (past_some rfl rfl) rfl ?_
        refine HO.past (past_some rfl rfl) rfl ?_
        refine HO.past (past_some rfl rfl) rfl ?_
        refine HO.val (v := .bool false) (want_by rfl rfl c_11) rfl (q_pick rfl rfl) ?_
        refine oV (.bool false) (q_pickK false rfl c_11 rfl) rfl ?_
        refine HO.nil (thenQ_normal (?_))
        refine HW.condF rfl ?_
        refine HW.skip (thenQ_normal (?_))
        exact ⟨F_8, rfl, rfl, rfl, rfl, rfl, hK, hS, hM⟩
     ·
      replace hM := hM.2 (of_decide_eq_false c_10)
      refine HO.past (past_by rfl rfl c_10) rfl ?_
      refine HO.past (past_by rfl rfl c_10) rfl ?_
      refine HO.past (past_by rfl rfl c_10) rfl ?_
      refine HO.past (past_by rfl rfl c_10) rfl ?_
      refine oV (.bool false) (q_pickK false rfl c_10 rfl) rfl ?_
      refine oM (.bool false) rfl rfl ?_
      refine HO.val (v := .bool hex_1) (want_some rfl rfl) rfl (q_move rfl) ?_
      refine HO.val (v := .bool hex_1) (want_some rfl rfl) rfl (q_move rfl) ?_
      rcases Bool.eq_false_or_eq_true hex_1 with c_15 | c_15
      ·
       replace hM := hM.1 c_15
       refine HO.val (v := .string (bs s_1)) (want_by rfl rfl c_15) rfl (q_move rfl) ?_
       refine HO.val (v := .int .i64 i_2) (want_by rfl rfl c_15) rfl (q_move rfl) ?_
       refine HO.val (v := .int .u8 ((gi s_1 i_2).toNat : Int)) (want_by rfl rfl c_15) rfl (q_idxT Tryz.underlying9 rfl rfl ho_7) ?_
       refine HO.call (want_by rfl rfl c_15) rfl (ec en_133 rfl rfl) (internal_strconv_lower_walk (fr := (fr)) ((gi s_1 i_2).toNat : Int) hS hM) ?_
       rintro _ h_11 ⟨F_11, r_8, rfl, hk, hS, hM⟩
       replace hK := hK.trans hk
       refine HO.val (v := .bool (decide (97 ≤ r_8))) (want_by rfl rfl c_15) rfl (q_leq rfl rfl) ?_
       refine HO.val (v := .bool (decide (97 ≤ r_8))) (want_some rfl rfl) rfl (q_pickK true rfl c_15 rfl) ?_
       refine HO.val (v := .bool (decide (97 ≤ r_8))) (want_some rfl rfl) rfl (q_move rfl) ?_
       rcases Bool.eq_false_or_eq_true (decide (97 ≤ r_8)) with c_16 | c_16
       ·
        replace hM := hM.1 (of_decide_eq_true c_16)
        refine HO.val (v := .string (bs s_1)) (want_by rfl rfl c_16) rfl (q_move rfl) ?_
        refine HO.val (v := .int .i64 i_2) (want_by rfl rfl c_16) rfl (q_move rfl) ?_
        refine HO.val (v := .int .u8 ((gi s_1 i_2).toNat : Int)) (want_by rfl rfl c_16) rfl (q_idxT Tryz.underlying9 rfl rfl ho_7) ?_
        refine HO.call (want_by rfl rfl c_16) rfl (ec en_133 rfl rfl) (internal_strconv_lower_walk (fr := (fr)) ((gi s_1 i_2).toNat : Int) hS hM) ?_
        rintro _ h_12 ⟨F_12, r_9, rfl, hk, hS, hM⟩
        replace hK := hK.trans hk
        refine HO.val (v := .bool (decide (r_9 ≤ 102))) (want_by rfl rfl c_16) rfl (q_leq rfl rfl) ?_
        refine HO.val (v := .bool (decide (r_9 ≤ 102))) (want_some rfl rfl) rfl (q_pickK true rfl c_16 rfl) ?_
        refine oV (.bool (decide (r_9 ≤ 102))) (q_pick rfl rfl) rfl ?_
        refine HO.nil (thenQ_normal (?_))
        refine HW.cond (decide (r_9 ≤ 102)) rfl (fun c_17 => ?_) (fun c_17 => ?_)
        ·
         replace hM := hM.1 (of_decide_eq_true c_17)
         refine HW.seq ?_
         refine HW.region ?_
         refine oA (.int .i32 48) rfl rfl ?_
         refine HO.nil (thenQ_normal (?_))
         refine HW.exit (thenQ_exit (blockQ_exit (thenQ_normal (?_))))
         refine HW.region ?_
         refine oM (.int .i64 i_2) rfl rfl ?_
         obtain ⟨ho_10, hM⟩ := hM
         refine oV (.int .i64 (i_2 + 1)) (q_addN _ rfl rfl rfl ho_10.1 ho_10.2) rfl ?_
         refine oA (.int .i64 (i_2 + 1)) rfl rfl ?_
         refine HO.nil (thenQ_normal (?_))
         rw [hKe_1] at hM
         exact ⟨(48, i_2 + 1), ⟨F_12, rfl, rfl, rfl, rfl, rfl, hK, hS, hM.1⟩, hM.2⟩
        ·
         replace hM := hM.2 (of_decide_eq_false c_17)
         refine HW.skip (thenQ_normal (?_))
         exact ⟨F_12, rfl, rfl, rfl, rfl, rfl, hK, hS, hM⟩
       ·
        replace hM := hM.2 (of_decide_eq_false c_16)
        refine HO.past (past_by rfl rfl c_16) rfl ?_
        refine HO.past (past_by rfl rfl c_16) rfl ?_
        refine HO.past (past_by rfl rfl c_16) rfl ?_
        refine HO.past (past_by rfl rfl c_16) rfl ?_
        refine HO.past (past_by rfl rfl c_16) rfl ?_
        refine HO.val (v := .bool false) (want_some rfl rfl) rfl (q_pickK false rfl c_16 rfl) ?_
        refine oV (.bool false) (q_pick rfl rfl) rfl ?_
        refine HO.nil (thenQ_normal (?_))
        refine HW.condF rfl ?_
        refine HW.skip (thenQ_normal (?_))
        exact ⟨F_11, rfl, rfl, rfl, rfl, rfl, hK, hS, hM⟩
      ·
       replace hM := hM.2 c_15
       refine HO.past (past_by rfl rfl c_15) rfl ?_
       refine HO.past (past_by rfl rfl c_15) rfl ?_
       refine HO.past (past_by rfl rfl c_15) rfl ?_
       refine HO.past (past_by rfl rfl c_15) rfl ?_
       refine HO.past (past_by rfl rfl c_15) rfl ?_
       refine HO.val (v := .bool false) (want_some rfl rfl) rfl (q_pickK false rfl c_15 rfl) ?_
       refine HO.val (v := .bool false) (want_some rfl rfl) rfl (q_move rfl) ?_
       refine HO.past (past_some rfl rfl) rfl ?_
       refine HO.past (past_some rfl rfl) rfl ?_
       refine HO.past (past_some rfl rfl) rfl ?_
       refine HO.past (past_some rfl rfl) rfl ?_
       refine HO.past (past_some rfl rfl) rfl ?_
       refine HO.val (v := .bool false) (want_some rfl rfl) rfl (q_pick rfl rfl) ?_
       refine oV (.bool false) (q_pick rfl rfl) rfl ?_
       refine HO.nil (thenQ_normal (?_))
       refine HW.condF rfl ?_
       refine HW.skip (thenQ_normal (?_))
       exact ⟨F_8, rfl, rfl, rfl, rfl, rfl, hK, hS, hM⟩
    ·
     rintro f_5 h_13 ⟨F_13, e0, e2, e3, e4, e5, hK, hS, hM⟩
     unfold internal_strconv_underscoreOK_j4 at hM
     refine HW.fr [(0, .string (bs s_1)), (2, .bool false), (3, .int .i32 saw_2), (4, .int .i64 i_2), (5, .bool hex_1)] ⟨e0, e2, e3, e4, e5, trivial⟩ ?_
     refine HW.seq ?_
     refine HW.seq ?_
     refine HW.region ?_
     refine oM (.string (bs s_1)) rfl rfl ?_
     refine oM (.int .i64 i_2) rfl rfl ?_
     obtain ⟨ho_11, hM⟩ := hM
     refine oV (.int .u8 ((gi s_1 i_2).toNat : Int)) (q_idxT Tryz.underlying9 rfl rfl ho_11) rfl ?_
     refine oV (.bool (decide (((gi s_1 i_2).toNat : Int) = 95))) (q_eql rfl rfl) rfl ?_
     refine HO.nil (thenQ_normal (?_))
     refine HW.cond (decide (((gi s_1 i_2).toNat : Int) = 95)) rfl (fun c_18 => ?_) (fun c_18 => ?_)
     ·
      replace hM := hM.1 (of_decide_eq_true c_18)
      refine HW.seq ?_
      refine HW.seq ?_
      refine HW.region ?_
      refine oM (.int .i32 saw_2) rfl rfl ?_
      refine oV (.bool (!decide (saw_2 = 48))) (q_neq rfl rfl) rfl ?_
      refine HO.nil (thenQ_normal (?_))
      refine HW.cond (!decide (saw_2 = 48)) rfl (fun c_19 => ?_) (fun c_19 => ?_)
      ·
       replace hM := hM.1 (nd_true c_19)
       refine HW.seq ?_
       refine HW.region ?_
       refine oA (.bool false) rfl rfl ?_
       refine HO.nil (thenQ_normal (?_))
       refine HW.ret (thenQ_ret (thenQ_ret (blockQ_ret (thenQ_ret (thenQ_ret (blockQ_ret (thenQ_ret (?_))))))))
       refine ⟨.inr rfl, .bool false, res1 rfl (rt rfl), ?_⟩
       exact ⟨F_13, false, rfl, hK, hS, hM⟩
      ·
       replace hM := hM.2 (nd_false c_19)
       refine HW.skip (thenQ_normal (?_))
       refine HW.seq ?_
       refine HW.region ?_
       refine oA (.int .i32 95) rfl rfl ?_
       refine HO.nil (thenQ_normal (?_))
       refine HW.exit (thenQ_exit (blockQ_exit (thenQ_normal (?_))))
       refine HW.region ?_
       refine oM (.int .i64 i_2) rfl rfl ?_
       obtain ⟨ho_12, hM⟩ := hM
       refine oV (.int .i64 (i_2 + 1)) (q_addN _ rfl rfl rfl ho_12.1 ho_12.2) rfl ?_
       refine oA (.int .i64 (i_2 + 1)) rfl rfl ?_
       refine HO.nil (thenQ_normal (?_))
       rw [hKe_1] at hM
       exact ⟨(95, i_2 + 1), ⟨F_13, rfl, rfl, rfl, rfl, rfl, hK, hS, hM.1⟩, hM.2⟩
     ·
      replace hM := hM.2 (of_decide_eq_false c_18)
      refine HW.skip (thenQ_normal (?_))
      refine HW.seq ?_
      refine HW.seq ?_
      refine HW.region ?_
      refine oM (.int .i32 saw_2) rfl rfl ?_
      refine oV (.bool (decide (saw_2 = 95))) (q_eql rfl rfl) rfl ?_
      refine HO.nil (thenQ_normal (?_))
      refine HW.cond (decide (saw_2 = 95)) rfl (fun c_20 => ?_) (fun c_20 => ?_)
      ·
       replace hM := hM.1 (of_decide_eq_true c_20)
       refine HW.seq ?_
       refine HW.region ?_
       refine oA (.bool false) rfl rfl ?_
       refine HO.nil (thenQ_normal (?_))
       refine HW.ret (thenQ_ret (blockQ_ret (thenQ_ret (thenQ_ret (blockQ_ret (thenQ_ret (?_)))))))
       refine ⟨.inr rfl, .bool false, res1 rfl (rt rfl), ?_⟩
       exact ⟨F_13, false, rfl, hK, hS, hM⟩
      ·
       replace hM := hM.2 (of_decide_eq_false c_20)
       refine HW.skip (thenQ_normal (?_))
       refine HW.region ?_
       refine oA (.int .i32 33) rfl rfl ?_
       refine HO.nil (blockQ_normal (thenQ_normal (?_)))
       refine HW.region ?_
       refine oM (.int .i64 i_2) rfl rfl ?_
       obtain ⟨ho_13, hM⟩ := hM
       refine oV (.int .i64 (i_2 + 1)) (q_addN _ rfl rfl rfl ho_13.1 ho_13.2) rfl ?_
       refine oA (.int .i64 (i_2 + 1)) rfl rfl ?_
       refine HO.nil (thenQ_normal (?_))
       rw [hKe_1] at hM
       exact ⟨(33, i_2 + 1), ⟨F_13, rfl, rfl, rfl, rfl, rfl, hK, hS, hM.1⟩, hM.2⟩
   ·
    replace hM := hM.2 (of_decide_eq_false c_9)
    refine HW.exit (thenQ_exit (thenQ_exit (blockQ_exit (thenQ_normal (?_)))))
    refine HW.seq ?_
    refine HW.region ?_
    refine oM (.int .i32 saw_2) rfl rfl ?_
    refine oV (.bool (!decide (saw_2 = 95))) (q_neq rfl rfl) rfl ?_
    refine oA (.bool (!decide (saw_2 = 95))) rfl rfl ?_
    refine HO.nil (thenQ_normal (?_))
    refine HW.ret (?_)
    refine ⟨.inr rfl, .bool (!decide (saw_2 = 95)), res1 rfl (rt rfl), ?_⟩
    exact ⟨F_8, !decide (saw_2 = 95), rfl, hK, hS, hM⟩

def internal_strconv_ParseUint_j12 (Q : Int → Int → Prop) (base_1 : Int) (bitSize_1 : Int) (underscores_1 : Bool) (n_1 : Int) (n_2 : Int) (K_1 : Bool → Int → Int → Prop) (d_1 : Int) (b_8 : Bool) : Prop :=
 (b_8 = true → Q (IntKind.u64.wrap ((IntKind.u64.wrap ((1 : Int) * 2 ^ (min (IntKind.u64.wrap bitSize_1).toNat IntKind.u64.bits))) - 1)) 1) ∧ (b_8 = false → (I64 (n_2 + 1)) ∧ (K_1 underscores_1 (IntKind.u64.wrap ((IntKind.u64.wrap (n_1 * (IntKind.u64.wrap base_1))) + (IntKind.u64.wrap d_1))) (n_2 + 1)))
def internal_strconv_ParseUint_j8 (Q : Int → Int → Prop) (base_1 : Int) (bitSize_1 : Int) (cutoff_1 : Int) (underscores_1 : Bool) (n_1 : Int) (n_2 : Int) (K_1 : Bool → Int → Int → Prop) (d_1 : Int) : Prop :=
 (((u8w base_1).toNat : Int) ≤ d_1 → Q 0 2) ∧ (¬ (((u8w base_1).toNat : Int) ≤ d_1) → (cutoff_1 ≤ n_1 → Q (IntKind.u64.wrap ((IntKind.u64.wrap ((1 : Int) * 2 ^ (min (IntKind.u64.wrap bitSize_1).toNat IntKind.u64.bits))) - 1)) 1) ∧ (¬ (cutoff_1 ≤ n_1) → ((IntKind.u64.wrap ((IntKind.u64.wrap (n_1 * (IntKind.u64.wrap base_1))) + (IntKind.u64.wrap d_1))) < (IntKind.u64.wrap (n_1 * (IntKind.u64.wrap base_1))) → internal_strconv_ParseUint_j12 Q base_1 bitSize_1 underscores_1 n_1 n_2 K_1 d_1 true) ∧ (¬ ((IntKind.u64.wrap ((IntKind.u64.wrap (n_1 * (IntKind.u64.wrap base_1))) + (IntKind.u64.wrap d_1))) < (IntKind.u64.wrap (n_1 * (IntKind.u64.wrap base_1)))) → internal_strconv_ParseUint_j12 Q base_1 bitSize_1 underscores_1 n_1 n_2 K_1 d_1 (decide ((IntKind.u64.wrap ((IntKind.u64.wrap ((1 : Int) * 2 ^ (min (IntKind.u64.wrap bitSize_1).toNat IntKind.u64.bits))) - 1)) < (IntKind.u64.wrap ((IntKind.u64.wrap (n_1 * (IntKind.u64.wrap base_1))) + (IntKind.u64.wrap d_1))))))))
def internal_strconv_ParseUint_j11 (Q : Int → Int → Prop) (s_1 : Str) (base_1 : Int) (bitSize_1 : Int) (cutoff_1 : Int) (underscores_1 : Bool) (n_1 : Int) (n_2 : Int) (K_1 : Bool → Int → Int → Prop) (b_7 : Bool) : Prop :=
 (b_7 = true → internal_strconv_lower_W ((gi s_1 n_2).toNat : Int) (fun r_6 => internal_strconv_ParseUint_j8 Q base_1 bitSize_1 cutoff_1 underscores_1 n_1 n_2 K_1 ((u8w (((u8w (r_6 - 97)).toNat : Int) + 10)).toNat : Int))) ∧ (b_7 = false → Q 0 2)
def internal_strconv_ParseUint_j10 (Q : Int → Int → Prop) (s_1 : Str) (base_1 : Int) (bitSize_1 : Int) (cutoff_1 : Int) (underscores_1 : Bool) (n_1 : Int) (n_2 : Int) (K_1 : Bool → Int → Int → Prop) (b_6 : Bool) : Prop :=
 (b_6 = true → internal_strconv_ParseUint_j8 Q base_1 bitSize_1 cutoff_1 underscores_1 n_1 n_2 K_1 ((u8w (((gi s_1 n_2).toNat : Int) - 48)).toNat : Int)) ∧ (b_6 = false → internal_strconv_lower_W ((gi s_1 n_2).toNat : Int) (fun r_4 => (97 ≤ r_4 → internal_strconv_lower_W ((gi s_1 n_2).toNat : Int) (fun r_5 => internal_strconv_ParseUint_j11 Q s_1 base_1 bitSize_1 cutoff_1 underscores_1 n_1 n_2 K_1 (decide (r_5 ≤ 122)))) ∧ (¬ (97 ≤ r_4) → internal_strconv_ParseUint_j11 Q s_1 base_1 bitSize_1 cutoff_1 underscores_1 n_1 n_2 K_1 false)))
def internal_strconv_ParseUint_j9 (Q : Int → Int → Prop) (s_1 : Str) (base_1 : Int) (bitSize_1 : Int) (cutoff_1 : Int) (underscores_1 : Bool) (n_1 : Int) (n_2 : Int) (K_1 : Bool → Int → Int → Prop) (b_5 : Bool) : Prop :=
 (b_5 = true → (I64 (n_2 + 1)) ∧ (K_1 true n_1 (n_2 + 1))) ∧ (b_5 = false → (48 ≤ ((gi s_1 n_2).toNat : Int) → internal_strconv_ParseUint_j10 Q s_1 base_1 bitSize_1 cutoff_1 underscores_1 n_1 n_2 K_1 (decide (((gi s_1 n_2).toNat : Int) ≤ 57))) ∧ (¬ (48 ≤ ((gi s_1 n_2).toNat : Int)) → internal_strconv_ParseUint_j10 Q s_1 base_1 bitSize_1 cutoff_1 underscores_1 n_1 n_2 K_1 false))
def internal_strconv_ParseUint_j13 (Q : Int → Int → Prop) (n_1 : Int) (b_9 : Bool) : Prop :=
 (b_9 = true → Q 0 2) ∧ (b_9 = false → Q n_1 0)
def internal_strconv_ParseUint_l1 (s1 : Str) (base : Int) (Q : Int → Int → Prop) (s_1 : Str) (base_1 : Int) (bitSize_1 : Int) (cutoff_1 : Int) (K_1 : Bool → Int → Int → Prop) (underscores_1 : Bool) (n_1 : Int) (n_2 : Int) : Prop :=
 (n_2 < (s_1.length : Int) → ((0 : Int) ≤ n_2 ∧ n_2 < (s_1.length : Int)) ∧ ((((gi s_1 n_2).toNat : Int) = 95 → internal_strconv_ParseUint_j9 Q s_1 base_1 bitSize_1 cutoff_1 underscores_1 n_1 n_2 K_1 (decide (base = 0))) ∧ (¬ (((gi s_1 n_2).toNat : Int) = 95) → internal_strconv_ParseUint_j9 Q s_1 base_1 bitSize_1 cutoff_1 underscores_1 n_1 n_2 K_1 false))) ∧ (¬ (n_2 < (s_1.length : Int)) → (underscores_1 = true → internal_strconv_underscoreOK_W s1 (fun r_7 => internal_strconv_ParseUint_j13 Q n_1 (!r_7))) ∧ (underscores_1 = false → internal_strconv_ParseUint_j13 Q n_1 false))
def internal_strconv_ParseUint_j7 (s1 : Str) (base : Int) (Q : Int → Int → Prop) (s_1 : Str) (base_1 : Int) (bitSize_1 : Int) (cutoff_1 : Int) : Prop :=
 ((0 : Int) ≤ IntKind.u64.wrap bitSize_1) ∧ (((s_1.length : Int) ≤ 1000000) ∧ (loopW (fun (K_1 : (Bool × Int × Int) → Prop) (s : Bool × Int × Int) => internal_strconv_ParseUint_l1 s1 base Q s_1 base_1 bitSize_1 cutoff_1 (fun underscores_1 n_1 n_2 => K_1 (underscores_1, n_1, n_2)) s.1 s.2.1 s.2.2) (false, 0, 0)))
def internal_strconv_ParseUint_j6 (s1 : Str) (base : Int) (Q : Int → Int → Prop) (s_1 : Str) (base_1 : Int) (bitSize_1 : Int) : Prop :=
 (base_1 = 10 → internal_strconv_ParseUint_j7 s1 base Q s_1 base_1 bitSize_1 1844674407370955162) ∧ (¬ (base_1 = 10) → (base_1 = 16 → internal_strconv_ParseUint_j7 s1 base Q s_1 base_1 bitSize_1 1152921504606846976) ∧ (¬ (base_1 = 16) → (IntKind.u64.wrap base_1 ≠ 0) ∧ (internal_strconv_ParseUint_j7 s1 base Q s_1 base_1 bitSize_1 (IntKind.u64.wrap ((IntKind.u64.wrap ((18446744073709551615 : Int).tdiv (IntKind.u64.wrap base_1))) + 1)))))
def internal_strconv_ParseUint_j1 (s1 : Str) (base : Int) (bitSize : Int) (Q : Int → Int → Prop) (s_1 : Str) (base_1 : Int) : Prop :=
 (bitSize = 0 → internal_strconv_ParseUint_j6 s1 base Q s_1 base_1 64) ∧ (¬ (bitSize = 0) → (bitSize < 0 → Q 0 4) ∧ (¬ (bitSize < 0) → (64 < bitSize → Q 0 4) ∧ (¬ (64 < bitSize) → internal_strconv_ParseUint_j6 s1 base Q s_1 base_1 bitSize)))
def internal_strconv_ParseUint_j5 (s1 : Str) (base : Int) (bitSize : Int) (Q : Int → Int → Prop) (b_4 : Bool) : Prop :=
 (b_4 = true → ((0 : Int) ≤ 2 ∧ 2 ≤ (s1.length : Int)) ∧ (internal_strconv_ParseUint_j1 s1 base bitSize Q (cut s1 2 (s1.length : Int)) 16)) ∧ (b_4 = false → ((0 : Int) ≤ 1 ∧ 1 ≤ (s1.length : Int)) ∧ (internal_strconv_ParseUint_j1 s1 base bitSize Q (cut s1 1 (s1.length : Int)) 8))
def internal_strconv_ParseUint_j4 (s1 : Str) (base : Int) (bitSize : Int) (Q : Int → Int → Prop) (b_3 : Bool) : Prop :=
 (b_3 = true → ((0 : Int) ≤ 2 ∧ 2 ≤ (s1.length : Int)) ∧ (internal_strconv_ParseUint_j1 s1 base bitSize Q (cut s1 2 (s1.length : Int)) 8)) ∧ (b_3 = false → (3 ≤ (s1.length : Int) → ((0 : Int) ≤ 1 ∧ 1 < (s1.length : Int)) ∧ (internal_strconv_lower_W ((gi s1 1).toNat : Int) (fun r_3 => internal_strconv_ParseUint_j5 s1 base bitSize Q (decide (r_3 = 120))))) ∧ (¬ (3 ≤ (s1.length : Int)) → internal_strconv_ParseUint_j5 s1 base bitSize Q false))
def internal_strconv_ParseUint_j3 (s1 : Str) (base : Int) (bitSize : Int) (Q : Int → Int → Prop) (b_2 : Bool) : Prop :=
 (b_2 = true → ((0 : Int) ≤ 2 ∧ 2 ≤ (s1.length : Int)) ∧ (internal_strconv_ParseUint_j1 s1 base bitSize Q (cut s1 2 (s1.length : Int)) 2)) ∧ (b_2 = false → (3 ≤ (s1.length : Int) → ((0 : Int) ≤ 1 ∧ 1 < (s1.length : Int)) ∧ (internal_strconv_lower_W ((gi s1 1).toNat : Int) (fun r_2 => internal_strconv_ParseUint_j4 s1 base bitSize Q (decide (r_2 = 111))))) ∧ (¬ (3 ≤ (s1.length : Int)) → internal_strconv_ParseUint_j4 s1 base bitSize Q false))
def internal_strconv_ParseUint_j2 (s1 : Str) (base : Int) (bitSize : Int) (Q : Int → Int → Prop) (b_1 : Bool) : Prop :=
 (b_1 = true → internal_strconv_ParseUint_j1 s1 base bitSize Q s1 base) ∧ (b_1 = false → (base = 0 → ((0 : Int) ≤ 0 ∧ 0 < (s1.length : Int)) ∧ ((((gi s1 0).toNat : Int) = 48 → (3 ≤ (s1.length : Int) → ((0 : Int) ≤ 1 ∧ 1 < (s1.length : Int)) ∧ (internal_strconv_lower_W ((gi s1 1).toNat : Int) (fun r_1 => internal_strconv_ParseUint_j3 s1 base bitSize Q (decide (r_1 = 98))))) ∧ (¬ (3 ≤ (s1.length : Int)) → internal_strconv_ParseUint_j3 s1 base bitSize Q false)) ∧ (¬ (((gi s1 0).toNat : Int) = 48) → internal_strconv_ParseUint_j1 s1 base bitSize Q s1 10))) ∧ (¬ (base = 0) → Q 0 3))
def internal_strconv_ParseUint_W (s1 : Str) (base : Int) (bitSize : Int) (Q : Int → Int → Prop) : Prop :=
 ((s1 : Str) = [] → Q 0 2) ∧ (¬ ((s1 : Str) = []) → (2 ≤ base → internal_strconv_ParseUint_j2 s1 base bitSize Q (decide (base ≤ 36))) ∧ (¬ (2 ≤ base) → internal_strconv_ParseUint_j2 s1 base bitSize Q false))
set_option maxHeartbeats 40000000 in
set_option maxRecDepth 100000 in
theorem internal_strconv_ParseUint_walk {F : Fz} {fr : List Ow} {h0 : Heap} (s1 : Str) (base : Int) (bitSize : Int) (hS : St F (fr) h0)  {Q : Int → Int → Prop} (hM : internal_strconv_ParseUint_W s1 base bitSize Q) :
  HC Tryz.prog 104 #[.string (bs s1), .int .i64 base, .int .i64 bitSize] h0 fun u h' => ∃ (F' : Fz) (r0_1 : Int) (r1_1 : Int), u = .tuple #[.int .u64 r0_1, ifV 95 r1_1] ∧ Kp F h0 F' h' ∧ St F' (fr) h' ∧ Q r0_1 r1_1 := by
 unfold internal_strconv_ParseUint_W at hM
 have hK := Kp.refl F h0
 refine HC.of_HW (n := 172) Tryz.func104 rfl rfl (Nat.le_of_ble_eq_true rfl) ?_
 refine HW.seq ?_
 refine HW.region ?_
 refine oA (.int .u64 0) rfl rfl ?_
 refine oA (.nilIface) rfl rfl ?_
 refine HO.nil (thenQ_normal (?_))
 refine HW.seq ?_
 refine HW.seq ?_
 refine HW.region ?_
 refine oM (.string (bs s1)) rfl rfl ?_
 refine oV (.bool (decide ((s1 : Str) = []))) (q_eqlT rfl rfl) rfl ?_
 refine HO.nil (thenQ_normal (?_))
 refine HW.cond (decide ((s1 : Str) = [])) rfl (fun c_1 => ?_) (fun c_1 => ?_)
 ·
  replace hM := hM.1 (of_decide_eq_true c_1)
  refine HW.seq ?_
  refine HW.region ?_
  refine oV (.iface 95 (.int .i64 2)) (q_mkIface Tryz.underlying95 rfl) rfl ?_
  refine oA (.int .u64 0) rfl rfl ?_
  refine oA (.iface 95 (.int .i64 2)) rfl rfl ?_
  refine HO.nil (thenQ_normal (?_))
  refine HW.ret (thenQ_ret (?_))
  refine ⟨.inr rfl, .tuple #[.int .u64 0, .iface 95 (.int .i64 2)], res2 rfl (rt rfl) (rt rfl), ?_⟩
  exact ⟨F, 0, 2, rfl, hK, hS, hM⟩
 ·
  replace hM := hM.2 (of_decide_eq_false c_1)
  refine HW.skip (thenQ_normal (?_))
  refine HW.seq ?_
  refine HW.region ?_
  refine oM (.int .i64 base) rfl rfl ?_
  refine oV (.bool (decide (base = 0))) (q_eql rfl rfl) rfl ?_
  refine oA (.bool (decide (base = 0))) rfl rfl ?_
  refine HO.nil (thenQ_normal (?_))
  refine HW.seq ?_
  refine HW.region ?_
  refine oM (.string (bs s1)) rfl rfl ?_
  refine oA (.string (bs s1)) rfl rfl ?_
  refine HO.nil (thenQ_normal (?_))
  refine HW.seq_mid (fun f h => ∃ (F' : Fz) (s_1 : Str) (base_1 : Int), f 0 = .string (bs s_1) ∧ f 1 = .int .i64 base_1 ∧ f 2 = .int .i64 bitSize ∧ f 6 = .int .u64 0 ∧ f 7 = .nilIface ∧ f 8 = .bool (decide (base = 0)) ∧ f 9 = .string (bs s1) ∧ Kp F h0 F' h ∧ St F' (fr) h ∧ internal_strconv_ParseUint_j1 s1 base bitSize Q s_1 base_1) ?_ ?_
  ·
   refine HW.block ?_
   refine HW.seq_mid (fun f h => ∃ (F' : Fz) (b_1 : Bool), f 0 = .string (bs s1) ∧ f 1 = .int .i64 base ∧ f 2 = .int .i64 bitSize ∧ f 6 = .int .u64 0 ∧ f 7 = .nilIface ∧ f 8 = .bool (decide (base = 0)) ∧ f 9 = .string (bs s1) ∧ f 25 = .bool b_1 ∧ Kp F h0 F' h ∧ St F' (fr) h ∧ internal_strconv_ParseUint_j2 s1 base bitSize Q b_1) ?_ ?_
   ·
    refine HW.region ?_
    refine oM (.int .i64 base) rfl rfl ?_
    refine oV (.bool (decide (2 ≤ base))) (q_leq rfl rfl) rfl ?_
    refine oM (.bool (decide (2 ≤ base))) rfl rfl ?_
    rcases Bool.eq_false_or_eq_true (decide (2 ≤ base)) with c_2 | c_2
    ·
     replace hM := hM.1 (of_decide_eq_true c_2)
     refine HO.val (v := .int .i64 base) (want_by rfl rfl c_2) rfl (q_move rfl) ?_
     refine HO.val (v := .bool (decide (base ≤ 36))) (want_by rfl rfl c_2) rfl (q_leq rfl rfl) ?_
     refine oV (.bool (decide (base ≤ 36))) (q_pickK true rfl c_2 rfl) rfl ?_
     refine oA (.bool (decide (base ≤ 36))) rfl rfl ?_
     refine HO.nil (thenQ_normal (?_))
     exact ⟨F, decide (base ≤ 36), rfl, rfl, rfl, rfl, rfl, rfl, rfl, rfl, hK, hS, hM⟩
    ·
     replace hM := hM.2 (of_decide_eq_false c_2)
     refine HO.past (past_by rfl rfl c_2) rfl ?_
     refine HO.past (past_by rfl rfl c_2) rfl ?_
     refine oV (.bool false) (q_pickK false rfl c_2 rfl) rfl ?_
     refine oA (.bool false) rfl rfl ?_
     refine HO.nil (thenQ_normal (?_))
     exact ⟨F, false, rfl, rfl, rfl, rfl, rfl, rfl, rfl, rfl, hK, hS, hM⟩
   ·
    rintro f_1 h_1 ⟨F_1, b_1, e0, e1, e2, e6, e7, e8, e9, e25, hK, hS, hM⟩
    unfold internal_strconv_ParseUint_j2 at hM
    refine HW.fr [(0, .string (bs s1)), (1, .int .i64 base), (2, .int .i64 bitSize), (6, .int .u64 0), (7, .nilIface), (8, .bool (decide (base = 0))), (9, .string (bs s1)), (25, .bool b_1)] ⟨e0, e1, e2, e6, e7, e8, e9, e25, trivial⟩ ?_
    refine HW.cond b_1 rfl (fun c_3 => ?_) (fun c_3 => ?_)
    ·
     replace hM := hM.1 c_3
     refine HW.skip (blockQ_normal (thenQ_normal (?_)))
     exact ⟨F_1, s1, base, rfl, rfl, rfl, rfl, rfl, rfl, rfl, hK, hS, hM⟩
    ·
     replace hM := hM.2 c_3
     refine HW.seq ?_
     refine HW.region ?_
     refine oM (.int .i64 base) rfl rfl ?_
     refine oV (.bool (decide (base = 0))) (q_eql rfl rfl) rfl ?_
     refine oA (.bool (decide (base = 0))) rfl rfl ?_
     refine HO.nil (thenQ_normal (?_))
     refine HW.cond (decide (base = 0)) rfl (fun c_4 => ?_) (fun c_4 => ?_)
     ·
      replace hM := hM.1 (of_decide_eq_true c_4)
      refine HW.seq ?_
      refine HW.region ?_
      refine oA (.int .i64 10) rfl rfl ?_
      refine HO.nil (thenQ_normal (?_))
      refine HW.seq ?_
      refine HW.region ?_
      refine oM (.string (bs s1)) rfl rfl ?_
      obtain ⟨ho_1, hM⟩ := hM
      refine oV (.int .u8 ((gi s1 0).toNat : Int)) (q_idxT Tryz.underlying9 rfl rfl ho_1) rfl ?_
      refine oV (.bool (decide (((gi s1 0).toNat : Int) = 48))) (q_eql rfl rfl) rfl ?_
      refine HO.nil (thenQ_normal (?_))
      refine HW.cond (decide (((gi s1 0).toNat : Int) = 48)) rfl (fun c_5 => ?_) (fun c_5 => ?_)
      ·
       replace hM := hM.1 (of_decide_eq_true c_5)
       refine HW.block ?_
       refine HW.seq_mid (fun f h => ∃ (F' : Fz) (b_2 : Bool), f 0 = .string (bs s1) ∧ f 1 = .int .i64 10 ∧ f 2 = .int .i64 bitSize ∧ f 6 = .int .u64 0 ∧ f 7 = .nilIface ∧ f 8 = .bool (decide (base = 0)) ∧ f 9 = .string (bs s1) ∧ f 40 = .bool b_2 ∧ Kp F h0 F' h ∧ St F' (fr) h ∧ internal_strconv_ParseUint_j3 s1 base bitSize Q b_2) ?_ ?_
       ·
        refine HW.region ?_
        refine oM (.string (bs s1)) rfl rfl ?_
        refine oV (.int .i64 (s1.length : Int)) (q_lenT Tryz.underlying9 rfl rfl) rfl ?_
        refine oV (.bool (decide (3 ≤ (s1.length : Int)))) (q_geq rfl rfl) rfl ?_
        refine oM (.bool (decide (3 ≤ (s1.length : Int)))) rfl rfl ?_
        rcases Bool.eq_false_or_eq_true (decide (3 ≤ (s1.length : Int))) with c_6 | c_6
        ·
         replace hM := hM.1 (of_decide_eq_true c_6)
         refine HO.val (v := .string (bs s1)) (want_by rfl rfl c_6) rfl (q_move rfl) ?_
         obtain ⟨ho_2, hM⟩ := hM
         refine HO.val (v := .int .u8 ((gi s1 1).toNat : Int)) (want_by rfl rfl c_6) rfl (q_idxT Tryz.underlying9 rfl rfl ho_2) ?_
         refine HO.call (want_by rfl rfl c_6) rfl (ec en_133 rfl rfl) (internal_strconv_lower_walk (fr := (fr)) ((gi s1 1).toNat : Int) hS hM) ?_
         rintro _ h_2 ⟨F_2, r_1, rfl, hk, hS, hM⟩
         replace hK := hK.trans hk
         refine HO.val (v := .bool (decide (r_1 = 98))) (want_by rfl rfl c_6) rfl (q_eql rfl rfl) ?_
         refine oV (.bool (decide (r_1 = 98))) (q_pickK true rfl c_6 rfl) rfl ?_
         refine oA (.bool (decide (r_1 = 98))) rfl rfl ?_
         refine HO.nil (thenQ_normal (?_))
         exact ⟨F_2, decide (r_1 = 98), rfl, rfl, rfl, rfl, rfl, rfl, rfl, rfl, hK, hS, hM⟩
        ·
         replace hM := hM.2 (of_decide_eq_false c_6)
         refine HO.past (past_by rfl rfl c_6) rfl ?_
         refine HO.past (past_by rfl rfl c_6) rfl ?_
         refine HO.past (past_by rfl rfl c_6) rfl ?_
         refine HO.past (past_by rfl rfl c_6) rfl ?_
         refine oV (.bool false) (q_pickK false rfl c_6 rfl) rfl ?_
         refine oA (.bool false) rfl rfl ?_
         refine HO.nil (thenQ_normal (?_))
         exact ⟨F_1, false, rfl, rfl, rfl, rfl, rfl, rfl, rfl, rfl, hK, hS, hM⟩
       ·
        rintro f_2 h_3 ⟨F_3, b_2, e0, e1, e2, e6, e7, e8, e9, e40, hK, hS, hM⟩
        unfold internal_strconv_ParseUint_j3 at hM
        refine HW.fr [(0, .string (bs s1)), (1, .int .i64 10), (2, .int .i64 bitSize), (6, .int .u64 0), (7, .nilIface), (8, .bool (decide (base = 0))), (9, .string (bs s1)), (40, .bool b_2)] ⟨e0, e1, e2, e6, e7, e8, e9, e40, trivial⟩ ?_
        refine HW.cond b_2 rfl (fun c_7 => ?_) (fun c_7 => ?_)
        ·
         replace hM := hM.1 c_7
         refine HW.seq ?_
         refine HW.region ?_
         refine oA (.int .i64 2) rfl rfl ?_
         refine HO.nil (thenQ_normal (?_))
         refine HW.region ?_
         refine oM (.string (bs s1)) rfl rfl ?_
         obtain ⟨ho_3, hM⟩ := hM
         refine oV (.string (bs (cut s1 2 (s1.length : Int)))) (q_strL Tryz.underlying9 rfl rfl ho_3) rfl ?_
         refine oA (.string (bs (cut s1 2 (s1.length : Int)))) rfl rfl ?_
         refine HO.nil (blockQ_normal (blockQ_normal (thenQ_normal (?_))))
         exact ⟨F_3, cut s1 2 (s1.length : Int), 2, rfl, rfl, rfl, rfl, rfl, rfl, rfl, hK, hS, hM⟩
        ·
         replace hM := hM.2 c_7
         refine HW.seq_mid (fun f h => ∃ (F' : Fz) (b_3 : Bool), f 0 = .string (bs s1) ∧ f 1 = .int .i64 10 ∧ f 2 = .int .i64 bitSize ∧ f 6 = .int .u64 0 ∧ f 7 = .nilIface ∧ f 8 = .bool (decide (base = 0)) ∧ f 9 = .string (bs s1) ∧ f 52 = .bool b_3 ∧ Kp F h0 F' h ∧ St F' (fr) h ∧ internal_strconv_ParseUint_j4 s1 base bitSize Q b_3) ?_ ?_
         ·
          refine HW.region ?_
          refine oM (.string (bs s1)) rfl rfl ?_
          refine oV (.int .i64 (s1.length : Int)) (q_lenT Tryz.underlying9 rfl rfl) rfl ?_
          refine oV (.bool (decide (3 ≤ (s1.length : Int)))) (q_geq rfl rfl) rfl ?_
          refine oM (.bool (decide (3 ≤ (s1.length : Int)))) rfl rfl ?_
          rcases Bool.eq_false_or_eq_true (decide (3 ≤ (s1.length : Int))) with c_8 | c_8
          ·
           replace hM := hM.1 (of_decide_eq_true c_8)
           refine HO.val (v := .string (bs s1)) (want_by rfl rfl c_8) rfl (q_move rfl) ?_
           obtain ⟨ho_4, hM⟩ := hM
           refine HO.val (v := .int .u8 ((gi s1 1).toNat : Int)) (want_by rfl rfl c_8) rfl (q_idxT Tryz.underlying9 rfl rfl ho_4) ?_
           refine HO.call (want_by rfl rfl c_8) rfl (ec en_133 rfl rfl) (internal_strconv_lower_walk (fr := (fr)) ((gi s1 1).toNat : Int) hS hM) ?_
           rintro _ h_4 ⟨F_4, r_2, rfl, hk, hS, hM⟩
           replace hK := hK.trans hk
           refine HO.val (v := .bool (decide (r_2 = 111))) (want_by rfl rfl c_8) rfl (q_eql rfl rfl) ?_
           refine oV (.bool (decide (r_2 = 111))) (q_pickK true rfl c_8 rfl) rfl ?_
           refine oA (.bool (decide (r_2 = 111))) rfl rfl ?_
           refine HO.nil (thenQ_normal (?_))
           exact ⟨F_4, decide (r_2 = 111), rfl, rfl, rfl, rfl, rfl, rfl, rfl, rfl, hK, hS, hM⟩
          ·
           replace hM := hM.2 (of_decide_eq_false c_8)
           refine HO.past (past_by rfl rfl c_8) rfl ?_
           refine HO.past (past_by rfl rfl c_8) rfl ?_
           refine HO.past (past_by rfl rfl c_8) rfl ?_
           refine HO.past (past_by rfl rfl c_8) rfl ?_
           refine oV (.bool false) (q_pickK false rfl c_8 rfl) rfl ?_
           refine oA (.bool false) rfl rfl ?_
           refine HO.nil (thenQ_normal (?_))
           exact ⟨F_3, false, rfl, rfl, rfl, rfl, rfl, rfl, rfl, rfl, hK, hS, hM⟩
         ·
          rintro f_3 h_5 ⟨F_5, b_3, e0, e1, e2, e6, e7, e8, e9, e52, hK, hS, hM⟩
          unfold internal_strconv_ParseUint_j4 at hM
          refine HW.fr [(0, .string (bs s1)), (1, .int .i64 10), (2, .int .i64 bitSize), (6, .int .u64 0), (7, .nilIface), (8, .bool (decide (base = 0))), (9, .string (bs s1)), (52, .bool b_3)] ⟨e0, e1, e2, e6, e7, e8, e9, e52, trivial⟩ ?_
          refine HW.cond b_3 rfl (fun c_9 => ?_) (fun c_9 => ?_)
          ·
           replace hM := hM.1 c_9
           refine HW.seq ?_
           refine HW.region ?_
           refine oA (.int .i64 8) rfl rfl ?_
           refine HO.nil (thenQ_normal (?_))
           refine HW.region ?_
           refine oM (.string (bs s1)) rfl rfl ?_
           obtain ⟨ho_5, hM⟩ := hM
           refine oV (.string (bs (cut s1 2 (s1.length : Int)))) (q_strL Tryz.underlying9 rfl rfl ho_5) rfl ?_
           refine oA (.string (bs (cut s1 2 (s1.length : Int)))) rfl rfl ?_
           refine HO.nil (blockQ_normal (blockQ_normal (thenQ_normal (?_))))
           exact ⟨F_5, cut s1 2 (s1.length : Int), 8, rfl, rfl, rfl, rfl, rfl, rfl, rfl, hK, hS, hM⟩
          ·
           replace hM := hM.2 c_9
           refine HW.seq_mid (fun f h => ∃ (F' : Fz) (b_4 : Bool), f 0 = .string (bs s1) ∧ f 1 = .int .i64 10 ∧ f 2 = .int .i64 bitSize ∧ f 6 = .int .u64 0 ∧ f 7 = .nilIface ∧ f 8 = .bool (decide (base = 0)) ∧ f 9 = .string (bs s1) ∧ f 64 = .bool b_4 ∧ Kp F h0 F' h ∧ St F' (fr) h ∧ internal_strconv_ParseUint_j5 s1 base bitSize Q b_4) ?_ ?_
           ·
            refine HW.region ?_
            refine oM (.string (bs s1)) rfl rfl ?_
            refine oV (.int .i64 (s1.length : Int)) (q_lenT Tryz.underlying9 rfl rfl) rfl ?_
            refine oV (.bool (decide (3 ≤ (s1.length : Int)))) (q_geq rfl rfl) rfl ?_
            refine oM (.bool (decide (3 ≤ (s1.length : Int)))) rfl rfl ?_
            rcases Bool.eq_false_or_eq_true (decide (3 ≤ (s1.length : Int))) with c_10 | c_10
            ·
             replace hM := hM.1 (of_decide_eq_true c_10)
             refine HO.val (v := .string (bs s1)) (want_by rfl rfl c_10) rfl (q_move rfl) ?_
             obtain ⟨ho_6, hM⟩ := hM
             refine HO.val (v := .int .u8 ((gi s1 1).toNat : Int)) (want_by rfl rfl c_10) rfl (q_idxT Tryz.underlying9 rfl rfl ho_6) ?_
             refine HO.call (want_by rfl rfl c_10) rfl (ec en_133 rfl rfl) (internal_strconv_lower_walk (fr := (fr)) ((gi s1 1).toNat : Int) hS hM) ?_
             rintro _ h_6 ⟨F_6, r_3, rfl, hk, hS, hM⟩
             replace hK := hK.trans hk
             refine HO.val (v := .bool (decide (r_3 = 120))) (want_by rfl rfl c_10) rfl (q_eql rfl rfl) ?_
             refine oV (.bool (decide (r_3 = 120))) (q_pickK true rfl c_10 rfl) rfl ?_
             refine oA (.bool (decide (r_3 = 120))) rfl rfl ?_
             refine HO.nil (thenQ_normal (?_))
             exact ⟨F_6, decide (r_3 = 120), rfl, rfl, rfl, rfl, rfl, rfl, rfl, rfl, hK, hS, hM⟩
            ·
             replace hM := hM.2 (of_decide_eq_false c_10)
             refine HO.past (past_by rfl rfl c_10) rfl ?_
             refine HO.past (past_by rfl rfl c_10) rfl ?_
             refine HO.past (past_by rfl rfl c_10) rfl ?_
             refine HO.past (past_by rfl rfl c_10) rfl ?_
             refine oV (.bool false) (q_pickK false rfl c_10 rfl) rfl ?_
             refine oA (.bool false) rfl rfl ?_
             refine HO.nil (thenQ_normal (?_))
             exact ⟨F_5, false, rfl, rfl, rfl, rfl, rfl, rfl, rfl, rfl, hK, hS, hM⟩
           ·
            rintro f_4 h_7 ⟨F_7, b_4, e0, e1, e2, e6, e7, e8, e9, e64, hK, hS, hM⟩
            unfold internal_strconv_ParseUint_j5 at hM
            refine HW.fr [(0, .string (bs s1)), (1, .int .i64 10), (2, .int .i64 bitSize), (6, .int .u64 0), (7, .nilIface), (8, .bool (decide (base = 0))), (9, .string (bs s1)), (64, .bool b_4)] ⟨e0, e1, e2, e6, e7, e8, e9, e64, trivial⟩ ?_
            refine HW.cond b_4 rfl (fun c_11 => ?_) (fun c_11 => ?_)
            ·
             replace hM := hM.1 c_11
             refine HW.seq ?_
             refine HW.region ?_
             refine oA (.int .i64 16) rfl rfl ?_
             refine HO.nil (thenQ_normal (?_))
             refine HW.region ?_
             refine oM (.string (bs s1)) rfl rfl ?_
             obtain ⟨ho_7, hM⟩ := hM
             refine oV (.string (bs (cut s1 2 (s1.length : Int)))) (q_strL Tryz.underlying9 rfl rfl ho_7) rfl ?_
             refine oA (.string (bs (cut s1 2 (s1.length : Int)))) rfl rfl ?_
             refine HO.nil (blockQ_normal (blockQ_normal (thenQ_normal (?_))))
             exact ⟨F_7, cut s1 2 (s1.length : Int), 16, rfl, rfl, rfl, rfl, rfl, rfl, rfl, hK, hS, hM⟩
            ·
             replace hM := hM.2 c_11
             refine HW.seq ?_
             refine HW.region ?_
             refine oA (.int .i64 8) rfl rfl ?_
             refine HO.nil (thenQ_normal (?_))
             refine HW.region ?_
             refine oM (.string (bs s1)) rfl rfl ?_
             obtain ⟨ho_8, hM⟩ := hM
             refine oV (.string (bs (cut s1 1 (s1.length : Int)))) (q_strL Tryz.underlying9 rfl rfl ho_8) rfl ?_
             refine oA (.string (bs (cut s1 1 (s1.length : Int)))) rfl rfl ?_
             refine HO.nil (blockQ_normal (blockQ_normal (thenQ_normal (?_))))
             exact ⟨F_7, cut s1 1 (s1.length : Int), 8, rfl, rfl, rfl, rfl, rfl, rfl, rfl, hK, hS, hM⟩
      ·
       replace hM := hM.2 (of_decide_eq_false c_5)
       refine HW.skip (blockQ_normal (thenQ_normal (?_)))
       exact ⟨F_1, s1, 10, rfl, rfl, rfl, rfl, rfl, rfl, rfl, hK, hS, hM⟩
     ·
      replace hM := hM.2 (of_decide_eq_false c_4)
      refine HW.seq ?_
      refine HW.region ?_
      refine oV (.iface 95 (.int .i64 3)) (q_mkIface Tryz.underlying95 rfl) rfl ?_
      refine oA (.int .u64 0) rfl rfl ?_
      refine oA (.iface 95 (.int .i64 3)) rfl rfl ?_
      refine HO.nil (thenQ_normal (?_))
      refine HW.ret (blockQ_ret (thenQ_ret (?_)))
      refine ⟨.inr rfl, .tuple #[.int .u64 0, .iface 95 (.int .i64 3)], res2 rfl (rt rfl) (rt rfl), ?_⟩
      exact ⟨F_1, 0, 3, rfl, hK, hS, hM⟩
  ·
   rintro f_5 h_8 ⟨F_8, s_1, base_1, e0, e1, e2, e6, e7, e8, e9, hK, hS, hM⟩
   unfold internal_strconv_ParseUint_j1 at hM
   refine HW.fr [(0, .string (bs s_1)), (1, .int .i64 base_1), (2, .int .i64 bitSize), (6, .int .u64 0), (7, .nilIface), (8, .bool (decide (base = 0))), (9, .string (bs s1))] ⟨e0, e1, e2, e6, e7, e8, e9, trivial⟩ ?_
   refine HW.seq_mid (fun f h => ∃ (F' : Fz) (bitSize_1 : Int), f 0 = .string (bs s_1) ∧ f 1 = .int .i64 base_1 ∧ f 2 = .int .i64 bitSize_1 ∧ f 6 = .int .u64 0 ∧ f 7 = .nilIface ∧ f 8 = .bool (decide (base = 0)) ∧ f 9 = .string (bs s1) ∧ Kp F h0 F' h ∧ St F' (fr) h ∧ internal_strconv_ParseUint_j6 s1 base Q s_1 base_1 bitSize_1) ?_ ?_
   ·
    refine HW.seq ?_
    refine HW.region ?_
    refine oM (.int .i64 bitSize) rfl rfl ?_
    refine oV (.bool (decide (bitSize = 0))) (q_eql rfl rfl) rfl ?_
    refine HO.nil (thenQ_normal (?_))
    refine HW.cond (decide (bitSize = 0)) rfl (fun c_12 => ?_) (fun c_12 => ?_)
    ·
     replace hM := hM.1 (of_decide_eq_true c_12)
     refine HW.region ?_
     refine oA (.int .i64 64) rfl rfl ?_
     refine HO.nil (thenQ_normal (?_))
     exact ⟨F_8, 64, rfl, rfl, rfl, rfl, rfl, rfl, rfl, hK, hS, hM⟩
    ·
     replace hM := hM.2 (of_decide_eq_false c_12)
     refine HW.seq ?_
     refine HW.region ?_
     refine oM (.int .i64 bitSize) rfl rfl ?_
     refine oV (.bool (decide (bitSize < 0))) (q_lss rfl rfl) rfl ?_
     refine oM (.bool (decide (bitSize < 0))) rfl rfl ?_
     rcases Bool.eq_false_or_eq_true (decide (bitSize < 0)) with c_13 | c_13
     ·
      replace hM := hM.1 (of_decide_eq_true c_13)
      refine HO.past (past_by rfl rfl c_13) rfl ?_
      refine HO.past (past_by rfl rfl c_13) rfl ?_
      refine oV (.bool true) (q_pickK true rfl c_13 rfl) rfl ?_
      refine HO.nil (thenQ_normal (?_))
      refine HW.condT rfl ?_
      refine HW.seq ?_
      refine HW.region ?_
      refine oV (.iface 95 (.int .i64 4)) (q_mkIface Tryz.underlying95 rfl) rfl ?_
      refine oA (.int .u64 0) rfl rfl ?_
      refine oA (.iface 95 (.int .i64 4)) rfl rfl ?_
      refine HO.nil (thenQ_normal (?_))
      refine HW.ret (thenQ_ret (?_))
      refine ⟨.inr rfl, .tuple #[.int .u64 0, .iface 95 (.int .i64 4)], res2 rfl (rt rfl) (rt rfl), ?_⟩
      exact ⟨F_8, 0, 4, rfl, hK, hS, hM⟩
     ·
      replace hM := hM.2 (of_decide_eq_false c_13)
      refine HO.val (v := .int .i64 bitSize) (want_by rfl rfl c_13) rfl (q_move rfl) ?_
      refine HO.val (v := .bool (decide (64 < bitSize))) (want_by rfl rfl c_13) rfl (q_gtr rfl rfl) ?_
      refine oV (.bool (decide (64 < bitSize))) (q_pickK false rfl c_13 rfl) rfl ?_
      refine HO.nil (thenQ_normal (?_))
      refine HW.cond (decide (64 < bitSize)) rfl (fun c_14 => ?_) (fun c_14 => ?_)
      ·
       replace hM := hM.1 (of_decide_eq_true c_14)
       refine HW.seq ?_
       refine HW.region ?_
       refine oV (.iface 95 (.int .i64 4)) (q_mkIface Tryz.underlying95 rfl) rfl ?_
       refine oA (.int .u64 0) rfl rfl ?_
       refine oA (.iface 95 (.int .i64 4)) rfl rfl ?_
       refine HO.nil (thenQ_normal (?_))
       refine HW.ret (thenQ_ret (?_))
       refine ⟨.inr rfl, .tuple #[.int .u64 0, .iface 95 (.int .i64 4)], res2 rfl (rt rfl) (rt rfl), ?_⟩
       exact ⟨F_8, 0, 4, rfl, hK, hS, hM⟩
      ·
       replace hM := hM.2 (of_decide_eq_false c_14)
       refine HW.skip (thenQ_normal (?_))
       exact ⟨F_8, bitSize, rfl, rfl, rfl, rfl, rfl, rfl, rfl, hK, hS, hM⟩
   ·
    rintro f_6 h_9 ⟨F_9, bitSize_1, e0, e1, e2, e6, e7, e8, e9, hK, hS, hM⟩
    unfold internal_strconv_ParseUint_j6 at hM
    refine HW.fr [(0, .string (bs s_1)), (1, .int .i64 base_1), (2, .int .i64 bitSize_1), (6, .int .u64 0), (7, .nilIface), (8, .bool (decide (base = 0))), (9, .string (bs s1))] ⟨e0, e1, e2, e6, e7, e8, e9, trivial⟩ ?_
    refine HW.seq ?_
    refine HW.region ?_
    refine oA (.int .u64 0) rfl rfl ?_
    refine HO.nil (thenQ_normal (?_))
    refine HW.seq_mid (fun f h => ∃ (F' : Fz) (cutoff_1 : Int), f 0 = .string (bs s_1) ∧ f 1 = .int .i64 base_1 ∧ f 2 = .int .i64 bitSize_1 ∧ f 6 = .int .u64 0 ∧ f 7 = .nilIface ∧ f 8 = .bool (decide (base = 0)) ∧ f 9 = .string (bs s1) ∧ f 10 = .int .u64 cutoff_1 ∧ Kp F h0 F' h ∧ St F' (fr) h ∧ internal_strconv_ParseUint_j7 s1 base Q s_1 base_1 bitSize_1 cutoff_1) ?_ ?_
    ·
     refine HW.seq ?_
     refine HW.region ?_
     refine oM (.int .i64 base_1) rfl rfl ?_
     refine HO.nil (thenQ_normal (?_))
     refine HW.block ?_
     refine HW.seq ?_
     refine HW.region ?_
     refine oV (.bool (decide (base_1 = 10))) (q_eql rfl rfl) rfl ?_
     refine oA (.bool (decide (base_1 = 10))) rfl rfl ?_
     refine HO.nil (thenQ_normal (?_))
     refine HW.cond (decide (base_1 = 10)) rfl (fun c_15 => ?_) (fun c_15 => ?_)
     ·
      replace hM := hM.1 (of_decide_eq_true c_15)
      refine HW.region ?_
      refine oA (.int .u64 1844674407370955162) rfl rfl ?_
      refine HO.nil (blockQ_normal (thenQ_normal (?_)))
      exact ⟨F_9, 1844674407370955162, rfl, rfl, rfl, rfl, rfl, rfl, rfl, rfl, hK, hS, hM⟩
     ·
      replace hM := hM.2 (of_decide_eq_false c_15)
      refine HW.seq ?_
      refine HW.region ?_
      refine oV (.bool (decide (base_1 = 16))) (q_eql rfl rfl) rfl ?_
      refine oA (.bool (decide (base_1 = 16))) rfl rfl ?_
      refine HO.nil (thenQ_normal (?_))
      refine HW.cond (decide (base_1 = 16)) rfl (fun c_16 => ?_) (fun c_16 => ?_)
      ·
       replace hM := hM.1 (of_decide_eq_true c_16)
       refine HW.region ?_
       refine oA (.int .u64 1152921504606846976) rfl rfl ?_
       refine HO.nil (blockQ_normal (thenQ_normal (?_)))
       exact ⟨F_9, 1152921504606846976, rfl, rfl, rfl, rfl, rfl, rfl, rfl, rfl, hK, hS, hM⟩
      ·
       replace hM := hM.2 (of_decide_eq_false c_16)
       refine HW.region ?_
       refine oM (.int .i64 base_1) rfl rfl ?_
       refine oV (.int .u64 (IntKind.u64.wrap base_1)) (q_convInt (n := base_1) Tryz.underlying3 Tryz.underlying112 rfl rfl) rfl ?_
       obtain ⟨ho_9, hM⟩ := hM
       refine oV (.int .u64 (IntKind.u64.wrap ((18446744073709551615 : Int).tdiv (IntKind.u64.wrap base_1)))) (q_quo rfl rfl ho_9) rfl ?_
       refine oV (.int .u64 (IntKind.u64.wrap ((IntKind.u64.wrap ((18446744073709551615 : Int).tdiv (IntKind.u64.wrap base_1))) + 1))) (q_add rfl rfl) rfl ?_
       refine oA (.int .u64 (IntKind.u64.wrap ((IntKind.u64.wrap ((18446744073709551615 : Int).tdiv (IntKind.u64.wrap base_1))) + 1))) rfl rfl ?_
       refine HO.nil (blockQ_normal (thenQ_normal (?_)))
       exact ⟨F_9, IntKind.u64.wrap ((IntKind.u64.wrap ((18446744073709551615 : Int).tdiv (IntKind.u64.wrap base_1))) + 1), rfl, rfl, rfl, rfl, rfl, rfl, rfl, rfl, hK, hS, hM⟩
    ·
     rintro f_7 h_10 ⟨F_10, cutoff_1, e0, e1, e2, e6, e7, e8, e9, e10, hK, hS, hM⟩
     unfold internal_strconv_ParseUint_j7 at hM
     refine HW.fr [(0, .string (bs s_1)), (1, .int .i64 base_1), (2, .int .i64 bitSize_1), (6, .int .u64 0), (7, .nilIface), (8, .bool (decide (base = 0))), (9, .string (bs s1)), (10, .int .u64 cutoff_1)] ⟨e0, e1, e2, e6, e7, e8, e9, e10, trivial⟩ ?_
     refine HW.seq ?_
     refine HW.region ?_
     refine oM (.int .i64 bitSize_1) rfl rfl ?_
     refine oV (.int .u64 (IntKind.u64.wrap bitSize_1)) (q_convInt (n := bitSize_1) Tryz.underlying3 Tryz.underlying105 rfl rfl) rfl ?_
     obtain ⟨ho_10, hM⟩ := hM
     refine oV (.int .u64 (IntKind.u64.wrap ((1 : Int) * 2 ^ (min (IntKind.u64.wrap bitSize_1).toNat IntKind.u64.bits)))) (q_shl rfl rfl ho_10 rfl) rfl ?_
     refine oV (.int .u64 (IntKind.u64.wrap ((IntKind.u64.wrap ((1 : Int) * 2 ^ (min (IntKind.u64.wrap bitSize_1).toNat IntKind.u64.bits))) - 1))) (q_sub rfl rfl) rfl ?_
     refine oA (.int .u64 (IntKind.u64.wrap ((IntKind.u64.wrap ((1 : Int) * 2 ^ (min (IntKind.u64.wrap bitSize_1).toNat IntKind.u64.bits))) - 1))) rfl rfl ?_
     refine HO.nil (thenQ_normal (?_))
     refine HW.seq ?_
     refine HW.region ?_
     refine oA (.bool false) rfl rfl ?_
     refine HO.nil (thenQ_normal (?_))
     refine HW.seq ?_
     refine HW.region ?_
     refine oA (.int .u64 0) rfl rfl ?_
     refine HO.nil (thenQ_normal (?_))
     refine HW.seq ?_
     refine HW.seq ?_
     refine HW.region ?_
     refine oM (.string (bs s_1)) rfl rfl ?_
     obtain ⟨ho_11, hM⟩ := hM
     refine HO.eff (want_none) rfl (st_strBytes hS Tryz.underlying9 Tryz.underlying79 Tryz.underlying5 rfl ho_11) ?_
     rintro v_1 h_11 ⟨F_11, hS, hk, hL_1⟩
     replace hK := hK.trans hk
     refine oV (.int .i64 (s_1.length : Int)) (q_len ts_79 (shp hL_1.is) rfl rfl) rfl ?_
     refine oM (.int .i64 0) rfl rfl ?_
     refine HO.nil (thenQ_normal (?_))
     refine HW.block ?_
     obtain ⟨I_1, m_1, hI_1, hR_1⟩ := hM
     refine HW.loop (S := Bool × Int × Int) (fun s f h => match s with | (underscores_1, n_1, n_2) => ∃ (F' : Fz), f 1 = .int .i64 base_1 ∧ f 6 = .int .u64 0 ∧ f 7 = .nilIface ∧ f 8 = .bool (decide (base = 0)) ∧ f 9 = .string (bs s1) ∧ f 10 = .int .u64 cutoff_1 ∧ f 11 = .int .u64 (IntKind.u64.wrap ((IntKind.u64.wrap ((1 : Int) * 2 ^ (min (IntKind.u64.wrap bitSize_1).toNat IntKind.u64.bits))) - 1)) ∧ f 12 = .bool underscores_1 ∧ f 13 = .int .u64 n_1 ∧ f 99 = v_1 ∧ f 100 = .int .i64 (s_1.length : Int) ∧ f 101 = .int .i64 n_2 ∧ Kp F h0 F' h ∧ St F' (fr) h ∧ (SliceF F' h 1 enc8 v_1 s_1) ∧ I_1 (underscores_1, n_1, n_2)) m_1 (false, 0, 0) ⟨F_11, rfl, rfl, rfl, rfl, rfl, rfl, rfl, rfl, rfl, rfl, rfl, rfl, hK, hS, hL_1, hI_1⟩ ?_
     rintro ⟨underscores_1, n_1, n_2⟩ f_8 h_12 ⟨F_12, e1, e6, e7, e8, e9, e10, e11, e12, e13, e99, e100, e101, hK, hS, hL_1, hI0⟩
     obtain ⟨K_1, hKe_1⟩ : ∃ K : Bool → Int → Int → Prop, K = fun underscores_1' n_1' n_2' => I_1 (underscores_1', n_1', n_2') ∧ m_1 (underscores_1', n_1', n_2') < m_1 (underscores_1, n_1, n_2) := ⟨_, rfl⟩
     have hM : internal_strconv_ParseUint_l1 s1 base Q s_1 base_1 bitSize_1 cutoff_1 K_1 underscores_1 n_1 n_2 := by rw [hKe_1]; exact hR_1 (underscores_1, n_1, n_2) hI0
     unfold internal_strconv_ParseUint_l1 at hM
     refine HW.fr [(1, .int .i64 base_1), (6, .int .u64 0), (7, .nilIface), (8, .bool (decide (base = 0))), (9, .string (bs s1)), (10, .int .u64 cutoff_1), (11, .int .u64 (IntKind.u64.wrap ((IntKind.u64.wrap ((1 : Int) * 2 ^ (min (IntKind.u64.wrap bitSize_1).toNat IntKind.u64.bits))) - 1))), (12, .bool underscores_1), (13, .int .u64 n_1), (99, v_1), (100, .int .i64 (s_1.length : Int)), (101, .int .i64 n_2)] ⟨e1, e6, e7, e8, e9, e10, e11, e12, e13, e99, e100, e101, trivial⟩ ?_
     refine HW.seq ?_
     refine HW.region ?_
     refine oV (.bool (decide (n_2 < (s_1.length : Int)))) (q_lss rfl rfl) rfl ?_
     refine HO.nil (thenQ_normal (?_))
     refine HW.seq ?_
     refine HW.cond (decide (n_2 < (s_1.length : Int))) rfl (fun c_17 => ?_) (fun c_17 => ?_)
     ·
      replace hM := hM.1 (of_decide_eq_true c_17)
      refine HW.skip (thenQ_normal (?_))
      refine HW.seq ?_
      refine HW.block ?_
      refine HW.seq ?_
      refine HW.region ?_
      obtain ⟨ho_12, hM⟩ := hM
      refine oV (elemPtr 1 v_1 (n_2).toNat) (q_idx ts_79 hL_1.is rfl rfl ho_12) rfl ?_
      refine oV (.int .u8 ((gi s_1 n_2).toNat : Int)) (q_ldElem to_5 hL_1.is rfl ho_12 rfl) rfl ?_
      refine oA (.int .u8 ((gi s_1 n_2).toNat : Int)) rfl rfl ?_
      refine HO.nil (thenQ_normal (?_))
      refine HW.seq ?_
      refine HW.region ?_
      refine oA (.int .u8 0) rfl rfl ?_
      refine HO.nil (thenQ_normal (?_))
      refine HW.seq_mid (fun f h => ∃ (F' : Fz) (d_1 : Int), f 1 = .int .i64 base_1 ∧ f 6 = .int .u64 0 ∧ f 7 = .nilIface ∧ f 8 = .bool (decide (base = 0)) ∧ f 9 = .string (bs s1) ∧ f 10 = .int .u64 cutoff_1 ∧ f 11 = .int .u64 (IntKind.u64.wrap ((IntKind.u64.wrap ((1 : Int) * 2 ^ (min (IntKind.u64.wrap bitSize_1).toNat IntKind.u64.bits))) - 1)) ∧ f 12 = .bool underscores_1 ∧ f 13 = .int .u64 n_1 ∧ f 16 = .int .u8 d_1 ∧ f 99 = v_1 ∧ f 100 = .int .i64 (s_1.length : Int) ∧ f 101 = .int .i64 n_2 ∧ Kp F h0 F' h ∧ St F' (fr) h ∧ (SliceF F' h 1 enc8 v_1 s_1) ∧ internal_strconv_ParseUint_j8 Q base_1 bitSize_1 cutoff_1 underscores_1 n_1 n_2 K_1 d_1) ?_ ?_
      ·
       refine HW.block ?_
       refine HW.seq_mid (fun f h => ∃ (F' : Fz) (b_5 : Bool), f 1 = .int .i64 base_1 ∧ f 6 = .int .u64 0 ∧ f 7 = .nilIface ∧ f 8 = .bool (decide (base = 0)) ∧ f 9 = .string (bs s1) ∧ f 10 = .int .u64 cutoff_1 ∧ f 11 = .int .u64 (IntKind.u64.wrap ((IntKind.u64.wrap ((1 : Int) * 2 ^ (min (IntKind.u64.wrap bitSize_1).toNat IntKind.u64.bits))) - 1)) ∧ f 12 = .bool underscores_1 ∧ f 13 = .int .u64 n_1 ∧ f 15 = .int .u8 ((gi s_1 n_2).toNat : Int) ∧ f 16 = .int .u8 0 ∧ f 99 = v_1 ∧ f 100 = .int .i64 (s_1.length : Int) ∧ f 101 = .int .i64 n_2 ∧ f 106 = .bool b_5 ∧ Kp F h0 F' h ∧ St F' (fr) h ∧ (SliceF F' h 1 enc8 v_1 s_1) ∧ internal_strconv_ParseUint_j9 Q s_1 base_1 bitSize_1 cutoff_1 underscores_1 n_1 n_2 K_1 b_5) ?_ ?_
       ·
        refine HW.region ?_
        refine oM (.int .u8 ((gi s_1 n_2).toNat : Int)) rfl rfl ?_
        refine oV (.bool (decide (((gi s_1 n_2).toNat : Int) = 95))) (q_eql rfl rfl) rfl ?_
        refine oM (.bool (decide (((gi s_1 n_2).toNat : Int) = 95))) rfl rfl ?_
        rcases Bool.eq_false_or_eq_true (decide (((gi s_1 n_2).toNat : Int) = 95)) with c_18 | c_18
        ·
         replace hM := hM.1 (of_decide_eq_true c_18)
         refine HO.val (v := .bool (decide (base = 0))) (want_by rfl rfl c_18) rfl (q_move rfl) ?_
         refine oV (.bool (decide (base = 0))) (q_pickK true rfl c_18 rfl) rfl ?_
         refine oA (.bool (decide (base = 0))) rfl rfl ?_
         refine HO.nil (thenQ_normal (?_))
         exact ⟨F_12, decide (base = 0), rfl, rfl, rfl, rfl, rfl, rfl, rfl, rfl, rfl, rfl, rfl, rfl, rfl, rfl, rfl, hK, hS, hL_1, hM⟩
        ·
         replace hM := hM.2 (of_decide_eq_false c_18)
         refine HO.past (past_by rfl rfl c_18) rfl ?_
         refine oV (.bool false) (q_pickK false rfl c_18 rfl) rfl ?_
         refine oA (.bool false) rfl rfl ?_
         refine HO.nil (thenQ_normal (?_))
         exact ⟨F_12, false, rfl, rfl, rfl, rfl, rfl, rfl, rfl, rfl, rfl, rfl, rfl, rfl, rfl, rfl, rfl, hK, hS, hL_1, hM⟩
       ·
        rintro f_9 h_13 ⟨F_13, b_5, e1, e6, e7, e8, e9, e10, e11, e12, e13, e15, e16, e99, e100, e101, e106, hK, hS, hL_1, hM⟩
        unfold internal_strconv_ParseUint_j9 at hM
        refine HW.fr [(1, .int .i64 base_1), (6, .int .u64 0), (7, .nilIface), (8, .bool (decide (base = 0))), (9, .string (bs s1)), (10, .int .u64 cutoff_1), (11, .int .u64 (IntKind.u64.wrap ((IntKind.u64.wrap ((1 : Int) * 2 ^ (min (IntKind.u64.wrap bitSize_1).toNat IntKind.u64.bits))) - 1))), (12, .bool underscores_1), (13, .int .u64 n_1), (15, .int .u8 ((gi s_1 n_2).toNat : Int)), (16, .int .u8 0), (99, v_1), (100, .int .i64 (s_1.length : Int)), (101, .int .i64 n_2), (106, .bool b_5)] ⟨e1, e6, e7, e8, e9, e10, e11, e12, e13, e15, e16, e99, e100, e101, e106, trivial⟩ ?_
        refine HW.cond b_5 rfl (fun c_19 => ?_) (fun c_19 => ?_)
        ·
         replace hM := hM.1 c_19
         refine HW.seq ?_
         refine HW.region ?_
         refine oA (.bool true) rfl rfl ?_
         refine HO.nil (thenQ_normal (?_))
         refine HW.exit (blockQ_pass rfl (thenQ_exit (blockQ_exit (thenQ_normal (?_)))))
         refine HW.region ?_
         obtain ⟨ho_13, hM⟩ := hM
         refine oV (.int .i64 (n_2 + 1)) (q_addN _ rfl rfl rfl ho_13.1 ho_13.2) rfl ?_
         refine oM (.int .i64 (n_2 + 1)) rfl rfl ?_
         refine HO.nil (thenQ_normal (?_))
         rw [hKe_1] at hM
         exact ⟨(true, n_1, n_2 + 1), ⟨F_13, rfl, rfl, rfl, rfl, rfl, rfl, rfl, rfl, rfl, rfl, rfl, rfl, hK, hS, hL_1, hM.1⟩, hM.2⟩
        ·
         replace hM := hM.2 c_19
         refine HW.seq_mid (fun f h => ∃ (F' : Fz) (b_6 : Bool), f 1 = .int .i64 base_1 ∧ f 6 = .int .u64 0 ∧ f 7 = .nilIface ∧ f 8 = .bool (decide (base = 0)) ∧ f 9 = .string (bs s1) ∧ f 10 = .int .u64 cutoff_1 ∧ f 11 = .int .u64 (IntKind.u64.wrap ((IntKind.u64.wrap ((1 : Int) * 2 ^ (min (IntKind.u64.wrap bitSize_1).toNat IntKind.u64.bits))) - 1)) ∧ f 12 = .bool underscores_1 ∧ f 13 = .int .u64 n_1 ∧ f 15 = .int .u8 ((gi s_1 n_2).toNat : Int) ∧ f 16 = .int .u8 0 ∧ f 99 = v_1 ∧ f 100 = .int .i64 (s_1.length : Int) ∧ f 101 = .int .i64 n_2 ∧ f 112 = .bool b_6 ∧ Kp F h0 F' h ∧ St F' (fr) h ∧ (SliceF F' h 1 enc8 v_1 s_1) ∧ internal_strconv_ParseUint_j10 Q s_1 base_1 bitSize_1 cutoff_1 underscores_1 n_1 n_2 K_1 b_6) ?_ ?_
         ·
          refine HW.region ?_
          refine oM (.int .u8 ((gi s_1 n_2).toNat : Int)) rfl rfl ?_
          refine oV (.bool (decide (48 ≤ ((gi s_1 n_2).toNat : Int)))) (q_leq rfl rfl) rfl ?_
          refine oM (.bool (decide (48 ≤ ((gi s_1 n_2).toNat : Int)))) rfl rfl ?_
          rcases Bool.eq_false_or_eq_true (decide (48 ≤ ((gi s_1 n_2).toNat : Int))) with c_20 | c_20
          ·
           replace hM := hM.1 (of_decide_eq_true c_20)
           refine HO.val (v := .int .u8 ((gi s_1 n_2).toNat : Int)) (want_by rfl rfl c_20) rfl (q_move rfl) ?_
           refine HO.val (v := .bool (decide (((gi s_1 n_2).toNat : Int) ≤ 57))) (want_by rfl rfl c_20) rfl (q_leq rfl rfl) ?_
           refine oV (.bool (decide (((gi s_1 n_2).toNat : Int) ≤ 57))) (q_pickK true rfl c_20 rfl) rfl ?_
           refine oA (.bool (decide (((gi s_1 n_2).toNat : Int) ≤ 57))) rfl rfl ?_
           refine HO.nil (thenQ_normal (?_))
           exact ⟨F_13, decide (((gi s_1 n_2).toNat : Int) ≤ 57), rfl, rfl, rfl, rfl, rfl, rfl, rfl, rfl, rfl, rfl, rfl, rfl, rfl, rfl, rfl, hK, hS, hL_1, hM⟩
          ·
           replace hM := hM.2 (of_decide_eq_false c_20)
           refine HO.past (past_by rfl rfl c_20) rfl ?_
           refine HO.past (past_by rfl rfl c_20) rfl ?_
           refine oV (.bool false) (q_pickK false rfl c_20 rfl) rfl ?_
           refine oA (.bool false) rfl rfl ?_
           refine HO.nil (thenQ_normal (?_))
           exact ⟨F_13, false, rfl, rfl, rfl, rfl, rfl, rfl, rfl, rfl, rfl, rfl, rfl, rfl, rfl, rfl, rfl, hK, hS, hL_1, hM⟩
         ·
          rintro f_10 h_14 ⟨F_14, b_6, e1, e6, e7, e8, e9, e10, e11, e12, e13, e15, e16, e99, e100, e101, e112, hK, hS, hL_1, hM⟩
          unfold internal_strconv_ParseUint_j10 at hM
          refine HW.fr [(1, .int .i64 base_1), (6, .int .u64 0), (7, .nilIface), (8, .bool (decide (base = 0))), (9, .string (bs s1)), (10, .int .u64 cutoff_1), (11, .int .u64 (IntKind.u64.wrap ((IntKind.u64.wrap ((1 : Int) * 2 ^ (min (IntKind.u64.wrap bitSize_1).toNat IntKind.u64.bits))) - 1))), (12, .bool underscores_1), (13, .int .u64 n_1), (15, .int .u8 ((gi s_1 n_2).toNat : Int)), (16, .int .u8 0), (99, v_1), (100, .int .i64 (s_1.length : Int)), (101, .int .i64 n_2), (112, .bool b_6)] ⟨e1, e6, e7, e8, e9, e10, e11, e12, e13, e15, e16, e99, e100, e101, e112, trivial⟩ ?_
          refine HW.cond b_6 rfl (fun c_21 => ?_) (fun c_21 => ?_)
          ·
           replace hM := hM.1 c_21
           refine HW.region ?_
           refine oM (.int .u8 ((gi s_1 n_2).toNat : Int)) rfl rfl ?_
           refine oV (.int .u8 ((u8w (((gi s_1 n_2).toNat : Int) - 48)).toNat : Int)) ((q_sub rfl rfl).of_eq (u8w_v _)) rfl ?_
           refine oA (.int .u8 ((u8w (((gi s_1 n_2).toNat : Int) - 48)).toNat : Int)) rfl rfl ?_
           refine HO.nil (blockQ_normal (thenQ_normal (?_)))
           exact ⟨F_14, ((u8w (((gi s_1 n_2).toNat : Int) - 48)).toNat : Int), rfl, rfl, rfl, rfl, rfl, rfl, rfl, rfl, rfl, rfl, rfl, rfl, rfl, hK, hS, hL_1, hM⟩
          ·
           replace hM := hM.2 c_21
           refine HW.seq_mid (fun f h => ∃ (F' : Fz) (b_7 : Bool), f 1 = .int .i64 base_1 ∧ f 6 = .int .u64 0 ∧ f 7 = .nilIface ∧ f 8 = .bool (decide (base = 0)) ∧ f 9 = .string (bs s1) ∧ f 10 = .int .u64 cutoff_1 ∧ f 11 = .int .u64 (IntKind.u64.wrap ((IntKind.u64.wrap ((1 : Int) * 2 ^ (min (IntKind.u64.wrap bitSize_1).toNat IntKind.u64.bits))) - 1)) ∧ f 12 = .bool underscores_1 ∧ f 13 = .int .u64 n_1 ∧ f 15 = .int .u8 ((gi s_1 n_2).toNat : Int) ∧ f 16 = .int .u8 0 ∧ f 99 = v_1 ∧ f 100 = .int .i64 (s_1.length : Int) ∧ f 101 = .int .i64 n_2 ∧ f 121 = .bool b_7 ∧ Kp F h0 F' h ∧ St F' (fr) h ∧ (SliceF F' h 1 enc8 v_1 s_1) ∧ internal_strconv_ParseUint_j11 Q s_1 base_1 bitSize_1 cutoff_1 underscores_1 n_1 n_2 K_1 b_7) ?_ ?_
           ·
            refine HW.region ?_
            refine oM (.int .u8 ((gi s_1 n_2).toNat : Int)) rfl rfl ?_
            refine HO.call (want_none) rfl (ec en_133 rfl rfl) (internal_strconv_lower_walk (fr := (fr)) ((gi s_1 n_2).toNat : Int) hS hM) ?_
            rintro _ h_15 ⟨F_15, r_4, rfl, hk, hS, hM⟩
            replace hK := hK.trans hk
            replace hL_1 := hL_1.kp hk
            refine oV (.bool (decide (97 ≤ r_4))) (q_leq rfl rfl) rfl ?_
            refine oM (.bool (decide (97 ≤ r_4))) rfl rfl ?_
            rcases Bool.eq_false_or_eq_true (decide (97 ≤ r_4)) with c_22 | c_22
            ·
             replace hM := hM.1 (of_decide_eq_true c_22)
             refine HO.val (v := .int .u8 ((gi s_1 n_2).toNat : Int)) (want_by rfl rfl c_22) rfl (q_move rfl) ?_
             refine HO.call (want_by rfl rfl c_22) rfl (ec en_133 rfl rfl) (internal_strconv_lower_walk (fr := (fr)) ((gi s_1 n_2).toNat : Int) hS hM) ?_
             rintro _ h_16 ⟨F_16, r_5, rfl, hk, hS, hM⟩
             replace hK := hK.trans hk
             replace hL_1 := hL_1.kp hk
             refine HO.val (v := .bool (decide (r_5 ≤ 122))) (want_by rfl rfl c_22) rfl (q_leq rfl rfl) ?_
             refine oV (.bool (decide (r_5 ≤ 122))) (q_pickK true rfl c_22 rfl) rfl ?_
             refine oA (.bool (decide (r_5 ≤ 122))) rfl rfl ?_
             refine HO.nil (thenQ_normal (?_))
             exact ⟨F_16, decide (r_5 ≤ 122), rfl, rfl, rfl, rfl, rfl, rfl, rfl, rfl, rfl, rfl, rfl, rfl, rfl, rfl, rfl, hK, hS, hL_1, hM⟩
            ·
             replace hM := hM.2 (of_decide_eq_false c_22)
             refine HO.past (past_by rfl rfl c_22) rfl ?_
             refine HO.past (past_by rfl rfl c_22) rfl ?_
             refine HO.past (past_by rfl rfl c_22) rfl ?_
             refine oV (.bool false) (q_pickK false rfl c_22 rfl) rfl ?_
             refine oA (.bool false) rfl rfl ?_
             refine HO.nil (thenQ_normal (?_))
             exact ⟨F_15, false, rfl, rfl, rfl, rfl, rfl, rfl, rfl, rfl, rfl, rfl, rfl, rfl, rfl, rfl, rfl, hK, hS, hL_1, hM⟩
           ·
            rintro f_11 h_17 ⟨F_17, b_7, e1, e6, e7, e8, e9, e10, e11, e12, e13, e15, e16, e99, e100, e101, e121, hK, hS, hL_1, hM⟩
            unfold internal_strconv_ParseUint_j11 at hM
            refine HW.fr [(1, .int .i64 base_1), (6, .int .u64 0), (7, .nilIface), (8, .bool (decide (base = 0))), (9, .string (bs s1)), (10, .int .u64 cutoff_1), (11, .int .u64 (IntKind.u64.wrap ((IntKind.u64.wrap ((1 : Int) * 2 ^ (min (IntKind.u64.wrap bitSize_1).toNat IntKind.u64.bits))) - 1))), (12, .bool underscores_1), (13, .int .u64 n_1), (15, .int .u8 ((gi s_1 n_2).toNat : Int)), (16, .int .u8 0), (99, v_1), (100, .int .i64 (s_1.length : Int)), (101, .int .i64 n_2), (121, .bool b_7)] ⟨e1, e6, e7, e8, e9, e10, e11, e12, e13, e15, e16, e99, e100, e101, e121, trivial⟩ ?_
            refine HW.cond b_7 rfl (fun c_23 => ?_) (fun c_23 => ?_)
            ·
             replace hM := hM.1 c_23
             refine HW.region ?_
             refine oM (.int .u8 ((gi s_1 n_2).toNat : Int)) rfl rfl ?_
             refine HO.call (want_none) rfl (ec en_133 rfl rfl) (internal_strconv_lower_walk (fr := (fr)) ((gi s_1 n_2).toNat : Int) hS hM) ?_
             rintro _ h_18 ⟨F_18, r_6, rfl, hk, hS, hM⟩
             replace hK := hK.trans hk
             replace hL_1 := hL_1.kp hk
             refine oV (.int .u8 ((u8w (r_6 - 97)).toNat : Int)) ((q_sub rfl rfl).of_eq (u8w_v _)) rfl ?_
             refine oV (.int .u8 ((u8w (((u8w (r_6 - 97)).toNat : Int) + 10)).toNat : Int)) ((q_add rfl rfl).of_eq (u8w_v _)) rfl ?_
             refine oA (.int .u8 ((u8w (((u8w (r_6 - 97)).toNat : Int) + 10)).toNat : Int)) rfl rfl ?_
             refine HO.nil (blockQ_normal (thenQ_normal (?_)))
             exact ⟨F_18, ((u8w (((u8w (r_6 - 97)).toNat : Int) + 10)).toNat : Int), rfl, rfl, rfl, rfl, rfl, rfl, rfl, rfl, rfl, rfl, rfl, rfl, rfl, hK, hS, hL_1, hM⟩
            ·
             replace hM := hM.2 c_23
             refine HW.seq ?_
             refine HW.region ?_
             refine oV (.iface 95 (.int .i64 2)) (q_mkIface Tryz.underlying95 rfl) rfl ?_
             refine oA (.int .u64 0) rfl rfl ?_
             refine oA (.iface 95 (.int .i64 2)) rfl rfl ?_
             refine HO.nil (thenQ_normal (?_))
             refine HW.ret (blockQ_ret (thenQ_ret (blockQ_ret (thenQ_ret (thenQ_ret (blockQ_ret (thenQ_ret (?_))))))))
             refine ⟨.inr rfl, .tuple #[.int .u64 0, .iface 95 (.int .i64 2)], res2 rfl (rt rfl) (rt rfl), ?_⟩
             exact ⟨F_17, 0, 2, rfl, hK, hS, hM⟩
      ·
       rintro f_12 h_19 ⟨F_19, d_1, e1, e6, e7, e8, e9, e10, e11, e12, e13, e16, e99, e100, e101, hK, hS, hL_1, hM⟩
       unfold internal_strconv_ParseUint_j8 at hM
       refine HW.fr [(1, .int .i64 base_1), (6, .int .u64 0), (7, .nilIface), (8, .bool (decide (base = 0))), (9, .string (bs s1)), (10, .int .u64 cutoff_1), (11, .int .u64 (IntKind.u64.wrap ((IntKind.u64.wrap ((1 : Int) * 2 ^ (min (IntKind.u64.wrap bitSize_1).toNat IntKind.u64.bits))) - 1))), (12, .bool underscores_1), (13, .int .u64 n_1), (16, .int .u8 d_1), (99, v_1), (100, .int .i64 (s_1.length : Int)), (101, .int .i64 n_2)] ⟨e1, e6, e7, e8, e9, e10, e11, e12, e13, e16, e99, e100, e101, trivial⟩ ?_
       refine HW.seq ?_
       refine HW.seq ?_
       refine HW.region ?_
       refine oM (.int .u8 d_1) rfl rfl ?_
       refine oM (.int .i64 base_1) rfl rfl ?_
       refine oV (.int .u8 ((u8w base_1).toNat : Int)) ((q_convInt (n := base_1) Tryz.underlying3 Tryz.underlying5 rfl rfl).of_eq (u8w_v _)) rfl ?_
       refine oV (.bool (decide (((u8w base_1).toNat : Int) ≤ d_1))) (q_geq rfl rfl) rfl ?_
       refine HO.nil (thenQ_normal (?_))
       refine HW.cond (decide (((u8w base_1).toNat : Int) ≤ d_1)) rfl (fun c_24 => ?_) (fun c_24 => ?_)
       ·
        replace hM := hM.1 (of_decide_eq_true c_24)
        refine HW.seq ?_
        refine HW.region ?_
        refine oV (.iface 95 (.int .i64 2)) (q_mkIface Tryz.underlying95 rfl) rfl ?_
        refine oA (.int .u64 0) rfl rfl ?_
        refine oA (.iface 95 (.int .i64 2)) rfl rfl ?_
        refine HO.nil (thenQ_normal (?_))
        refine HW.ret (thenQ_ret (blockQ_ret (thenQ_ret (thenQ_ret (blockQ_ret (thenQ_ret (?_)))))))
        refine ⟨.inr rfl, .tuple #[.int .u64 0, .iface 95 (.int .i64 2)], res2 rfl (rt rfl) (rt rfl), ?_⟩
        exact ⟨F_19, 0, 2, rfl, hK, hS, hM⟩
       ·
        replace hM := hM.2 (of_decide_eq_false c_24)
        refine HW.skip (thenQ_normal (?_))
        refine HW.seq ?_
        refine HW.seq ?_
        refine HW.region ?_
        refine oM (.int .u64 n_1) rfl rfl ?_
        refine oM (.int .u64 cutoff_1) rfl rfl ?_
        refine oV (.bool (decide (cutoff_1 ≤ n_1))) (q_geq rfl rfl) rfl ?_
        refine HO.nil (thenQ_normal (?_))
        refine HW.cond (decide (cutoff_1 ≤ n_1)) rfl (fun c_25 => ?_) (fun c_25 => ?_)
        ·
         replace hM := hM.1 (of_decide_eq_true c_25)
         refine HW.seq ?_
         refine HW.region ?_
         refine oM (.int .u64 (IntKind.u64.wrap ((IntKind.u64.wrap ((1 : Int) * 2 ^ (min (IntKind.u64.wrap bitSize_1).toNat IntKind.u64.bits))) - 1))) rfl rfl ?_
         refine oV (.iface 95 (.int .i64 1)) (q_mkIface Tryz.underlying95 rfl) rfl ?_
         refine oA (.int .u64 (IntKind.u64.wrap ((IntKind.u64.wrap ((1 : Int) * 2 ^ (min (IntKind.u64.wrap bitSize_1).toNat IntKind.u64.bits))) - 1))) rfl rfl ?_
         refine oA (.iface 95 (.int .i64 1)) rfl rfl ?_
         refine HO.nil (thenQ_normal (?_))
         refine HW.ret (thenQ_ret (blockQ_ret (thenQ_ret (thenQ_ret (blockQ_ret (thenQ_ret (?_)))))))
         refine ⟨.inr rfl, .tuple #[.int .u64 (IntKind.u64.wrap ((IntKind.u64.wrap ((1 : Int) * 2 ^ (min (IntKind.u64.wrap bitSize_1).toNat IntKind.u64.bits))) - 1)), .iface 95 (.int .i64 1)], res2 rfl (rt rfl) (rt rfl), ?_⟩
         exact ⟨F_19, IntKind.u64.wrap ((IntKind.u64.wrap ((1 : Int) * 2 ^ (min (IntKind.u64.wrap bitSize_1).toNat IntKind.u64.bits))) - 1), 1, rfl, hK, hS, hM⟩
        ·
         replace hM := hM.2 (of_decide_eq_false c_25)
         refine HW.skip (thenQ_normal (?_))
         refine HW.seq ?_
         refine HW.region ?_
         refine oM (.int .u64 n_1) rfl rfl ?_
         refine oM (.int .i64 base_1) rfl rfl ?_
         refine oV (.int .u64 (IntKind.u64.wrap base_1)) (q_convInt (n := base_1) Tryz.underlying3 Tryz.underlying112 rfl rfl) rfl ?_
         refine oV (.int .u64 (IntKind.u64.wrap (n_1 * (IntKind.u64.wrap base_1)))) (q_mul rfl rfl) rfl ?_
         refine oA (.int .u64 (IntKind.u64.wrap (n_1 * (IntKind.u64.wrap base_1)))) rfl rfl ?_
         refine HO.nil (thenQ_normal (?_))
         refine HW.seq ?_
         refine HW.region ?_
         refine oM (.int .u64 (IntKind.u64.wrap (n_1 * (IntKind.u64.wrap base_1)))) rfl rfl ?_
         refine oM (.int .u8 d_1) rfl rfl ?_
         refine oV (.int .u64 (IntKind.u64.wrap d_1)) (q_convInt (n := d_1) Tryz.underlying5 Tryz.underlying112 rfl rfl) rfl ?_
         refine oV (.int .u64 (IntKind.u64.wrap ((IntKind.u64.wrap (n_1 * (IntKind.u64.wrap base_1))) + (IntKind.u64.wrap d_1)))) (q_add rfl rfl) rfl ?_
         refine oA (.int .u64 (IntKind.u64.wrap ((IntKind.u64.wrap (n_1 * (IntKind.u64.wrap base_1))) + (IntKind.u64.wrap d_1)))) rfl rfl ?_
         refine HO.nil (thenQ_normal (?_))
         refine HW.seq ?_
         refine HW.seq_mid (fun f h => ∃ (F' : Fz) (b_8 : Bool), f 1 = .int .i64 base_1 ∧ f 6 = .int .u64 0 ∧ f 7 = .nilIface ∧ f 8 = .bool (decide (base = 0)) ∧ f 9 = .string (bs s1) ∧ f 10 = .int .u64 cutoff_1 ∧ f 11 = .int .u64 (IntKind.u64.wrap ((IntKind.u64.wrap ((1 : Int) * 2 ^ (min (IntKind.u64.wrap bitSize_1).toNat IntKind.u64.bits))) - 1)) ∧ f 12 = .bool underscores_1 ∧ f 13 = .int .u64 (IntKind.u64.wrap (n_1 * (IntKind.u64.wrap base_1))) ∧ f 17 = .int .u64 (IntKind.u64.wrap ((IntKind.u64.wrap (n_1 * (IntKind.u64.wrap base_1))) + (IntKind.u64.wrap d_1))) ∧ f 99 = v_1 ∧ f 100 = .int .i64 (s_1.length : Int) ∧ f 101 = .int .i64 n_2 ∧ f 159 = .bool b_8 ∧ Kp F h0 F' h ∧ St F' (fr) h ∧ (SliceF F' h 1 enc8 v_1 s_1) ∧ internal_strconv_ParseUint_j12 Q base_1 bitSize_1 underscores_1 n_1 n_2 K_1 d_1 b_8) ?_ ?_
         ·
          refine HW.region ?_
          refine oM (.int .u64 (IntKind.u64.wrap ((IntKind.u64.wrap (n_1 * (IntKind.u64.wrap base_1))) + (IntKind.u64.wrap d_1)))) rfl rfl ?_
          refine oM (.int .u64 (IntKind.u64.wrap (n_1 * (IntKind.u64.wrap base_1)))) rfl rfl ?_
          refine oV (.bool (decide ((IntKind.u64.wrap ((IntKind.u64.wrap (n_1 * (IntKind.u64.wrap base_1))) + (IntKind.u64.wrap d_1))) < (IntKind.u64.wrap (n_1 * (IntKind.u64.wrap base_1)))))) (q_lss rfl rfl) rfl ?_
          refine oM (.bool (decide ((IntKind.u64.wrap ((IntKind.u64.wrap (n_1 * (IntKind.u64.wrap base_1))) + (IntKind.u64.wrap d_1))) < (IntKind.u64.wrap (n_1 * (IntKind.u64.wrap base_1)))))) rfl rfl ?_
          rcases Bool.eq_false_or_eq_true (decide ((IntKind.u64.wrap ((IntKind.u64.wrap (n_1 * (IntKind.u64.wrap base_1))) + (IntKind.u64.wrap d_1))) < (IntKind.u64.wrap (n_1 * (IntKind.u64.wrap base_1))))) with c_26 | c_26
          ·
           replace hM := hM.1 (of_decide_eq_true c_26)
           refine HO.past (past_by rfl rfl c_26) rfl ?_
           refine HO.past (past_by rfl rfl c_26) rfl ?_
           refine HO.past (past_by rfl rfl c_26) rfl ?_
           refine oV (.bool true) (q_pickK true rfl c_26 rfl) rfl ?_
           refine HO.nil (thenQ_normal (?_))
           exact ⟨F_19, true, rfl, rfl, rfl, rfl, rfl, rfl, rfl, rfl, rfl, rfl, rfl, rfl, rfl, rfl, hK, hS, hL_1, hM⟩
          ·
           replace hM := hM.2 (of_decide_eq_false c_26)
           refine HO.val (v := .int .u64 (IntKind.u64.wrap ((IntKind.u64.wrap (n_1 * (IntKind.u64.wrap base_1))) + (IntKind.u64.wrap d_1)))) (want_by rfl rfl c_26) rfl (q_move rfl) ?_
           refine HO.val (v := .int .u64 (IntKind.u64.wrap ((IntKind.u64.wrap ((1 : Int) * 2 ^ (min (IntKind.u64.wrap bitSize_1).toNat IntKind.u64.bits))) - 1))) (want_by rfl rfl c_26) rfl (q_move rfl) ?_
           refine HO.val (v := .bool (decide ((IntKind.u64.wrap ((IntKind.u64.wrap ((1 : Int) * 2 ^ (min (IntKind.u64.wrap bitSize_1).toNat IntKind.u64.bits))) - 1)) < (IntKind.u64.wrap ((IntKind.u64.wrap (n_1 * (IntKind.u64.wrap base_1))) + (IntKind.u64.wrap d_1)))))) (want_by rfl rfl c_26) rfl (q_gtr rfl rfl) ?_
           refine oV (.bool (decide ((IntKind.u64.wrap ((IntKind.u64.wrap ((1 : Int) * 2 ^ (min (IntKind.u64.wrap bitSize_1).toNat IntKind.u64.bits))) - 1)) < (IntKind.u64.wrap ((IntKind.u64.wrap (n_1 * (IntKind.u64.wrap base_1))) + (IntKind.u64.wrap d_1)))))) (q_pickK false rfl c_26 rfl) rfl ?_
           refine HO.nil (thenQ_normal (?_))
           exact ⟨F_19, decide ((IntKind.u64.wrap ((IntKind.u64.wrap ((1 : Int) * 2 ^ (min (IntKind.u64.wrap bitSize_1).toNat IntKind.u64.bits))) - 1)) < (IntKind.u64.wrap ((IntKind.u64.wrap (n_1 * (IntKind.u64.wrap base_1))) + (IntKind.u64.wrap d_1)))), rfl, rfl, rfl, rfl, rfl, rfl, rfl, rfl, rfl, rfl, rfl, rfl, rfl, rfl, hK, hS, hL_1, hM⟩
         ·
          rintro f_13 h_20 ⟨F_20, b_8, e1, e6, e7, e8, e9, e10, e11, e12, e13, e17, e99, e100, e101, e159, hK, hS, hL_1, hM⟩
          unfold internal_strconv_ParseUint_j12 at hM
          refine HW.fr [(1, .int .i64 base_1), (6, .int .u64 0), (7, .nilIface), (8, .bool (decide (base = 0))), (9, .string (bs s1)), (10, .int .u64 cutoff_1), (11, .int .u64 (IntKind.u64.wrap ((IntKind.u64.wrap ((1 : Int) * 2 ^ (min (IntKind.u64.wrap bitSize_1).toNat IntKind.u64.bits))) - 1))), (12, .bool underscores_1), (13, .int .u64 (IntKind.u64.wrap (n_1 * (IntKind.u64.wrap base_1)))), (17, .int .u64 (IntKind.u64.wrap ((IntKind.u64.wrap (n_1 * (IntKind.u64.wrap base_1))) + (IntKind.u64.wrap d_1)))), (99, v_1), (100, .int .i64 (s_1.length : Int)), (101, .int .i64 n_2), (159, .bool b_8)] ⟨e1, e6, e7, e8, e9, e10, e11, e12, e13, e17, e99, e100, e101, e159, trivial⟩ ?_
          refine HW.cond b_8 rfl (fun c_27 => ?_) (fun c_27 => ?_)
          ·
           replace hM := hM.1 c_27
           refine HW.seq ?_
           refine HW.region ?_
           refine oM (.int .u64 (IntKind.u64.wrap ((IntKind.u64.wrap ((1 : Int) * 2 ^ (min (IntKind.u64.wrap bitSize_1).toNat IntKind.u64.bits))) - 1))) rfl rfl ?_
           refine oV (.iface 95 (.int .i64 1)) (q_mkIface Tryz.underlying95 rfl) rfl ?_
           refine oA (.int .u64 (IntKind.u64.wrap ((IntKind.u64.wrap ((1 : Int) * 2 ^ (min (IntKind.u64.wrap bitSize_1).toNat IntKind.u64.bits))) - 1))) rfl rfl ?_
           refine oA (.iface 95 (.int .i64 1)) rfl rfl ?_
           refine HO.nil (thenQ_normal (?_))
           refine HW.ret (thenQ_ret (blockQ_ret (thenQ_ret (thenQ_ret (blockQ_ret (thenQ_ret (?_)))))))
           refine ⟨.inr rfl, .tuple #[.int .u64 (IntKind.u64.wrap ((IntKind.u64.wrap ((1 : Int) * 2 ^ (min (IntKind.u64.wrap bitSize_1).toNat IntKind.u64.bits))) - 1)), .iface 95 (.int .i64 1)], res2 rfl (rt rfl) (rt rfl), ?_⟩
           exact ⟨F_20, IntKind.u64.wrap ((IntKind.u64.wrap ((1 : Int) * 2 ^ (min (IntKind.u64.wrap bitSize_1).toNat IntKind.u64.bits))) - 1), 1, rfl, hK, hS, hM⟩
          ·
           replace hM := hM.2 c_27
           refine HW.skip (thenQ_normal (?_))
           refine HW.region ?_
           refine oM (.int .u64 (IntKind.u64.wrap ((IntKind.u64.wrap (n_1 * (IntKind.u64.wrap base_1))) + (IntKind.u64.wrap d_1)))) rfl rfl ?_
           refine oA (.int .u64 (IntKind.u64.wrap ((IntKind.u64.wrap (n_1 * (IntKind.u64.wrap base_1))) + (IntKind.u64.wrap d_1)))) rfl rfl ?_
           refine HO.nil (blockQ_normal (thenQ_normal (?_)))
           refine HW.region ?_
           obtain ⟨ho_14, hM⟩ := hM
           refine oV (.int .i64 (n_2 + 1)) (q_addN _ rfl rfl rfl ho_14.1 ho_14.2) rfl ?_
           refine oM (.int .i64 (n_2 + 1)) rfl rfl ?_
           refine HO.nil (thenQ_normal (?_))
           rw [hKe_1] at hM
           exact ⟨(underscores_1, IntKind.u64.wrap ((IntKind.u64.wrap (n_1 * (IntKind.u64.wrap base_1))) + (IntKind.u64.wrap d_1)), n_2 + 1), ⟨F_20, rfl, rfl, rfl, rfl, rfl, rfl, rfl, rfl, rfl, rfl, rfl, rfl, hK, hS, hL_1, hM.1⟩, hM.2⟩
     ·
      replace hM := hM.2 (of_decide_eq_false c_17)
      refine HW.exit (thenQ_exit (thenQ_exit (blockQ_exit (thenQ_normal (?_)))))
      refine HW.seq ?_
      refine HW.seq_mid (fun f h => ∃ (F' : Fz) (b_9 : Bool), f 6 = .int .u64 0 ∧ f 7 = .nilIface ∧ f 13 = .int .u64 n_1 ∧ f 169 = .bool b_9 ∧ Kp F h0 F' h ∧ St F' (fr) h ∧ (SliceF F' h 1 enc8 v_1 s_1) ∧ internal_strconv_ParseUint_j13 Q n_1 b_9) ?_ ?_
      ·
       refine HW.region ?_
       refine oM (.bool underscores_1) rfl rfl ?_
       refine oM (.bool underscores_1) rfl rfl ?_
       rcases Bool.eq_false_or_eq_true underscores_1 with c_28 | c_28
       ·
        replace hM := hM.1 c_28
        refine HO.val (v := .string (bs s1)) (want_by rfl rfl c_28) rfl (q_move rfl) ?_
        refine HO.call (want_by rfl rfl c_28) rfl (ec en_134 rfl rfl) (internal_strconv_underscoreOK_walk (fr := (fr)) s1 hS hM) ?_
        rintro _ h_21 ⟨F_21, r_7, rfl, hk, hS, hM⟩
        replace hK := hK.trans hk
        replace hL_1 := hL_1.kp hk
        refine HO.val (v := .bool (!r_7)) (want_by rfl rfl c_28) rfl (q_not rfl) ?_
        refine oV (.bool (!r_7)) (q_pickK true rfl c_28 rfl) rfl ?_
        refine HO.nil (thenQ_normal (?_))
        exact ⟨F_21, !r_7, rfl, rfl, rfl, rfl, hK, hS, hL_1, hM⟩
       ·
        replace hM := hM.2 c_28
        refine HO.past (past_by rfl rfl c_28) rfl ?_
        refine HO.past (past_by rfl rfl c_28) rfl ?_
        refine HO.past (past_by rfl rfl c_28) rfl ?_
        refine oV (.bool false) (q_pickK false rfl c_28 rfl) rfl ?_
        refine HO.nil (thenQ_normal (?_))
        exact ⟨F_12, false, rfl, rfl, rfl, rfl, hK, hS, hL_1, hM⟩
      ·
       rintro f_14 h_22 ⟨F_22, b_9, e6, e7, e13, e169, hK, hS, hL_1, hM⟩
       unfold internal_strconv_ParseUint_j13 at hM
       refine HW.fr [(6, .int .u64 0), (7, .nilIface), (13, .int .u64 n_1), (169, .bool b_9)] ⟨e6, e7, e13, e169, trivial⟩ ?_
       refine HW.cond b_9 rfl (fun c_29 => ?_) (fun c_29 => ?_)
       ·
        replace hM := hM.1 c_29
        refine HW.seq ?_
        refine HW.region ?_
        refine oV (.iface 95 (.int .i64 2)) (q_mkIface Tryz.underlying95 rfl) rfl ?_
        refine oA (.int .u64 0) rfl rfl ?_
        refine oA (.iface 95 (.int .i64 2)) rfl rfl ?_
        refine HO.nil (thenQ_normal (?_))
        refine HW.ret (thenQ_ret (?_))
        refine ⟨.inr rfl, .tuple #[.int .u64 0, .iface 95 (.int .i64 2)], res2 rfl (rt rfl) (rt rfl), ?_⟩
        exact ⟨F_22, 0, 2, rfl, hK, hS, hM⟩
       ·
        replace hM := hM.2 c_29
        refine HW.skip (thenQ_normal (?_))
        refine HW.seq ?_
        refine HW.region ?_
        refine oM (.int .u64 n_1) rfl rfl ?_
        refine oA (.int .u64 n_1) rfl rfl ?_
        refine oA (.nilIface) rfl rfl ?_
        refine HO.nil (thenQ_normal (?_))
        refine HW.ret (?_)
        refine ⟨.inr rfl, .tuple #[.int .u64 n_1, .nilIface], res2 rfl (rt rfl) (rt rfl), ?_⟩
        exact ⟨F_22, n_1, 0, rfl, hK, hS, hM⟩

def internal_strconv_ParseInt_j5 (Q : Int → Int → Prop) (neg_1 : Bool) (r0_2 : Int) : Prop :=
 (neg_1 = true → Q (IntKind.i64.wrap (0 - (IntKind.i64.wrap r0_2))) 0) ∧ (neg_1 = false → Q (IntKind.i64.wrap r0_2) 0)
def internal_strconv_ParseInt_j4 (Q : Int → Int → Prop) (neg_1 : Bool) (r0_2 : Int) (bitSize_1 : Int) : Prop :=
 (neg_1 = true → ((IntKind.u64.wrap ((1 : Int) * 2 ^ (min (IntKind.u64.wrap (bitSize_1 - 1)).toNat IntKind.u64.bits))) < r0_2 → Q (IntKind.i64.wrap (0 - (IntKind.i64.wrap (IntKind.u64.wrap ((1 : Int) * 2 ^ (min (IntKind.u64.wrap (bitSize_1 - 1)).toNat IntKind.u64.bits)))))) 1) ∧ (¬ ((IntKind.u64.wrap ((1 : Int) * 2 ^ (min (IntKind.u64.wrap (bitSize_1 - 1)).toNat IntKind.u64.bits))) < r0_2) → internal_strconv_ParseInt_j5 Q neg_1 r0_2)) ∧ (neg_1 = false → internal_strconv_ParseInt_j5 Q neg_1 r0_2)
def internal_strconv_ParseInt_j3 (Q : Int → Int → Prop) (neg_1 : Bool) (r0_2 : Int) (bitSize_1 : Int) : Prop :=
 (I64 (bitSize_1 - 1)) ∧ (((0 : Int) ≤ IntKind.u64.wrap (bitSize_1 - 1)) ∧ (((!neg_1) = true → ((IntKind.u64.wrap ((1 : Int) * 2 ^ (min (IntKind.u64.wrap (bitSize_1 - 1)).toNat IntKind.u64.bits))) ≤ r0_2 → Q (IntKind.i64.wrap (IntKind.u64.wrap ((IntKind.u64.wrap ((1 : Int) * 2 ^ (min (IntKind.u64.wrap (bitSize_1 - 1)).toNat IntKind.u64.bits))) - 1))) 1) ∧ (¬ ((IntKind.u64.wrap ((1 : Int) * 2 ^ (min (IntKind.u64.wrap (bitSize_1 - 1)).toNat IntKind.u64.bits))) ≤ r0_2) → internal_strconv_ParseInt_j4 Q neg_1 r0_2 bitSize_1)) ∧ ((!neg_1) = false → internal_strconv_ParseInt_j4 Q neg_1 r0_2 bitSize_1)))
def internal_strconv_ParseInt_j2 (bitSize : Int) (Q : Int → Int → Prop) (neg_1 : Bool) (r0_2 : Int) : Prop :=
 (bitSize = 0 → internal_strconv_ParseInt_j3 Q neg_1 r0_2 64) ∧ (¬ (bitSize = 0) → internal_strconv_ParseInt_j3 Q neg_1 r0_2 bitSize)
def internal_strconv_ParseInt_j1 (base : Int) (bitSize : Int) (Q : Int → Int → Prop) (s_1 : Str) (neg_1 : Bool) : Prop :=
 internal_strconv_ParseUint_W s_1 base bitSize (fun r0_2 r1_2 => (¬ (r1_2 = 0) → (¬ (r1_2 = 1) → Q 0 r1_2) ∧ (r1_2 = 1 → internal_strconv_ParseInt_j2 bitSize Q neg_1 r0_2)) ∧ (r1_2 = 0 → internal_strconv_ParseInt_j2 bitSize Q neg_1 r0_2))
def internal_strconv_ParseInt_W (s1 : Str) (base : Int) (bitSize : Int) (Q : Int → Int → Prop) : Prop :=
 ((s1 : Str) = [] → Q 0 2) ∧ (¬ ((s1 : Str) = []) → ((0 : Int) ≤ 0 ∧ 0 < (s1.length : Int)) ∧ ((((gi s1 0).toNat : Int) = 43 → ((0 : Int) ≤ 1 ∧ 1 ≤ (s1.length : Int)) ∧ (internal_strconv_ParseInt_j1 base bitSize Q (cut s1 1 (s1.length : Int)) false)) ∧ (¬ (((gi s1 0).toNat : Int) = 43) → (((gi s1 0).toNat : Int) = 45 → ((0 : Int) ≤ 1 ∧ 1 ≤ (s1.length : Int)) ∧ (internal_strconv_ParseInt_j1 base bitSize Q (cut s1 1 (s1.length : Int)) true)) ∧ (¬ (((gi s1 0).toNat : Int) = 45) → internal_strconv_ParseInt_j1 base bitSize Q s1 false))))
set_option maxHeartbeats 40000000 in
set_option maxRecDepth 100000 in
theorem internal_strconv_ParseInt_walk {F : Fz} {fr : List Ow} {h0 : Heap} (s1 : Str) (base : Int) (bitSize : Int) (hS : St F (fr) h0)  {Q : Int → Int → Prop} (hM : internal_strconv_ParseInt_W s1 base bitSize Q) :
  HC Tryz.prog 86 #[.string (bs s1), .int .i64 base, .int .i64 bitSize] h0 fun u h' => ∃ (F' : Fz) (r0_1 : Int) (r1_1 : Int), u = .tuple #[.int .i64 r0_1, ifV 95 r1_1] ∧ Kp F h0 F' h' ∧ St F' (fr) h' ∧ Q r0_1 r1_1 := by
 unfold internal_strconv_ParseInt_W at hM
 have hK := Kp.refl F h0
 refine HC.of_HW (n := 73) Tryz.func86 rfl rfl (Nat.le_of_ble_eq_true rfl) ?_
 refine HW.seq ?_
 refine HW.region ?_
 refine oA (.int .i64 0) rfl rfl ?_
 refine oA (.nilIface) rfl rfl ?_
 refine HO.nil (thenQ_normal (?_))
 refine HW.seq ?_
 refine HW.seq ?_
 refine HW.region ?_
 refine oM (.string (bs s1)) rfl rfl ?_
 refine oV (.bool (decide ((s1 : Str) = []))) (q_eqlT rfl rfl) rfl ?_
 refine HO.nil (thenQ_normal (?_))
 refine HW.cond (decide ((s1 : Str) = [])) rfl (fun c_1 => ?_) (fun c_1 => ?_)
 ·
  replace hM := hM.1 (of_decide_eq_true c_1)
  refine HW.seq ?_
  refine HW.region ?_
  refine oV (.iface 95 (.int .i64 2)) (q_mkIface Tryz.underlying95 rfl) rfl ?_
  refine oA (.int .i64 0) rfl rfl ?_
  refine oA (.iface 95 (.int .i64 2)) rfl rfl ?_
  refine HO.nil (thenQ_normal (?_))
  refine HW.ret (thenQ_ret (?_))
  refine ⟨.inr rfl, .tuple #[.int .i64 0, .iface 95 (.int .i64 2)], res2 rfl (rt rfl) (rt rfl), ?_⟩
  exact ⟨F, 0, 2, rfl, hK, hS, hM⟩
 ·
  replace hM := hM.2 (of_decide_eq_false c_1)
  refine HW.skip (thenQ_normal (?_))
  refine HW.seq ?_
  refine HW.region ?_
  refine oA (.bool false) rfl rfl ?_
  refine HO.nil (thenQ_normal (?_))
  refine HW.seq_mid (fun f h => ∃ (F' : Fz) (s_1 : Str) (neg_1 : Bool), f 0 = .string (bs s_1) ∧ f 1 = .int .i64 base ∧ f 2 = .int .i64 bitSize ∧ f 6 = .int .i64 0 ∧ f 7 = .nilIface ∧ f 8 = .bool neg_1 ∧ Kp F h0 F' h ∧ St F' (fr) h ∧ internal_strconv_ParseInt_j1 base bitSize Q s_1 neg_1) ?_ ?_
  ·
   refine HW.seq ?_
   refine HW.region ?_
   refine oM (.string (bs s1)) rfl rfl ?_
   obtain ⟨ho_1, hM⟩ := hM
   refine oV (.int .u8 ((gi s1 0).toNat : Int)) (q_idxT Tryz.underlying9 rfl rfl ho_1) rfl ?_
   refine HO.nil (thenQ_normal (?_))
   refine HW.block ?_
   refine HW.seq ?_
   refine HW.region ?_
   refine oV (.bool (decide (((gi s1 0).toNat : Int) = 43))) (q_eql rfl rfl) rfl ?_
   refine oA (.bool (decide (((gi s1 0).toNat : Int) = 43))) rfl rfl ?_
   refine HO.nil (thenQ_normal (?_))
   refine HW.cond (decide (((gi s1 0).toNat : Int) = 43)) rfl (fun c_2 => ?_) (fun c_2 => ?_)
   ·
    replace hM := hM.1 (of_decide_eq_true c_2)
    refine HW.region ?_
    refine oM (.string (bs s1)) rfl rfl ?_
    obtain ⟨ho_2, hM⟩ := hM
    refine oV (.string (bs (cut s1 1 (s1.length : Int)))) (q_strL Tryz.underlying9 rfl rfl ho_2) rfl ?_
    refine oA (.string (bs (cut s1 1 (s1.length : Int)))) rfl rfl ?_
    refine HO.nil (blockQ_normal (thenQ_normal (?_)))
    exact ⟨F, cut s1 1 (s1.length : Int), false, rfl, rfl, rfl, rfl, rfl, rfl, hK, hS, hM⟩
   ·
    replace hM := hM.2 (of_decide_eq_false c_2)
    refine HW.seq ?_
    refine HW.region ?_
    refine oV (.bool (decide (((gi s1 0).toNat : Int) = 45))) (q_eql rfl rfl) rfl ?_
    refine oA (.bool (decide (((gi s1 0).toNat : Int) = 45))) rfl rfl ?_
    refine HO.nil (thenQ_normal (?_))
    refine HW.cond (decide (((gi s1 0).toNat : Int) = 45)) rfl (fun c_3 => ?_) (fun c_3 => ?_)
    ·
     replace hM := hM.1 (of_decide_eq_true c_3)
     refine HW.seq ?_
     refine HW.region ?_
     refine oM (.string (bs s1)) rfl rfl ?_
     obtain ⟨ho_3, hM⟩ := hM
     refine oV (.string (bs (cut s1 1 (s1.length : Int)))) (q_strL Tryz.underlying9 rfl rfl ho_3) rfl ?_
     refine oA (.string (bs (cut s1 1 (s1.length : Int)))) rfl rfl ?_
     refine HO.nil (thenQ_normal (?_))
     refine HW.region ?_
     refine oA (.bool true) rfl rfl ?_
     refine HO.nil (blockQ_normal (thenQ_normal (?_)))
     exact ⟨F, cut s1 1 (s1.length : Int), true, rfl, rfl, rfl, rfl, rfl, rfl, hK, hS, hM⟩
    ·
     replace hM := hM.2 (of_decide_eq_false c_3)
     refine HW.skip (blockQ_normal (thenQ_normal (?_)))
     exact ⟨F, s1, false, rfl, rfl, rfl, rfl, rfl, rfl, hK, hS, hM⟩
  ·
   rintro f_1 h_1 ⟨F_1, s_1, neg_1, e0, e1, e2, e6, e7, e8, hK, hS, hM⟩
   unfold internal_strconv_ParseInt_j1 at hM
   refine HW.fr [(0, .string (bs s_1)), (1, .int .i64 base), (2, .int .i64 bitSize), (6, .int .i64 0), (7, .nilIface), (8, .bool neg_1)] ⟨e0, e1, e2, e6, e7, e8, trivial⟩ ?_
   refine HW.seq ?_
   refine HW.region ?_
   refine oA (.int .u64 0) rfl rfl ?_
   refine HO.nil (thenQ_normal (?_))
   refine HW.seq ?_
   refine HW.region ?_
   refine oM (.string (bs s_1)) rfl rfl ?_
   refine oM (.int .i64 base) rfl rfl ?_
   refine oM (.int .i64 bitSize) rfl rfl ?_
   refine HO.call (want_none) rfl (ec en_104 rfl rfl) (internal_strconv_ParseUint_walk (fr := (fr)) s_1 base bitSize hS hM) ?_
   rintro _ h_2 ⟨F_2, r0_2, r1_2, rfl, hk, hS, hM⟩
   replace hK := hK.trans hk
   refine oM (.tuple #[.int .u64 r0_2, ifV 95 r1_2]) rfl rfl ?_
   refine oV (.int .u64 r0_2) (q_extract rfl rfl) rfl ?_
   refine oV (ifV 95 r1_2) (q_extract rfl rfl) rfl ?_
   refine oA (.int .u64 r0_2) rfl rfl ?_
   refine oA (ifV 95 r1_2) rfl rfl ?_
   refine HO.nil (thenQ_normal (?_))
   refine HW.seq_mid (fun f h => ∃ (F' : Fz), f 2 = .int .i64 bitSize ∧ f 6 = .int .i64 0 ∧ f 7 = ifV 95 r1_2 ∧ f 8 = .bool neg_1 ∧ f 9 = .int .u64 r0_2 ∧ Kp F h0 F' h ∧ St F' (fr) h ∧ internal_strconv_ParseInt_j2 bitSize Q neg_1 r0_2) ?_ ?_
   ·
    refine HW.seq ?_
    refine HW.region ?_
    refine oM (ifV 95 r1_2) rfl rfl ?_
    refine oV (.bool (!decide (r1_2 = 0))) ((q_ifNil (op := .neq) (b := !decide (r1_2 = 0)) (by simp) Tryz.underlying53 (ifV_err _ _) rfl)) rfl ?_
    refine oM (.bool (!decide (r1_2 = 0))) rfl rfl ?_
    rcases Bool.eq_false_or_eq_true (!decide (r1_2 = 0)) with c_4 | c_4
    ·
     replace hM := hM.1 (nd_true c_4)
     refine HO.val (v := ifV 95 r1_2) (want_by rfl rfl c_4) rfl (q_move rfl) ?_
     refine HO.val (v := .iface 95 (.int .i64 1)) (want_by rfl rfl c_4) rfl (q_mkIface Tryz.underlying95 rfl) ?_
     refine HO.val (v := .bool (!decide (r1_2 = 1))) (want_by rfl rfl c_4) rfl ((q_ifInt (op := .neq) (c := r1_2) (n := 1) (by simp) Tryz.underlying53 Tryz.underlying95 (by kernel_rfl) (by decide) rfl rfl)) ?_
     refine oV (.bool (!decide (r1_2 = 1))) (q_pickK true rfl c_4 rfl) rfl ?_
     refine HO.nil (thenQ_normal (?_))
     refine HW.cond (!decide (r1_2 = 1)) rfl (fun c_5 => ?_) (fun c_5 => ?_)
     ·
      replace hM := hM.1 (nd_true c_5)
      refine HW.seq ?_
      refine HW.region ?_
      refine oM (ifV 95 r1_2) rfl rfl ?_
      refine oA (.int .i64 0) rfl rfl ?_
      refine oA (ifV 95 r1_2) rfl rfl ?_
      refine HO.nil (thenQ_normal (?_))
      refine HW.ret (thenQ_ret (?_))
      refine ⟨.inr rfl, .tuple #[.int .i64 0, ifV 95 r1_2], res2 rfl (rt rfl) (rt rfl), ?_⟩
      exact ⟨F_2, 0, r1_2, rfl, hK, hS, hM⟩
     ·
      replace hM := hM.2 (nd_false c_5)
      refine HW.skip (thenQ_normal (?_))
      exact ⟨F_2, rfl, rfl, rfl, rfl, rfl, hK, hS, hM⟩
    ·
     replace hM := hM.2 (nd_false c_4)
     refine HO.past (past_by rfl rfl c_4) rfl ?_
     refine HO.past (past_by rfl rfl c_4) rfl ?_
     refine HO.past (past_by rfl rfl c_4) rfl ?_
     refine oV (.bool false) (q_pickK false rfl c_4 rfl) rfl ?_
     refine HO.nil (thenQ_normal (?_))
     refine HW.condF rfl ?_
     refine HW.skip (thenQ_normal (?_))
     exact ⟨F_2, rfl, rfl, rfl, rfl, rfl, hK, hS, hM⟩
   ·
    rintro f_2 h_3 ⟨F_3, e2, e6, e7, e8, e9, hK, hS, hM⟩
    unfold internal_strconv_ParseInt_j2 at hM
    refine HW.fr [(2, .int .i64 bitSize), (6, .int .i64 0), (7, ifV 95 r1_2), (8, .bool neg_1), (9, .int .u64 r0_2)] ⟨e2, e6, e7, e8, e9, trivial⟩ ?_
    refine HW.seq_mid (fun f h => ∃ (F' : Fz) (bitSize_1 : Int), f 2 = .int .i64 bitSize_1 ∧ f 6 = .int .i64 0 ∧ f 7 = ifV 95 r1_2 ∧ f 8 = .bool neg_1 ∧ f 9 = .int .u64 r0_2 ∧ Kp F h0 F' h ∧ St F' (fr) h ∧ internal_strconv_ParseInt_j3 Q neg_1 r0_2 bitSize_1) ?_ ?_
    ·
     refine HW.seq ?_
     refine HW.region ?_
     refine oM (.int .i64 bitSize) rfl rfl ?_
     refine oV (.bool (decide (bitSize = 0))) (q_eql rfl rfl) rfl ?_
     refine HO.nil (thenQ_normal (?_))
     refine HW.cond (decide (bitSize = 0)) rfl (fun c_6 => ?_) (fun c_6 => ?_)
     ·
      replace hM := hM.1 (of_decide_eq_true c_6)
      refine HW.region ?_
      refine oA (.int .i64 64) rfl rfl ?_
      refine HO.nil (thenQ_normal (?_))
      exact ⟨F_3, 64, rfl, rfl, rfl, rfl, rfl, hK, hS, hM⟩
     ·
      replace hM := hM.2 (of_decide_eq_false c_6)
      refine HW.skip (thenQ_normal (?_))
      exact ⟨F_3, bitSize, rfl, rfl, rfl, rfl, rfl, hK, hS, hM⟩
    ·
     rintro f_3 h_4 ⟨F_4, bitSize_1, e2, e6, e7, e8, e9, hK, hS, hM⟩
     unfold internal_strconv_ParseInt_j3 at hM
     refine HW.fr [(2, .int .i64 bitSize_1), (6, .int .i64 0), (7, ifV 95 r1_2), (8, .bool neg_1), (9, .int .u64 r0_2)] ⟨e2, e6, e7, e8, e9, trivial⟩ ?_
     refine HW.seq ?_
     refine HW.region ?_
     refine oM (.int .i64 bitSize_1) rfl rfl ?_
     obtain ⟨ho_4, hM⟩ := hM
     refine oV (.int .i64 (bitSize_1 - 1)) (q_subN _ rfl rfl rfl ho_4.1 ho_4.2) rfl ?_
     refine oV (.int .u64 (IntKind.u64.wrap (bitSize_1 - 1))) (q_convInt (n := bitSize_1 - 1) Tryz.underlying3 Tryz.underlying105 rfl rfl) rfl ?_
     obtain ⟨ho_5, hM⟩ := hM
     refine oV (.int .u64 (IntKind.u64.wrap ((1 : Int) * 2 ^ (min (IntKind.u64.wrap (bitSize_1 - 1)).toNat IntKind.u64.bits)))) (q_shl rfl rfl ho_5 rfl) rfl ?_
     refine oA (.int .u64 (IntKind.u64.wrap ((1 : Int) * 2 ^ (min (IntKind.u64.wrap (bitSize_1 - 1)).toNat IntKind.u64.bits)))) rfl rfl ?_
     refine HO.nil (thenQ_normal (?_))
     refine HW.seq_mid (fun f h => ∃ (F' : Fz), f 6 = .int .i64 0 ∧ f 7 = ifV 95 r1_2 ∧ f 8 = .bool neg_1 ∧ f 9 = .int .u64 r0_2 ∧ f 10 = .int .u64 (IntKind.u64.wrap ((1 : Int) * 2 ^ (min (IntKind.u64.wrap (bitSize_1 - 1)).toNat IntKind.u64.bits))) ∧ Kp F h0 F' h ∧ St F' (fr) h ∧ internal_strconv_ParseInt_j4 Q neg_1 r0_2 bitSize_1) ?_ ?_
     ·
      refine HW.seq ?_
      refine HW.region ?_
      refine oM (.bool neg_1) rfl rfl ?_
      refine oV (.bool (!neg_1)) (q_not rfl) rfl ?_
      refine oM (.bool (!neg_1)) rfl rfl ?_
      rcases Bool.eq_false_or_eq_true (!neg_1) with c_7 | c_7
      ·
       replace hM := hM.1 c_7
       refine HO.val (v := .int .u64 r0_2) (want_by rfl rfl c_7) rfl (q_move rfl) ?_
       refine HO.val (v := .int .u64 (IntKind.u64.wrap ((1 : Int) * 2 ^ (min (IntKind.u64.wrap (bitSize_1 - 1)).toNat IntKind.u64.bits)))) (want_by rfl rfl c_7) rfl (q_move rfl) ?_
       refine HO.val (v := .bool (decide ((IntKind.u64.wrap ((1 : Int) * 2 ^ (min (IntKind.u64.wrap (bitSize_1 - 1)).toNat IntKind.u64.bits))) ≤ r0_2))) (want_by rfl rfl c_7) rfl (q_geq rfl rfl) ?_
       refine oV (.bool (decide ((IntKind.u64.wrap ((1 : Int) * 2 ^ (min (IntKind.u64.wrap (bitSize_1 - 1)).toNat IntKind.u64.bits))) ≤ r0_2))) (q_pickK true rfl c_7 rfl) rfl ?_
       refine HO.nil (thenQ_normal (?_))
       refine HW.cond (decide ((IntKind.u64.wrap ((1 : Int) * 2 ^ (min (IntKind.u64.wrap (bitSize_1 - 1)).toNat IntKind.u64.bits))) ≤ r0_2)) rfl (fun c_8 => ?_) (fun c_8 => ?_)
       ·
        replace hM := hM.1 (of_decide_eq_true c_8)
        refine HW.seq ?_
        refine HW.region ?_
        refine oM (.int .u64 (IntKind.u64.wrap ((1 : Int) * 2 ^ (min (IntKind.u64.wrap (bitSize_1 - 1)).toNat IntKind.u64.bits)))) rfl rfl ?_
        refine oV (.int .u64 (IntKind.u64.wrap ((IntKind.u64.wrap ((1 : Int) * 2 ^ (min (IntKind.u64.wrap (bitSize_1 - 1)).toNat IntKind.u64.bits))) - 1))) (q_sub rfl rfl) rfl ?_
        refine oV (.int .i64 (IntKind.i64.wrap (IntKind.u64.wrap ((IntKind.u64.wrap ((1 : Int) * 2 ^ (min (IntKind.u64.wrap (bitSize_1 - 1)).toNat IntKind.u64.bits))) - 1)))) (q_convInt (n := IntKind.u64.wrap ((IntKind.u64.wrap ((1 : Int) * 2 ^ (min (IntKind.u64.wrap (bitSize_1 - 1)).toNat IntKind.u64.bits))) - 1)) Tryz.underlying112 Tryz.underlying2 rfl rfl) rfl ?_
        refine oV (.iface 95 (.int .i64 1)) (q_mkIface Tryz.underlying95 rfl) rfl ?_
        refine oA (.int .i64 (IntKind.i64.wrap (IntKind.u64.wrap ((IntKind.u64.wrap ((1 : Int) * 2 ^ (min (IntKind.u64.wrap (bitSize_1 - 1)).toNat IntKind.u64.bits))) - 1)))) rfl rfl ?_
        refine oA (.iface 95 (.int .i64 1)) rfl rfl ?_
        refine HO.nil (thenQ_normal (?_))
        refine HW.ret (thenQ_ret (?_))
        refine ⟨.inr rfl, .tuple #[.int .i64 (IntKind.i64.wrap (IntKind.u64.wrap ((IntKind.u64.wrap ((1 : Int) * 2 ^ (min (IntKind.u64.wrap (bitSize_1 - 1)).toNat IntKind.u64.bits))) - 1))), .iface 95 (.int .i64 1)], res2 rfl (rt rfl) (rt rfl), ?_⟩
        exact ⟨F_4, IntKind.i64.wrap (IntKind.u64.wrap ((IntKind.u64.wrap ((1 : Int) * 2 ^ (min (IntKind.u64.wrap (bitSize_1 - 1)).toNat IntKind.u64.bits))) - 1)), 1, rfl, hK, hS, hM⟩
       ·
        replace hM := hM.2 (of_decide_eq_false c_8)
        refine HW.skip (thenQ_normal (?_))
        exact ⟨F_4, rfl, rfl, rfl, rfl, rfl, hK, hS, hM⟩
      ·
       replace hM := hM.2 c_7
       refine HO.past (past_by rfl rfl c_7) rfl ?_
       refine HO.past (past_by rfl rfl c_7) rfl ?_
       refine HO.past (past_by rfl rfl c_7) rfl ?_
       refine oV (.bool false) (q_pickK false rfl c_7 rfl) rfl ?_
       refine HO.nil (thenQ_normal (?_))
       refine HW.condF rfl ?_
       refine HW.skip (thenQ_normal (?_))
       exact ⟨F_4, rfl, rfl, rfl, rfl, rfl, hK, hS, hM⟩
     ·
      rintro f_4 h_5 ⟨F_5, e6, e7, e8, e9, e10, hK, hS, hM⟩
      unfold internal_strconv_ParseInt_j4 at hM
      refine HW.fr [(6, .int .i64 0), (7, ifV 95 r1_2), (8, .bool neg_1), (9, .int .u64 r0_2), (10, .int .u64 (IntKind.u64.wrap ((1 : Int) * 2 ^ (min (IntKind.u64.wrap (bitSize_1 - 1)).toNat IntKind.u64.bits))))] ⟨e6, e7, e8, e9, e10, trivial⟩ ?_
      refine HW.seq_mid (fun f h => ∃ (F' : Fz), f 6 = .int .i64 0 ∧ f 7 = ifV 95 r1_2 ∧ f 8 = .bool neg_1 ∧ f 9 = .int .u64 r0_2 ∧ Kp F h0 F' h ∧ St F' (fr) h ∧ internal_strconv_ParseInt_j5 Q neg_1 r0_2) ?_ ?_
      ·
       refine HW.seq ?_
       refine HW.region ?_
       refine oM (.bool neg_1) rfl rfl ?_
       refine oM (.bool neg_1) rfl rfl ?_
       rcases Bool.eq_false_or_eq_true neg_1 with c_9 | c_9
       ·
        replace hM := hM.1 c_9
        refine HO.val (v := .int .u64 r0_2) (want_by rfl rfl c_9) rfl (q_move rfl) ?_
        refine HO.val (v := .int .u64 (IntKind.u64.wrap ((1 : Int) * 2 ^ (min (IntKind.u64.wrap (bitSize_1 - 1)).toNat IntKind.u64.bits)))) (want_by rfl rfl c_9) rfl (q_move rfl) ?_
        refine HO.val (v := .bool (decide ((IntKind.u64.wrap ((1 : Int) * 2 ^ (min (IntKind.u64.wrap (bitSize_1 - 1)).toNat IntKind.u64.bits))) < r0_2))) (want_by rfl rfl c_9) rfl (q_gtr rfl rfl) ?_
        refine oV (.bool (decide ((IntKind.u64.wrap ((1 : Int) * 2 ^ (min (IntKind.u64.wrap (bitSize_1 - 1)).toNat IntKind.u64.bits))) < r0_2))) (q_pickK true rfl c_9 rfl) rfl ?_
        refine HO.nil (thenQ_normal (?_))
        refine HW.cond (decide ((IntKind.u64.wrap ((1 : Int) * 2 ^ (min (IntKind.u64.wrap (bitSize_1 - 1)).toNat IntKind.u64.bits))) < r0_2)) rfl (fun c_10 => ?_) (fun c_10 => ?_)
        ·
         replace hM := hM.1 (of_decide_eq_true c_10)
         refine HW.seq ?_
         refine HW.region ?_
         refine oM (.int .u64 (IntKind.u64.wrap ((1 : Int) * 2 ^ (min (IntKind.u64.wrap (bitSize_1 - 1)).toNat IntKind.u64.bits)))) rfl rfl ?_
         refine oV (.int .i64 (IntKind.i64.wrap (IntKind.u64.wrap ((1 : Int) * 2 ^ (min (IntKind.u64.wrap (bitSize_1 - 1)).toNat IntKind.u64.bits))))) (q_convInt (n := IntKind.u64.wrap ((1 : Int) * 2 ^ (min (IntKind.u64.wrap (bitSize_1 - 1)).toNat IntKind.u64.bits))) Tryz.underlying112 Tryz.underlying2 rfl rfl) rfl ?_
         refine oV (.int .i64 (IntKind.i64.wrap (0 - (IntKind.i64.wrap (IntKind.u64.wrap ((1 : Int) * 2 ^ (min (IntKind.u64.wrap (bitSize_1 - 1)).toNat IntKind.u64.bits))))))) (q_neg rfl) rfl ?_
         refine oV (.iface 95 (.int .i64 1)) (q_mkIface Tryz.underlying95 rfl) rfl ?_
         refine oA (.int .i64 (IntKind.i64.wrap (0 - (IntKind.i64.wrap (IntKind.u64.wrap ((1 : Int) * 2 ^ (min (IntKind.u64.wrap (bitSize_1 - 1)).toNat IntKind.u64.bits))))))) rfl rfl ?_
         refine oA (.iface 95 (.int .i64 1)) rfl rfl ?_
         refine HO.nil (thenQ_normal (?_))
         refine HW.ret (thenQ_ret (?_))
         refine ⟨.inr rfl, .tuple #[.int .i64 (IntKind.i64.wrap (0 - (IntKind.i64.wrap (IntKind.u64.wrap ((1 : Int) * 2 ^ (min (IntKind.u64.wrap (bitSize_1 - 1)).toNat IntKind.u64.bits)))))), .iface 95 (.int .i64 1)], res2 rfl (rt rfl) (rt rfl), ?_⟩
         exact ⟨F_5, IntKind.i64.wrap (0 - (IntKind.i64.wrap (IntKind.u64.wrap ((1 : Int) * 2 ^ (min (IntKind.u64.wrap (bitSize_1 - 1)).toNat IntKind.u64.bits))))), 1, rfl, hK, hS, hM⟩
        ·
         replace hM := hM.2 (of_decide_eq_false c_10)
         refine HW.skip (thenQ_normal (?_))
         exact ⟨F_5, rfl, rfl, rfl, rfl, hK, hS, hM⟩
       ·
        replace hM := hM.2 c_9
        refine HO.past (past_by rfl rfl c_9) rfl ?_
        refine HO.past (past_by rfl rfl c_9) rfl ?_
        refine HO.past (past_by rfl rfl c_9) rfl ?_
        refine oV (.bool false) (q_pickK false rfl c_9 rfl) rfl ?_
        refine HO.nil (thenQ_normal (?_))
        refine HW.condF rfl ?_
        refine HW.skip (thenQ_normal (?_))
        exact ⟨F_5, rfl, rfl, rfl, rfl, hK, hS, hM⟩
      ·
       rintro f_5 h_6 ⟨F_6, e6, e7, e8, e9, hK, hS, hM⟩
       unfold internal_strconv_ParseInt_j5 at hM
       refine HW.fr [(6, .int .i64 0), (7, ifV 95 r1_2), (8, .bool neg_1), (9, .int .u64 r0_2)] ⟨e6, e7, e8, e9, trivial⟩ ?_
       refine HW.seq ?_
       refine HW.region ?_
       refine oM (.int .u64 r0_2) rfl rfl ?_
       refine oV (.int .i64 (IntKind.i64.wrap r0_2)) (q_convInt (n := r0_2) Tryz.underlying112 Tryz.underlying2 rfl rfl) rfl ?_
       refine oA (.int .i64 (IntKind.i64.wrap r0_2)) rfl rfl ?_
       refine HO.nil (thenQ_normal (?_))
       refine HW.seq ?_
       refine HW.seq ?_
       refine HW.region ?_
       refine oM (.bool neg_1) rfl rfl ?_
       refine HO.nil (thenQ_normal (?_))
       refine HW.cond neg_1 rfl (fun c_11 => ?_) (fun c_11 => ?_)
       ·
        replace hM := hM.1 c_11
        refine HW.region ?_
        refine oM (.int .i64 (IntKind.i64.wrap r0_2)) rfl rfl ?_
        refine oV (.int .i64 (IntKind.i64.wrap (0 - (IntKind.i64.wrap r0_2)))) (q_neg rfl) rfl ?_
        refine oA (.int .i64 (IntKind.i64.wrap (0 - (IntKind.i64.wrap r0_2)))) rfl rfl ?_
        refine HO.nil (thenQ_normal (?_))
        refine HW.seq ?_
        refine HW.region ?_
        refine oM (.int .i64 (IntKind.i64.wrap (0 - (IntKind.i64.wrap r0_2)))) rfl rfl ?_
        refine oA (.int .i64 (IntKind.i64.wrap (0 - (IntKind.i64.wrap r0_2)))) rfl rfl ?_
        refine oA (.nilIface) rfl rfl ?_
        refine HO.nil (thenQ_normal (?_))
        refine HW.ret (?_)
        refine ⟨.inr rfl, .tuple #[.int .i64 (IntKind.i64.wrap (0 - (IntKind.i64.wrap r0_2))), .nilIface], res2 rfl (rt rfl) (rt rfl), ?_⟩
        exact ⟨F_6, IntKind.i64.wrap (0 - (IntKind.i64.wrap r0_2)), 0, rfl, hK, hS, hM⟩
       ·
        replace hM := hM.2 c_11
        refine HW.skip (thenQ_normal (?_))
        refine HW.seq ?_
        refine HW.region ?_
        refine oM (.int .i64 (IntKind.i64.wrap r0_2)) rfl rfl ?_
        refine oA (.int .i64 (IntKind.i64.wrap r0_2)) rfl rfl ?_
        refine oA (.nilIface) rfl rfl ?_
        refine HO.nil (thenQ_normal (?_))
        refine HW.ret (?_)
        refine ⟨.inr rfl, .tuple #[.int .i64 (IntKind.i64.wrap r0_2), .nilIface], res2 rfl (rt rfl) (rt rfl), ?_⟩
        exact ⟨F_6, IntKind.i64.wrap r0_2, 0, rfl, hK, hS, hM⟩

def internal_strconv_Atoi_j4 (Q : Int → Int → Prop) (n_3 : Int) : Prop :=
 Q n_3 0
def internal_strconv_Atoi_l1 (s1 : Str) (Q : Int → Int → Prop) (s_1 : Str) (K_1 : Int → Int → Prop) (n_1 : Int) (n_2 : Int) : Prop :=
 (n_2 < (s_1.length : Int) → ((0 : Int) ≤ n_2 ∧ n_2 < (s_1.length : Int)) ∧ ((9 < ((u8w (((gi s_1 n_2).toNat : Int) - 48)).toNat : Int) → Q 0 2) ∧ (¬ (9 < ((u8w (((gi s_1 n_2).toNat : Int) - 48)).toNat : Int)) → (I64 (n_1 * 10)) ∧ ((I64 ((u8w (((gi s_1 n_2).toNat : Int) - 48)).toNat : Int)) ∧ ((I64 ((n_1 * 10) + ((u8w (((gi s_1 n_2).toNat : Int) - 48)).toNat : Int))) ∧ ((I64 (n_2 + 1)) ∧ (K_1 ((n_1 * 10) + ((u8w (((gi s_1 n_2).toNat : Int) - 48)).toNat : Int)) (n_2 + 1)))))))) ∧ (¬ (n_2 < (s_1.length : Int)) → ((0 : Int) ≤ 0 ∧ 0 < (s1.length : Int)) ∧ ((((gi s1 0).toNat : Int) = 45 → (I64 (0 - n_1)) ∧ (internal_strconv_Atoi_j4 Q (0 - n_1))) ∧ (¬ (((gi s1 0).toNat : Int) = 45) → internal_strconv_Atoi_j4 Q n_1)))
def internal_strconv_Atoi_j2 (s1 : Str) (Q : Int → Int → Prop) (s_1 : Str) : Prop :=
 ((s_1.length : Int) ≤ 1000000) ∧ (loopW (fun (K_1 : (Int × Int) → Prop) (s : Int × Int) => internal_strconv_Atoi_l1 s1 Q s_1 (fun n_1 n_2 => K_1 (n_1, n_2)) s.1 s.2) (0, 0))
def internal_strconv_Atoi_j3 (s1 : Str) (Q : Int → Int → Prop) (b_2 : Bool) : Prop :=
 (b_2 = true → ((0 : Int) ≤ 1 ∧ 1 ≤ (s1.length : Int)) ∧ ((((cut s1 1 (s1.length : Int)).length : Int) < 1 → Q 0 2) ∧ (¬ (((cut s1 1 (s1.length : Int)).length : Int) < 1) → internal_strconv_Atoi_j2 s1 Q (cut s1 1 (s1.length : Int))))) ∧ (b_2 = false → internal_strconv_Atoi_j2 s1 Q s1)
def internal_strconv_Atoi_j1 (s1 : Str) (Q : Int → Int → Prop) (b_1 : Bool) : Prop :=
 (b_1 = true → ((0 : Int) ≤ 0 ∧ 0 < (s1.length : Int)) ∧ ((((gi s1 0).toNat : Int) = 45 → internal_strconv_Atoi_j3 s1 Q true) ∧ (¬ (((gi s1 0).toNat : Int) = 45) → internal_strconv_Atoi_j3 s1 Q (decide (((gi s1 0).toNat : Int) = 43))))) ∧ (b_1 = false → internal_strconv_ParseInt_W s1 10 0 (fun r0_2 r1_2 => Q r0_2 r1_2))
def internal_strconv_Atoi_W (s1 : Str) (Q : Int → Int → Prop) : Prop :=
 (0 < (s1.length : Int) → internal_strconv_Atoi_j1 s1 Q (decide ((s1.length : Int) < 19))) ∧ (¬ (0 < (s1.length : Int)) → internal_strconv_Atoi_j1 s1 Q false)
set_option maxHeartbeats 40000000 in
set_option maxRecDepth 100000 in
theorem internal_strconv_Atoi_walk {F : Fz} {fr : List Ow} {h0 : Heap} (s1 : Str) (hS : St F (fr) h0)  {Q : Int → Int → Prop} (hM : internal_strconv_Atoi_W s1 Q) :
  HC Tryz.prog 64 #[.string (bs s1)] h0 fun u h' => ∃ (F' : Fz) (r0_1 : Int) (r1_1 : Int), u = .tuple #[.int .i64 r0_1, ifV 95 r1_1] ∧ Kp F h0 F' h' ∧ St F' (fr) h' ∧ Q r0_1 r1_1 := by
 unfold internal_strconv_Atoi_W at hM
 have hK := Kp.refl F h0
 refine HC.of_HW (n := 77) Tryz.func64 rfl rfl (Nat.le_of_ble_eq_true rfl) ?_
 refine HW.seq ?_
 refine HW.region ?_
 refine oA (.int .i64 0) rfl rfl ?_
 refine oA (.nilIface) rfl rfl ?_
 refine HO.nil (thenQ_normal (?_))
 refine HW.seq ?_
 refine HW.region ?_
 refine oM (.string (bs s1)) rfl rfl ?_
 refine oV (.int .i64 (s1.length : Int)) (q_lenT Tryz.underlying9 rfl rfl) rfl ?_
 refine oA (.int .i64 (s1.length : Int)) rfl rfl ?_
 refine HO.nil (thenQ_normal (?_))
 refine HW.seq ?_
 refine HW.seq_mid (fun f h => ∃ (F' : Fz) (b_1 : Bool), f 0 = .string (bs s1) ∧ f 2 = .int .i64 0 ∧ f 3 = .nilIface ∧ f 30 = .bool b_1 ∧ Kp F h0 F' h ∧ St F' (fr) h ∧ internal_strconv_Atoi_j1 s1 Q b_1) ?_ ?_
 ·
  refine HW.region ?_
  refine oM (.bool false) rfl rfl ?_
  refine HO.past (past_some rfl rfl) rfl ?_
  refine HO.past (past_some rfl rfl) rfl ?_
  refine HO.past (past_some rfl rfl) rfl ?_
  refine HO.past (past_undef rfl rfl) rfl ?_
  refine HO.past (past_undef rfl rfl) rfl ?_
  refine HO.past (past_some rfl rfl) rfl ?_
  refine oV (.bool false) (q_pick rfl rfl) rfl ?_
  refine oM (.bool false) rfl rfl ?_
  refine HO.val (v := .bool true) (want_some rfl rfl) rfl (q_move rfl) ?_
  refine HO.val (v := .int .i64 (s1.length : Int)) (want_some rfl rfl) rfl (q_move rfl) ?_
  refine HO.val (v := .bool (decide (0 < (s1.length : Int)))) (want_some rfl rfl) rfl (q_lss rfl rfl) ?_
  refine HO.val (v := .bool (decide (0 < (s1.length : Int)))) (want_some rfl rfl) rfl (q_move rfl) ?_
  rcases Bool.eq_false_or_eq_true (decide (0 < (s1.length : Int))) with c_1 | c_1
  ·
   replace hM := hM.1 (of_decide_eq_true c_1)
   refine HO.val (v := .int .i64 (s1.length : Int)) (want_by rfl rfl c_1) rfl (q_move rfl) ?_
   refine HO.val (v := .bool (decide ((s1.length : Int) < 19))) (want_by rfl rfl c_1) rfl (q_lss rfl rfl) ?_
   refine HO.val (v := .bool (decide ((s1.length : Int) < 19))) (want_some rfl rfl) rfl (q_pickK true rfl c_1 rfl) ?_
   refine HO.val (v := .bool (decide ((s1.length : Int) < 19))) (want_some rfl rfl) rfl (q_pick rfl rfl) ?_
   refine oV (.bool (decide ((s1.length : Int) < 19))) (q_pick rfl rfl) rfl ?_
   refine HO.nil (thenQ_normal (?_))
   exact ⟨F, decide ((s1.length : Int) < 19), rfl, rfl, rfl, rfl, hK, hS, hM⟩
  ·
   replace hM := hM.2 (of_decide_eq_false c_1)
   refine HO.past (past_by rfl rfl c_1) rfl ?_
   refine HO.past (past_by rfl rfl c_1) rfl ?_
   refine HO.val (v := .bool false) (want_some rfl rfl) rfl (q_pickK false rfl c_1 rfl) ?_
   refine HO.val (v := .bool false) (want_some rfl rfl) rfl (q_pick rfl rfl) ?_
   refine oV (.bool false) (q_pick rfl rfl) rfl ?_
   refine HO.nil (thenQ_normal (?_))
   exact ⟨F, false, rfl, rfl, rfl, rfl, hK, hS, hM⟩
 ·
  rintro f_1 h_1 ⟨F_1, b_1, e0, e2, e3, e30, hK, hS, hM⟩
  unfold internal_strconv_Atoi_j1 at hM
  refine HW.fr [(0, .string (bs s1)), (2, .int .i64 0), (3, .nilIface), (30, .bool b_1)] ⟨e0, e2, e3, e30, trivial⟩ ?_
  refine HW.cond b_1 rfl (fun c_2 => ?_) (fun c_2 => ?_)
  ·
   replace hM := hM.1 c_2
   refine HW.seq ?_
   refine HW.region ?_
   refine oM (.string (bs s1)) rfl rfl ?_
   refine oA (.string (bs s1)) rfl rfl ?_
   refine HO.nil (thenQ_normal (?_))
   refine HW.seq_mid (fun f h => ∃ (F' : Fz) (s_1 : Str), f 0 = .string (bs s_1) ∧ f 2 = .int .i64 0 ∧ f 3 = .nilIface ∧ f 5 = .string (bs s1) ∧ Kp F h0 F' h ∧ St F' (fr) h ∧ internal_strconv_Atoi_j2 s1 Q s_1) ?_ ?_
   ·
    refine HW.seq_mid (fun f h => ∃ (F' : Fz) (b_2 : Bool), f 0 = .string (bs s1) ∧ f 2 = .int .i64 0 ∧ f 3 = .nilIface ∧ f 5 = .string (bs s1) ∧ f 39 = .bool b_2 ∧ Kp F h0 F' h ∧ St F' (fr) h ∧ internal_strconv_Atoi_j3 s1 Q b_2) ?_ ?_
    ·
     refine HW.region ?_
     refine oM (.string (bs s1)) rfl rfl ?_
     obtain ⟨ho_1, hM⟩ := hM
     refine oV (.int .u8 ((gi s1 0).toNat : Int)) (q_idxT Tryz.underlying9 rfl rfl ho_1) rfl ?_
     refine oV (.bool (decide (((gi s1 0).toNat : Int) = 45))) (q_eql rfl rfl) rfl ?_
     refine oM (.bool (decide (((gi s1 0).toNat : Int) = 45))) rfl rfl ?_
     rcases Bool.eq_false_or_eq_true (decide (((gi s1 0).toNat : Int) = 45)) with c_3 | c_3
     ·
      replace hM := hM.1 (of_decide_eq_true c_3)
      refine HO.past (past_by rfl rfl c_3) rfl ?_
      refine HO.past (past_by rfl rfl c_3) rfl ?_
      refine HO.past (past_by rfl rfl c_3) rfl ?_
      refine oV (.bool true) (q_pickK true rfl c_3 rfl) rfl ?_
      refine HO.nil (thenQ_normal (?_))
      exact ⟨F_1, true, rfl, rfl, rfl, rfl, rfl, hK, hS, hM⟩
     ·
      replace hM := hM.2 (of_decide_eq_false c_3)
      refine HO.val (v := .string (bs s1)) (want_by rfl rfl c_3) rfl (q_move rfl) ?_
      refine HO.val (v := .int .u8 ((gi s1 0).toNat : Int)) (want_by rfl rfl c_3) rfl (q_idxT Tryz.underlying9 rfl rfl ho_1) ?_
      refine HO.val (v := .bool (decide (((gi s1 0).toNat : Int) = 43))) (want_by rfl rfl c_3) rfl (q_eql rfl rfl) ?_
      refine oV (.bool (decide (((gi s1 0).toNat : Int) = 43))) (q_pickK false rfl c_3 rfl) rfl ?_
      refine HO.nil (thenQ_normal (?_))
      exact ⟨F_1, decide (((gi s1 0).toNat : Int) = 43), rfl, rfl, rfl, rfl, rfl, hK, hS, hM⟩
    ·
     rintro f_2 h_2 ⟨F_2, b_2, e0, e2, e3, e5, e39, hK, hS, hM⟩
     unfold internal_strconv_Atoi_j3 at hM
     refine HW.fr [(0, .string (bs s1)), (2, .int .i64 0), (3, .nilIface), (5, .string (bs s1)), (39, .bool b_2)] ⟨e0, e2, e3, e5, e39, trivial⟩ ?_
     refine HW.cond b_2 rfl (fun c_4 => ?_) (fun c_4 => ?_)
     ·
      replace hM := hM.1 c_4
      refine HW.seq ?_
      refine HW.region ?_
      refine oM (.string (bs s1)) rfl rfl ?_
      obtain ⟨ho_2, hM⟩ := hM
      refine oV (.string (bs (cut s1 1 (s1.length : Int)))) (q_strL Tryz.underlying9 rfl rfl ho_2) rfl ?_
      refine oA (.string (bs (cut s1 1 (s1.length : Int)))) rfl rfl ?_
      refine HO.nil (thenQ_normal (?_))
      refine HW.seq ?_
      refine HW.region ?_
      refine oM (.string (bs (cut s1 1 (s1.length : Int)))) rfl rfl ?_
      refine oV (.int .i64 ((cut s1 1 (s1.length : Int)).length : Int)) (q_lenT Tryz.underlying9 rfl rfl) rfl ?_
      refine oV (.bool (decide (((cut s1 1 (s1.length : Int)).length : Int) < 1))) (q_lss rfl rfl) rfl ?_
      refine HO.nil (thenQ_normal (?_))
      refine HW.cond (decide (((cut s1 1 (s1.length : Int)).length : Int) < 1)) rfl (fun c_5 => ?_) (fun c_5 => ?_)
      ·
       replace hM := hM.1 (of_decide_eq_true c_5)
       refine HW.seq ?_
       refine HW.region ?_
       refine oV (.iface 95 (.int .i64 2)) (q_mkIface Tryz.underlying95 rfl) rfl ?_
       refine oA (.int .i64 0) rfl rfl ?_
       refine oA (.iface 95 (.int .i64 2)) rfl rfl ?_
       refine HO.nil (thenQ_normal (?_))
       refine HW.ret (thenQ_ret (thenQ_ret (?_)))
       refine ⟨.inr rfl, .tuple #[.int .i64 0, .iface 95 (.int .i64 2)], res2 rfl (rt rfl) (rt rfl), ?_⟩
       exact ⟨F_2, 0, 2, rfl, hK, hS, hM⟩
      ·
       replace hM := hM.2 (of_decide_eq_false c_5)
       refine HW.skip (thenQ_normal (?_))
       exact ⟨F_2, cut s1 1 (s1.length : Int), rfl, rfl, rfl, rfl, hK, hS, hM⟩
     ·
      replace hM := hM.2 c_4
      refine HW.skip (thenQ_normal (?_))
      exact ⟨F_2, s1, rfl, rfl, rfl, rfl, hK, hS, hM⟩
   ·
    rintro f_3 h_3 ⟨F_3, s_1, e0, e2, e3, e5, hK, hS, hM⟩
    unfold internal_strconv_Atoi_j2 at hM
    refine HW.fr [(0, .string (bs s_1)), (2, .int .i64 0), (3, .nilIface), (5, .string (bs s1))] ⟨e0, e2, e3, e5, trivial⟩ ?_
    refine HW.seq ?_
    refine HW.region ?_
    refine oA (.int .i64 0) rfl rfl ?_
    refine HO.nil (thenQ_normal (?_))
    refine HW.seq ?_
    refine HW.seq ?_
    refine HW.region ?_
    refine oM (.string (bs s_1)) rfl rfl ?_
    obtain ⟨ho_3, hM⟩ := hM
    refine HO.eff (want_none) rfl (st_strBytes hS Tryz.underlying9 Tryz.underlying79 Tryz.underlying5 rfl ho_3) ?_
    rintro v_1 h_4 ⟨F_4, hS, hk, hL_1⟩
    replace hK := hK.trans hk
    refine oV (.int .i64 (s_1.length : Int)) (q_len ts_79 (shp hL_1.is) rfl rfl) rfl ?_
    refine oM (.int .i64 0) rfl rfl ?_
    refine HO.nil (thenQ_normal (?_))
    refine HW.block ?_
    obtain ⟨I_1, m_1, hI_1, hR_1⟩ := hM
    refine HW.loop (S := Int × Int) (fun s f h => match s with | (n_1, n_2) => ∃ (F' : Fz), f 0 = .string (bs s_1) ∧ f 2 = .int .i64 0 ∧ f 3 = .nilIface ∧ f 5 = .string (bs s1) ∧ f 6 = .int .i64 n_1 ∧ f 47 = v_1 ∧ f 48 = .int .i64 (s_1.length : Int) ∧ f 49 = .int .i64 n_2 ∧ Kp F h0 F' h ∧ St F' (fr) h ∧ (SliceF F' h 1 enc8 v_1 s_1) ∧ I_1 (n_1, n_2)) m_1 (0, 0) ⟨F_4, rfl, rfl, rfl, rfl, rfl, rfl, rfl, rfl, hK, hS, hL_1, hI_1⟩ ?_
    rintro ⟨n_1, n_2⟩ f_4 h_5 ⟨F_5, e0, e2, e3, e5, e6, e47, e48, e49, hK, hS, hL_1, hI0⟩
    obtain ⟨K_1, hKe_1⟩ : ∃ K : Int → Int → Prop, K = fun n_1' n_2' => I_1 (n_1', n_2') ∧ m_1 (n_1', n_2') < m_1 (n_1, n_2) := ⟨_, rfl⟩
    have hM : internal_strconv_Atoi_l1 s1 Q s_1 K_1 n_1 n_2 := by rw [hKe_1]; exact hR_1 (n_1, n_2) hI0
    unfold internal_strconv_Atoi_l1 at hM
    refine HW.fr [(0, .string (bs s_1)), (2, .int .i64 0), (3, .nilIface), (5, .string (bs s1)), (6, .int .i64 n_1), (47, v_1), (48, .int .i64 (s_1.length : Int)), (49, .int .i64 n_2)] ⟨e0, e2, e3, e5, e6, e47, e48, e49, trivial⟩ ?_
    refine HW.seq ?_
    refine HW.region ?_
    refine oV (.bool (decide (n_2 < (s_1.length : Int)))) (q_lss rfl rfl) rfl ?_
    refine HO.nil (thenQ_normal (?_))
    refine HW.seq ?_
    refine HW.cond (decide (n_2 < (s_1.length : Int))) rfl (fun c_6 => ?_) (fun c_6 => ?_)
    ·
     replace hM := hM.1 (of_decide_eq_true c_6)
     refine HW.skip (thenQ_normal (?_))
     refine HW.seq ?_
     refine HW.block ?_
     refine HW.seq ?_
     refine HW.region ?_
     obtain ⟨ho_4, hM⟩ := hM
     refine oV (elemPtr 1 v_1 (n_2).toNat) (q_idx ts_79 hL_1.is rfl rfl ho_4) rfl ?_
     refine oV (.int .u8 ((gi s_1 n_2).toNat : Int)) (q_ldElem to_5 hL_1.is rfl ho_4 rfl) rfl ?_
     refine oA (.int .u8 ((gi s_1 n_2).toNat : Int)) rfl rfl ?_
     refine HO.nil (thenQ_normal (?_))
     refine HW.seq ?_
     refine HW.region ?_
     refine oM (.int .u8 ((gi s_1 n_2).toNat : Int)) rfl rfl ?_
     refine oV (.int .u8 ((u8w (((gi s_1 n_2).toNat : Int) - 48)).toNat : Int)) ((q_sub rfl rfl).of_eq (u8w_v _)) rfl ?_
     refine oA (.int .u8 ((u8w (((gi s_1 n_2).toNat : Int) - 48)).toNat : Int)) rfl rfl ?_
     refine HO.nil (thenQ_normal (?_))
     refine HW.seq ?_
     refine HW.seq ?_
     refine HW.region ?_
     refine oM (.int .u8 ((u8w (((gi s_1 n_2).toNat : Int) - 48)).toNat : Int)) rfl rfl ?_
     refine oV (.bool (decide (9 < ((u8w (((gi s_1 n_2).toNat : Int) - 48)).toNat : Int)))) (q_gtr rfl rfl) rfl ?_
     refine HO.nil (thenQ_normal (?_))
     refine HW.cond (decide (9 < ((u8w (((gi s_1 n_2).toNat : Int) - 48)).toNat : Int))) rfl (fun c_7 => ?_) (fun c_7 => ?_)
     ·
      replace hM := hM.1 (of_decide_eq_true c_7)
      refine HW.seq ?_
      refine HW.region ?_
      refine oV (.iface 95 (.int .i64 2)) (q_mkIface Tryz.underlying95 rfl) rfl ?_
      refine oA (.int .i64 0) rfl rfl ?_
      refine oA (.iface 95 (.int .i64 2)) rfl rfl ?_
      refine HO.nil (thenQ_normal (?_))
      refine HW.ret (thenQ_ret (blockQ_ret (thenQ_ret (thenQ_ret (blockQ_ret (thenQ_ret (thenQ_ret (?_))))))))
      refine ⟨.inr rfl, .tuple #[.int .i64 0, .iface 95 (.int .i64 2)], res2 rfl (rt rfl) (rt rfl), ?_⟩
      exact ⟨F_5, 0, 2, rfl, hK, hS, hM⟩
     ·
      replace hM := hM.2 (of_decide_eq_false c_7)
      refine HW.skip (thenQ_normal (?_))
      refine HW.region ?_
      refine oM (.int .i64 n_1) rfl rfl ?_
      obtain ⟨ho_5, hM⟩ := hM
      refine oV (.int .i64 (n_1 * 10)) (q_mulN _ rfl rfl rfl ho_5.1 ho_5.2) rfl ?_
      refine oM (.int .u8 ((u8w (((gi s_1 n_2).toNat : Int) - 48)).toNat : Int)) rfl rfl ?_
      obtain ⟨ho_6, hM⟩ := hM
      refine oV (.int .i64 ((u8w (((gi s_1 n_2).toNat : Int) - 48)).toNat : Int)) (q_convInt Tryz.underlying5 Tryz.underlying3 rfl (wrap_i64 ho_6.1 ho_6.2)) rfl ?_
      obtain ⟨ho_7, hM⟩ := hM
      refine oV (.int .i64 ((n_1 * 10) + ((u8w (((gi s_1 n_2).toNat : Int) - 48)).toNat : Int))) (q_addN _ rfl rfl rfl ho_7.1 ho_7.2) rfl ?_
      refine oA (.int .i64 ((n_1 * 10) + ((u8w (((gi s_1 n_2).toNat : Int) - 48)).toNat : Int))) rfl rfl ?_
      refine HO.nil (blockQ_normal (thenQ_normal (?_)))
      refine HW.region ?_
      obtain ⟨ho_8, hM⟩ := hM
      refine oV (.int .i64 (n_2 + 1)) (q_addN _ rfl rfl rfl ho_8.1 ho_8.2) rfl ?_
      refine oM (.int .i64 (n_2 + 1)) rfl rfl ?_
      refine HO.nil (thenQ_normal (?_))
      rw [hKe_1] at hM
      exact ⟨((n_1 * 10) + ((u8w (((gi s_1 n_2).toNat : Int) - 48)).toNat : Int), n_2 + 1), ⟨F_5, rfl, rfl, rfl, rfl, rfl, rfl, rfl, rfl, hK, hS, hL_1, hM.1⟩, hM.2⟩
    ·
     replace hM := hM.2 (of_decide_eq_false c_6)
     refine HW.exit (thenQ_exit (thenQ_exit (blockQ_exit (thenQ_normal (?_)))))
     refine HW.seq_mid (fun f h => ∃ (F' : Fz) (n_3 : Int), f 0 = .string (bs s_1) ∧ f 2 = .int .i64 0 ∧ f 3 = .nilIface ∧ f 6 = .int .i64 n_3 ∧ Kp F h0 F' h ∧ St F' (fr) h ∧ (SliceF F' h 1 enc8 v_1 s_1) ∧ internal_strconv_Atoi_j4 Q n_3) ?_ ?_
     ·
      refine HW.seq ?_
      refine HW.region ?_
      refine oM (.string (bs s1)) rfl rfl ?_
      obtain ⟨ho_9, hM⟩ := hM
      refine oV (.int .u8 ((gi s1 0).toNat : Int)) (q_idxT Tryz.underlying9 rfl rfl ho_9) rfl ?_
      refine oV (.bool (decide (((gi s1 0).toNat : Int) = 45))) (q_eql rfl rfl) rfl ?_
      refine HO.nil (thenQ_normal (?_))
      refine HW.cond (decide (((gi s1 0).toNat : Int) = 45)) rfl (fun c_8 => ?_) (fun c_8 => ?_)
      ·
       replace hM := hM.1 (of_decide_eq_true c_8)
       refine HW.region ?_
       refine oM (.int .i64 n_1) rfl rfl ?_
       obtain ⟨ho_10, hM⟩ := hM
       refine oV (.int .i64 (0 - n_1)) ((q_neg rfl).of_eq (by rw [wrap_i64 ho_10.1 ho_10.2])) rfl ?_
       refine oA (.int .i64 (0 - n_1)) rfl rfl ?_
       refine HO.nil (thenQ_normal (?_))
       exact ⟨F_5, 0 - n_1, rfl, rfl, rfl, rfl, hK, hS, hL_1, hM⟩
      ·
       replace hM := hM.2 (of_decide_eq_false c_8)
       refine HW.skip (thenQ_normal (?_))
       exact ⟨F_5, n_1, rfl, rfl, rfl, rfl, hK, hS, hL_1, hM⟩
     ·
      rintro f_5 h_6 ⟨F_6, n_3, e0, e2, e3, e6, hK, hS, hL_1, hM⟩
      unfold internal_strconv_Atoi_j4 at hM
      refine HW.fr [(0, .string (bs s_1)), (2, .int .i64 0), (3, .nilIface), (6, .int .i64 n_3)] ⟨e0, e2, e3, e6, trivial⟩ ?_
      refine HW.seq ?_
      refine HW.region ?_
      refine oM (.int .i64 n_3) rfl rfl ?_
      refine oA (.int .i64 n_3) rfl rfl ?_
      refine oA (.nilIface) rfl rfl ?_
      refine HO.nil (thenQ_normal (?_))
      refine HW.ret (thenQ_ret (?_))
      refine ⟨.inr rfl, .tuple #[.int .i64 n_3, .nilIface], res2 rfl (rt rfl) (rt rfl), ?_⟩
      exact ⟨F_6, n_3, 0, rfl, hK, hS, hM⟩
  ·
   replace hM := hM.2 c_2
   refine HW.skip (thenQ_normal (?_))
   refine HW.seq ?_
   refine HW.region ?_
   refine oM (.string (bs s1)) rfl rfl ?_
   refine HO.call (want_none) rfl (ec en_86 rfl rfl) (internal_strconv_ParseInt_walk (fr := (fr)) s1 10 0 hS hM) ?_
   rintro _ h_7 ⟨F_7, r0_2, r1_2, rfl, hk, hS, hM⟩
   replace hK := hK.trans hk
   refine oM (.tuple #[.int .i64 r0_2, ifV 95 r1_2]) rfl rfl ?_
   refine oV (.int .i64 r0_2) (q_extract rfl rfl) rfl ?_
   refine oV (ifV 95 r1_2) (q_extract rfl rfl) rfl ?_
   refine oA (.int .i64 r0_2) rfl rfl ?_
   refine oA (ifV 95 r1_2) rfl rfl ?_
   refine HO.nil (thenQ_normal (?_))
   refine HW.seq ?_
   refine HW.region ?_
   refine oM (.int .i64 r0_2) rfl rfl ?_
   refine oM (ifV 95 r1_2) rfl rfl ?_
   refine oA (.int .i64 r0_2) rfl rfl ?_
   refine oA (ifV 95 r1_2) rfl rfl ?_
   refine HO.nil (thenQ_normal (?_))
   refine HW.ret (?_)
   refine ⟨.inr rfl, .tuple #[.int .i64 r0_2, ifV 95 r1_2], res2 rfl (rt rfl) (rt rfl), ?_⟩
   exact ⟨F_7, r0_2, r1_2, rfl, hK, hS, hM⟩

def strconv_Atoi_W (s1 : Str) (Q : Int → Bool → Prop) : Prop :=
 internal_strconv_Atoi_W s1 (fun r0_2 r1_2 => (¬ (r1_2 = 0) → ((s1.length : Int) ≤ 281474976710656 ∧ (r1_2 = 2 ∨ r1_2 = 1)) ∧ (Q r0_2 true)) ∧ (r1_2 = 0 → Q r0_2 false))
set_option maxHeartbeats 40000000 in
set_option maxRecDepth 100000 in
theorem strconv_Atoi_walk {F : Fz} {fr : List Ow} {h0 : Heap} (s1 : Str) (gvS : Value) (gbS : Bool) (gvR : Value) (gbR : Bool) (hS : St F (fr) h0) (hG_0 : RoF (Ow.box 0 53 #[gvS]) F h0) (hE_gvS : ErrF gbS gvS F h0) (hG_1 : RoF (Ow.box 1 53 #[gvR]) F h0) (hE_gvR : ErrF gbR gvR F h0) (hD : DM.on = false) {Q : Int → Bool → Prop} (hM : strconv_Atoi_W s1 Q) :
  HC Tryz.prog 43 #[.string (bs s1)] h0 fun u h' => ∃ (F' : Fz) (r0_1 : Int) (r1_1 : Bool) (vr1_1 : Value), u = .tuple #[.int .i64 r0_1, vr1_1] ∧ Kp F h0 F' h' ∧ St F' (fr) h' ∧ (RoF (Ow.box 0 53 #[gvS]) F' h') ∧ (ErrF gbS gvS F' h') ∧ (RoF (Ow.box 1 53 #[gvR]) F' h') ∧ (ErrF gbR gvR F' h') ∧ (ErrF r1_1 vr1_1 F' h') ∧ Q r0_1 r1_1 := by
 unfold strconv_Atoi_W at hM
 have hK := Kp.refl F h0
 refine HC.of_HW (n := 18) Tryz.func43 rfl rfl (Nat.le_of_ble_eq_true rfl) ?_
 refine HW.seq ?_
 refine HW.region ?_
 refine oA (.int .i64 0) rfl rfl ?_
 refine oA (.nilIface) rfl rfl ?_
 refine HO.nil (thenQ_normal (?_))
 refine HW.seq ?_
 refine HW.region ?_
 refine oM (.string (bs s1)) rfl rfl ?_
 refine HO.call (want_none) rfl (ec en_64 rfl rfl) (internal_strconv_Atoi_walk (fr := (fr)) s1 hS hM) ?_
 rintro _ h_1 ⟨F_1, r0_2, r1_2, rfl, hk, hS, hM⟩
 replace hK := hK.trans hk
 replace hG_0 := hG_0.kp hk
 replace hE_gvS := hE_gvS.kp hk
 replace hG_1 := hG_1.kp hk
 replace hE_gvR := hE_gvR.kp hk
 refine oM (.tuple #[.int .i64 r0_2, ifV 95 r1_2]) rfl rfl ?_
 refine oV (.int .i64 r0_2) (q_extract rfl rfl) rfl ?_
 refine oV (ifV 95 r1_2) (q_extract rfl rfl) rfl ?_
 refine oA (.int .i64 r0_2) rfl rfl ?_
 refine oA (ifV 95 r1_2) rfl rfl ?_
 refine HO.nil (thenQ_normal (?_))
 refine HW.seq ?_
 refine HW.seq ?_
 refine HW.region ?_
 refine oM (ifV 95 r1_2) rfl rfl ?_
 refine oV (.bool (!decide (r1_2 = 0))) ((q_ifNil (op := .neq) (b := !decide (r1_2 = 0)) (by simp) Tryz.underlying53 (ifV_err _ _) rfl)) rfl ?_
 refine HO.nil (thenQ_normal (?_))
 refine HW.cond (!decide (r1_2 = 0)) rfl (fun c_1 => ?_) (fun c_1 => ?_)
 ·
  replace hM := hM.1 (nd_true c_1)
  refine HW.seq ?_
  refine HW.region ?_
  refine oM (.int .i64 r0_2) rfl rfl ?_
  refine oM (.string (bs s1)) rfl rfl ?_
  refine oM (ifV 95 r1_2) rfl rfl ?_
  obtain ⟨ho_1, hM⟩ := hM
  refine HO.call (want_none) rfl (ec en_65 rfl rfl) (toErr_hc hD Tryz.toErr hG_0 hG_1 hE_gvS hE_gvR hS ([65, 116, 111, 105] : Str) s1 0 0 r1_2 ho_1) ?_
  rintro v_1 h_2 ⟨hE_2, hS, hk⟩
  replace hK := hK.trans hk
  replace hG_0 := hG_0.kp hk
  replace hE_gvS := hE_gvS.kp hk
  replace hG_1 := hG_1.kp hk
  replace hE_gvR := hE_gvR.kp hk
  have hE_2 : ErrF true v_1 F_1 h_2 := ⟨hE_2⟩
  refine oA (.int .i64 r0_2) rfl rfl ?_
  refine oA (v_1) rfl rfl ?_
  refine HO.nil (thenQ_normal (?_))
  refine HW.ret (thenQ_ret (?_))
  refine ⟨.inr rfl, .tuple #[.int .i64 r0_2, v_1], res2 rfl (rt rfl) (rt rfl), ?_⟩
  exact ⟨F_1, r0_2, true, v_1, rfl, hK, hS, hG_0, hE_gvS, hG_1, hE_gvR, hE_2, hM⟩
 ·
  replace hM := hM.2 (nd_false c_1)
  refine HW.skip (thenQ_normal (?_))
  refine HW.seq ?_
  refine HW.region ?_
  refine oM (.int .i64 r0_2) rfl rfl ?_
  refine oA (.int .i64 r0_2) rfl rfl ?_
  refine oA (.nilIface) rfl rfl ?_
  refine HO.nil (thenQ_normal (?_))
  refine HW.ret (?_)
  refine ⟨.inr rfl, .tuple #[.int .i64 r0_2, .nilIface], res2 rfl (rt rfl) (rt rfl), ?_⟩
  exact ⟨F_1, r0_2, false, .nilIface, rfl, hK, hS, hG_0, hE_gvS, hG_1, hE_gvR, (ErrF.nil _ _), hM⟩

def tree_link_W (s1 : Str) (Q : T_api_Branch → Bool → Prop) : Prop :=
 ((s1.length : Int) < 4294967281) ∧ (strconv_Atoi_W ((cutS s1 ([62] : Str)).1) (fun r0_2 r1_2 => strconv_Atoi_W ((cutS s1 ([62] : Str)).2.1) (fun r0_3 r1_3 => (((cutS s1 ([62] : Str)).2.2) = true → ((!r1_2) = true → Q (r0_2, r0_3) (!r1_3)) ∧ ((!r1_2) = false → Q (r0_2, r0_3) false)) ∧ (((cutS s1 ([62] : Str)).2.2) = false → Q (r0_2, r0_3) false))))
set_option maxHeartbeats 40000000 in
set_option maxRecDepth 100000 in
theorem tree_link_walk {F : Fz} {fr : List Ow} {h0 : Heap} (s1 : Str) (gvS : Value) (gbS : Bool) (gvR : Value) (gbR : Bool) (gm : Int) (hS : St F (fr) h0) (hG_0 : RoF (Ow.box 0 53 #[gvS]) F h0) (hE_gvS : ErrF gbS gvS F h0) (hG_1 : RoF (Ow.box 1 53 #[gvR]) F h0) (hE_gvR : ErrF gbR gvR F h0) (hG_2 : RoF (Ow.box 2 3 #[.int .i64 gm]) F h0) (hD : DM.on = false) {Q : T_api_Branch → Bool → Prop} (hM : tree_link_W s1 Q) :
  HC Tryz.prog 44 #[.string (bs s1)] h0 fun u h' => ∃ (F' : Fz) (r0_1 : T_api_Branch) (r1_1 : Bool), u = .tuple #[.agg #[.int .i64 r0_1.1, .int .i64 r0_1.2], .bool r1_1] ∧ Kp F h0 F' h' ∧ St F' (fr) h' ∧ (RoF (Ow.box 0 53 #[gvS]) F' h') ∧ (ErrF gbS gvS F' h') ∧ (RoF (Ow.box 1 53 #[gvR]) F' h') ∧ (ErrF gbR gvR F' h') ∧ (RoF (Ow.box 2 3 #[.int .i64 gm]) F' h') ∧ Q r0_1 r1_1 := by
 unfold tree_link_W at hM
 have hK := Kp.refl F h0
 refine HC.of_HW (n := 39) Tryz.func44 rfl rfl (Nat.le_of_ble_eq_true rfl) ?_
 refine HW.seq ?_
 refine HW.region ?_
 refine HO.eff (want_none) rfl (st_alloc (c := #[.int .i64 0, .int .i64 0]) hS tz_46 rfl) ?_
 rintro _ h_1 ⟨b_1, rfl, hS, hk⟩
 replace hK := hK.trans hk
 replace hG_0 := hG_0.kp hk
 replace hE_gvS := hE_gvS.kp hk
 replace hG_1 := hG_1.kp hk
 replace hE_gvR := hE_gvR.kp hk
 replace hG_2 := hG_2.kp hk
 refine oA (.bool false) rfl rfl ?_
 refine HO.nil (thenQ_normal (?_))
 refine HW.seq ?_
 refine HW.region ?_
 refine oM (.string (bs s1)) rfl rfl ?_
 obtain ⟨ho_1, hM⟩ := hM
 refine HO.call (want_none) rfl (ec en_66 rfl rfl) (strCut_hc Tryz.cut hG_2 s1 ([62] : Str) ho_1) ?_
 rintro _ h_2 ⟨rfl, hEq⟩
 rw [hEq]
 refine oM (.tuple #[.string (bs ((cutS s1 ([62] : Str)).1)), .string (bs ((cutS s1 ([62] : Str)).2.1)), .bool ((cutS s1 ([62] : Str)).2.2)]) rfl rfl ?_
 refine oV (.string (bs ((cutS s1 ([62] : Str)).1))) (q_extract rfl rfl) rfl ?_
 refine oV (.string (bs ((cutS s1 ([62] : Str)).2.1))) (q_extract rfl rfl) rfl ?_
 refine oV (.bool ((cutS s1 ([62] : Str)).2.2)) (q_extract rfl rfl) rfl ?_
 refine oA (.string (bs ((cutS s1 ([62] : Str)).1))) rfl rfl ?_
 refine oA (.string (bs ((cutS s1 ([62] : Str)).2.1))) rfl rfl ?_
 refine oA (.bool ((cutS s1 ([62] : Str)).2.2)) rfl rfl ?_
 refine HO.nil (thenQ_normal (?_))
 refine HW.seq ?_
 refine HW.region ?_
 refine oM (.string (bs ((cutS s1 ([62] : Str)).1))) rfl rfl ?_
 refine HO.call (want_none) rfl (ec en_43 rfl rfl) (strconv_Atoi_walk (fr := (Ow.box b_1 46 #[.int .i64 0, .int .i64 0] :: fr)) ((cutS s1 ([62] : Str)).1) gvS gbS gvR gbR hS hG_0 hE_gvS hG_1 hE_gvR hD hM) ?_
 rintro _ h_3 ⟨F_1, r0_2, r1_2, vr1_1, rfl, hk, hS, _, _, _, _, hE_1, hM⟩
 replace hK := hK.trans hk
 replace hG_0 := hG_0.kp hk
 replace hE_gvS := hE_gvS.kp hk
 replace hG_1 := hG_1.kp hk
 replace hE_gvR := hE_gvR.kp hk
 replace hG_2 := hG_2.kp hk
 refine oM (.tuple #[.int .i64 r0_2, vr1_1]) rfl rfl ?_
 refine oV (.int .i64 r0_2) (q_extract rfl rfl) rfl ?_
 refine oV (vr1_1) (q_extract rfl rfl) rfl ?_
 refine oA (.int .i64 r0_2) rfl rfl ?_
 refine oA (vr1_1) rfl rfl ?_
 refine HO.nil (thenQ_normal (?_))
 refine HW.seq ?_
 refine HW.region ?_
 refine oM (.string (bs ((cutS s1 ([62] : Str)).2.1))) rfl rfl ?_
 refine HO.call (want_none) rfl (ec en_43 rfl rfl) (strconv_Atoi_walk (fr := (Ow.box b_1 46 #[.int .i64 0, .int .i64 0] :: fr)) ((cutS s1 ([62] : Str)).2.1) gvS gbS gvR gbR hS hG_0 hE_gvS hG_1 hE_gvR hD hM) ?_
 rintro _ h_4 ⟨F_2, r0_3, r1_3, vr1_2, rfl, hk, hS, _, _, _, _, hE_2, hM⟩
 replace hK := hK.trans hk
 replace hG_0 := hG_0.kp hk
 replace hE_gvS := hE_gvS.kp hk
 replace hG_1 := hG_1.kp hk
 replace hE_gvR := hE_gvR.kp hk
 replace hG_2 := hG_2.kp hk
 replace hE_1 := hE_1.kp hk
 refine oM (.tuple #[.int .i64 r0_3, vr1_2]) rfl rfl ?_
 refine oV (.int .i64 r0_3) (q_extract rfl rfl) rfl ?_
 refine oV (vr1_2) (q_extract rfl rfl) rfl ?_
 refine oA (.int .i64 r0_3) rfl rfl ?_
 refine oA (vr1_2) rfl rfl ?_
 refine HO.nil (thenQ_normal (?_))
 refine HW.seq ?_
 refine HW.regionA 14 mixed (fun h => (ErrV r1_2 vr1_1) ∧ (ErrV r1_3 vr1_2)) [] (by kernel_rfl) ?_
 refine HA.val (k := 0) (v := .int .i64 r0_2) rfl rfl (by kernel_rfl) (by kernel_rfl) (want_none) rfl (fun _ ⟨hE_1, hE_2⟩ => q_move rfl) ?_
 refine HA.val (k := 1) (v := .int .i64 r0_3) rfl rfl (by kernel_rfl) (by kernel_rfl) (want_none) rfl (fun _ ⟨hE_1, hE_2⟩ => q_move rfl) ?_
 refine HA.val (k := 2) (v := .agg #[.int .i64 r0_2, .int .i64 r0_3]) rfl rfl (by kernel_rfl) (by kernel_rfl) (want_none) rfl (fun _ ⟨hE_1, hE_2⟩ => q_build tp_46 rfl) ?_
 refine HA.val (k := 3) (v := .bool ((cutS s1 ([62] : Str)).2.2)) rfl rfl (by kernel_rfl) (by kernel_rfl) (want_none) rfl (fun _ ⟨hE_1, hE_2⟩ => q_move rfl) ?_
 refine HA.val (k := 4) (v := .bool ((cutS s1 ([62] : Str)).2.2)) rfl rfl (by kernel_rfl) (by kernel_rfl) (want_none) rfl (fun _ ⟨hE_1, hE_2⟩ => q_move rfl) ?_
 rcases Bool.eq_false_or_eq_true ((cutS s1 ([62] : Str)).2.2) with c_1 | c_1
 ·
  replace hM := hM.1 c_1
  refine HA.val (k := 5) (v := vr1_1) rfl rfl (by kernel_rfl) (by kernel_rfl) (want_by rfl rfl c_1) rfl (fun _ ⟨hE_1, hE_2⟩ => q_move rfl) ?_
  refine HA.val (k := 6) (v := .bool (!r1_2)) rfl rfl (by kernel_rfl) (by kernel_rfl) (want_by rfl rfl c_1) rfl (fun _ ⟨hE_1, hE_2⟩ => (q_ifNil (op := .eql) (b := r1_2) (by simp) Tryz.underlying53 hE_1 rfl)) ?_
  refine HA.val (k := 7) (v := .bool (!r1_2)) rfl rfl (by kernel_rfl) (by kernel_rfl) (want_none) rfl (fun _ ⟨hE_1, hE_2⟩ => q_pickK true rfl c_1 rfl) ?_
  refine HA.val (k := 8) (v := .bool (!r1_2)) rfl rfl (by kernel_rfl) (by kernel_rfl) (want_none) rfl (fun _ ⟨hE_1, hE_2⟩ => q_move rfl) ?_
  rcases Bool.eq_false_or_eq_true (!r1_2) with c_2 | c_2
  ·
   replace hM := hM.1 c_2
   refine HA.val (k := 9) (v := vr1_2) rfl rfl (by kernel_rfl) (by kernel_rfl) (want_by rfl rfl c_2) rfl (fun _ ⟨hE_1, hE_2⟩ => q_move rfl) ?_
   refine HA.val (k := 10) (v := .bool (!r1_3)) rfl rfl (by kernel_rfl) (by kernel_rfl) (want_by rfl rfl c_2) rfl (fun _ ⟨hE_1, hE_2⟩ => (q_ifNil (op := .eql) (b := r1_3) (by simp) Tryz.underlying53 hE_2 rfl)) ?_
   refine HA.val (k := 11) (v := .bool (!r1_3)) rfl rfl (by kernel_rfl) (by kernel_rfl) (want_none) rfl (fun _ ⟨hE_1, hE_2⟩ => q_pickK true rfl c_2 rfl) ?_
   refine HA.one (k := 12) ⟨⟨hE_1.is, hE_2.is⟩, (Go.Wk.at_nil _ _)⟩ (by kernel_rfl) ?_
   refine HS.sto rfl (want_none) rfl (st_storeAgg (c' := #[.int .i64 r0_2, .int .i64 r0_3]) hS (i := 0) rfl ta_46 rfl rfl rfl (by simp [Value.oneCell']) (Nat.le_of_ble_eq_true rfl) rfl) ?_
   rintro h_5 ⟨hS, hk⟩
   replace hS : St F_2 (Ow.box b_1 46 #[.int .i64 r0_2, .int .i64 r0_3] :: fr) h_5 := hS
   replace hK := hK.trans hk
   replace hG_0 := hG_0.kp hk
   replace hE_gvS := hE_gvS.kp hk
   replace hG_1 := hG_1.kp hk
   replace hE_gvR := hE_gvR.kp hk
   replace hG_2 := hG_2.kp hk
   replace hE_1 := hE_1.kp hk
   replace hE_2 := hE_2.kp hk
   refine HA.val (k := 13) (v := .bool (!r1_3)) rfl rfl (by kernel_rfl) (by kernel_rfl) (want_none) rfl (fun _ ⟨hE_1, hE_2⟩ => q_assign rfl) ?_
   refine HA.nil ⟨⟨hE_1.is, hE_2.is⟩, (Go.Wk.at_nil _ _)⟩ (by kernel_rfl) (thenQ_normal (?_))
   refine HW.ret (?_)
   refine ⟨.inr rfl, .tuple #[.agg #[.int .i64 r0_2, .int .i64 r0_3], .bool (!r1_3)], res2 rfl (rca (cs := [.int .i64 r0_2, .int .i64 r0_3]) ta_46 rfl rfl (Blk.cells (k := 2) (hS.box 0 rfl) rfl)) (rt rfl), ?_⟩
   replace hS : St F_2 (fr) h_5 := hS.perm2 [] 1 rfl rfl
   exact ⟨F_2, (r0_2, r0_3), !r1_3, rfl, hK, hS, hG_0, hE_gvS, hG_1, hE_gvR, hG_2, hM⟩
  ·
   replace hM := hM.2 c_2
   refine HA.past (k := 9) rfl rfl (by kernel_rfl) (by kernel_rfl) (past_by rfl rfl c_2) rfl ?_
   refine HA.past (k := 10) rfl rfl (by kernel_rfl) (by kernel_rfl) (past_by rfl rfl c_2) rfl ?_
   refine HA.val (k := 11) (v := .bool false) rfl rfl (by kernel_rfl) (by kernel_rfl) (want_none) rfl (fun _ ⟨hE_1, hE_2⟩ => q_pickK false rfl c_2 rfl) ?_
   refine HA.one (k := 12) ⟨⟨hE_1.is, hE_2.is⟩, (Go.Wk.at_nil _ _)⟩ (by kernel_rfl) ?_
   refine HS.sto rfl (want_none) rfl (st_storeAgg (c' := #[.int .i64 r0_2, .int .i64 r0_3]) hS (i := 0) rfl ta_46 rfl rfl rfl (by simp [Value.oneCell']) (Nat.le_of_ble_eq_true rfl) rfl) ?_
   rintro h_6 ⟨hS, hk⟩
   replace hS : St F_2 (Ow.box b_1 46 #[.int .i64 r0_2, .int .i64 r0_3] :: fr) h_6 := hS
   replace hK := hK.trans hk
   replace hG_0 := hG_0.kp hk
   replace hE_gvS := hE_gvS.kp hk
   replace hG_1 := hG_1.kp hk
   replace hE_gvR := hE_gvR.kp hk
   replace hG_2 := hG_2.kp hk
   replace hE_1 := hE_1.kp hk
   replace hE_2 := hE_2.kp hk
   refine HA.val (k := 13) (v := .bool false) rfl rfl (by kernel_rfl) (by kernel_rfl) (want_none) rfl (fun _ ⟨hE_1, hE_2⟩ => q_assign rfl) ?_
   refine HA.nil ⟨⟨hE_1.is, hE_2.is⟩, (Go.Wk.at_nil _ _)⟩ (by kernel_rfl) (thenQ_normal (?_))
   refine HW.ret (?_)
   refine ⟨.inr rfl, .tuple #[.agg #[.int .i64 r0_2, .int .i64 r0_3], .bool false], res2 rfl (rca (cs := [.int .i64 r0_2, .int .i64 r0_3]) ta_46 rfl rfl (Blk.cells (k := 2) (hS.box 0 rfl) rfl)) (rt rfl), ?_⟩
   replace hS : St F_2 (fr) h_6 := hS.perm2 [] 1 rfl rfl
   exact ⟨F_2, (r0_2, r0_3), false, rfl, hK, hS, hG_0, hE_gvS, hG_1, hE_gvR, hG_2, hM⟩
 ·
  replace hM := hM.2 c_1
  refine HA.past (k := 5) rfl rfl (by kernel_rfl) (by kernel_rfl) (past_by rfl rfl c_1) rfl ?_
  refine HA.past (k := 6) rfl rfl (by kernel_rfl) (by kernel_rfl) (past_by rfl rfl c_1) rfl ?_
  refine HA.val (k := 7) (v := .bool false) rfl rfl (by kernel_rfl) (by kernel_rfl) (want_none) rfl (fun _ ⟨hE_1, hE_2⟩ => q_pickK false rfl c_1 rfl) ?_
  refine HA.val (k := 8) (v := .bool false) rfl rfl (by kernel_rfl) (by kernel_rfl) (want_none) rfl (fun _ ⟨hE_1, hE_2⟩ => q_move rfl) ?_
  refine HA.past (k := 9) rfl rfl (by kernel_rfl) (by kernel_rfl) (past_some rfl rfl) rfl ?_
  refine HA.past (k := 10) rfl rfl (by kernel_rfl) (by kernel_rfl) (past_some rfl rfl) rfl ?_
  refine HA.val (k := 11) (v := .bool false) rfl rfl (by kernel_rfl) (by kernel_rfl) (want_none) rfl (fun _ ⟨hE_1, hE_2⟩ => q_pick rfl rfl) ?_
  refine HA.one (k := 12) ⟨⟨hE_1.is, hE_2.is⟩, (Go.Wk.at_nil _ _)⟩ (by kernel_rfl) ?_
  refine HS.sto rfl (want_none) rfl (st_storeAgg (c' := #[.int .i64 r0_2, .int .i64 r0_3]) hS (i := 0) rfl ta_46 rfl rfl rfl (by simp [Value.oneCell']) (Nat.le_of_ble_eq_true rfl) rfl) ?_
  rintro h_7 ⟨hS, hk⟩
  replace hS : St F_2 (Ow.box b_1 46 #[.int .i64 r0_2, .int .i64 r0_3] :: fr) h_7 := hS
  replace hK := hK.trans hk
  replace hG_0 := hG_0.kp hk
  replace hE_gvS := hE_gvS.kp hk
  replace hG_1 := hG_1.kp hk
  replace hE_gvR := hE_gvR.kp hk
  replace hG_2 := hG_2.kp hk
  replace hE_1 := hE_1.kp hk
  replace hE_2 := hE_2.kp hk
  refine HA.val (k := 13) (v := .bool false) rfl rfl (by kernel_rfl) (by kernel_rfl) (want_none) rfl (fun _ ⟨hE_1, hE_2⟩ => q_assign rfl) ?_
  refine HA.nil ⟨⟨hE_1.is, hE_2.is⟩, (Go.Wk.at_nil _ _)⟩ (by kernel_rfl) (thenQ_normal (?_))
  refine HW.ret (?_)
  refine ⟨.inr rfl, .tuple #[.agg #[.int .i64 r0_2, .int .i64 r0_3], .bool false], res2 rfl (rca (cs := [.int .i64 r0_2, .int .i64 r0_3]) ta_46 rfl rfl (Blk.cells (k := 2) (hS.box 0 rfl) rfl)) (rt rfl), ?_⟩
  replace hS : St F_2 (fr) h_7 := hS.perm2 [] 1 rfl rfl
  exact ⟨F_2, (r0_2, r0_3), false, rfl, hK, hS, hG_0, hE_gvS, hG_1, hE_gvR, hG_2, hM⟩

def cmp_isNaN_int_W (x : Int) (Q : Bool → Prop) : Prop :=
 Q (!decide (x = x))
set_option maxHeartbeats 40000000 in
set_option maxRecDepth 100000 in
theorem cmp_isNaN_int_walk {F : Fz} {fr : List Ow} {h0 : Heap} (x : Int) (hS : St F (fr) h0)  {Q : Bool → Prop} (hM : cmp_isNaN_int_W x Q) :
  HC Tryz.prog 99 #[.int .i64 x] h0 fun u h' => ∃ (F' : Fz) (r_1 : Bool), u = .bool r_1 ∧ Kp F h0 F' h' ∧ St F' (fr) h' ∧ Q r_1 := by
 unfold cmp_isNaN_int_W at hM
 have hK := Kp.refl F h0
 refine HC.of_HW (n := 6) Tryz.func99 rfl rfl (Nat.le_of_ble_eq_true rfl) ?_
 refine HW.seq ?_
 refine HW.region ?_
 refine oA (.bool false) rfl rfl ?_
 refine HO.nil (thenQ_normal (?_))
 refine HW.seq ?_
 refine HW.region ?_
 refine oM (.int .i64 x) rfl rfl ?_
 refine oM (.int .i64 x) rfl rfl ?_
 refine oV (.bool (!decide (x = x))) (q_neq rfl rfl) rfl ?_
 refine oA (.bool (!decide (x = x))) rfl rfl ?_
 refine HO.nil (thenQ_normal (?_))
 refine HW.ret (?_)
 refine ⟨.inr rfl, .bool (!decide (x = x)), res1 rfl (rt rfl), ?_⟩
 exact ⟨F, !decide (x = x), rfl, hK, hS, hM⟩

def cmp_Compare_int_W (x : Int) (y : Int) (Q : Int → Prop) : Prop :=
 cmp_isNaN_int_W x (fun r_2 => cmp_isNaN_int_W y (fun r_3 => (r_2 = true → (r_3 = true → Q 0) ∧ (r_3 = false → Q (-1))) ∧ (r_2 = false → (r_3 = true → Q 1) ∧ (r_3 = false → (x < y → Q (-1)) ∧ (¬ (x < y) → (y < x → Q 1) ∧ (¬ (y < x) → Q 0))))))
set_option maxHeartbeats 40000000 in
set_option maxRecDepth 100000 in
theorem cmp_Compare_int_walk {F : Fz} {fr : List Ow} {h0 : Heap} (x : Int) (y : Int) (hS : St F (fr) h0)  {Q : Int → Prop} (hM : cmp_Compare_int_W x y Q) :
  HC Tryz.prog 82 #[.int .i64 x, .int .i64 y] h0 fun u h' => ∃ (F' : Fz) (r_1 : Int), u = .int .i64 r_1 ∧ Kp F h0 F' h' ∧ St F' (fr) h' ∧ Q r_1 := by
 unfold cmp_Compare_int_W at hM
 have hK := Kp.refl F h0
 refine HC.of_HW (n := 20) Tryz.func82 rfl rfl (Nat.le_of_ble_eq_true rfl) ?_
 refine HW.seq ?_
 refine HW.region ?_
 refine oA (.int .i64 0) rfl rfl ?_
 refine HO.nil (thenQ_normal (?_))
 refine HW.seq ?_
 refine HW.region ?_
 refine oM (.int .i64 x) rfl rfl ?_
 refine HO.call (want_none) rfl (ec en_99 rfl rfl) (cmp_isNaN_int_walk (fr := (fr)) x hS hM) ?_
 rintro _ h_1 ⟨F_1, r_2, rfl, hk, hS, hM⟩
 replace hK := hK.trans hk
 refine oA (.bool r_2) rfl rfl ?_
 refine HO.nil (thenQ_normal (?_))
 refine HW.seq ?_
 refine HW.region ?_
 refine oM (.int .i64 y) rfl rfl ?_
 refine HO.call (want_none) rfl (ec en_99 rfl rfl) (cmp_isNaN_int_walk (fr := (fr)) y hS hM) ?_
 rintro _ h_2 ⟨F_2, r_3, rfl, hk, hS, hM⟩
 replace hK := hK.trans hk
 refine oA (.bool r_3) rfl rfl ?_
 refine HO.nil (thenQ_normal (?_))
 refine HW.seq ?_
 refine HW.seq ?_
 refine HW.region ?_
 refine oM (.bool r_2) rfl rfl ?_
 refine HO.nil (thenQ_normal (?_))
 refine HW.cond r_2 rfl (fun c_1 => ?_) (fun c_1 => ?_)
 ·
  replace hM := hM.1 c_1
  refine HW.seq ?_
  refine HW.seq ?_
  refine HW.region ?_
  refine oM (.bool r_3) rfl rfl ?_
  refine HO.nil (thenQ_normal (?_))
  refine HW.cond r_3 rfl (fun c_2 => ?_) (fun c_2 => ?_)
  ·
   replace hM := hM.1 c_2
   refine HW.seq ?_
   refine HW.region ?_
   refine oA (.int .i64 0) rfl rfl ?_
   refine HO.nil (thenQ_normal (?_))
   refine HW.ret (thenQ_ret (thenQ_ret (?_)))
   refine ⟨.inr rfl, .int .i64 0, res1 rfl (rt rfl), ?_⟩
   exact ⟨F_2, 0, rfl, hK, hS, hM⟩
  ·
   replace hM := hM.2 c_2
   refine HW.skip (thenQ_normal (?_))
   refine HW.seq ?_
   refine HW.region ?_
   refine oA (.int .i64 (-1)) rfl rfl ?_
   refine HO.nil (thenQ_normal (?_))
   refine HW.ret (thenQ_ret (?_))
   refine ⟨.inr rfl, .int .i64 (-1), res1 rfl (rt rfl), ?_⟩
   exact ⟨F_2, (-1), rfl, hK, hS, hM⟩
 ·
  replace hM := hM.2 c_1
  refine HW.skip (thenQ_normal (?_))
  refine HW.seq ?_
  refine HW.seq ?_
  refine HW.region ?_
  refine oM (.bool r_3) rfl rfl ?_
  refine HO.nil (thenQ_normal (?_))
  refine HW.cond r_3 rfl (fun c_3 => ?_) (fun c_3 => ?_)
  ·
   replace hM := hM.1 c_3
   refine HW.seq ?_
   refine HW.region ?_
   refine oA (.int .i64 1) rfl rfl ?_
   refine HO.nil (thenQ_normal (?_))
   refine HW.ret (thenQ_ret (?_))
   refine ⟨.inr rfl, .int .i64 1, res1 rfl (rt rfl), ?_⟩
   exact ⟨F_2, 1, rfl, hK, hS, hM⟩
  ·
   replace hM := hM.2 c_3
   refine HW.skip (thenQ_normal (?_))
   refine HW.seq ?_
   refine HW.seq ?_
   refine HW.region ?_
   refine oM (.int .i64 x) rfl rfl ?_
   refine oM (.int .i64 y) rfl rfl ?_
   refine oV (.bool (decide (x < y))) (q_lss rfl rfl) rfl ?_
   refine HO.nil (thenQ_normal (?_))
   refine HW.cond (decide (x < y)) rfl (fun c_4 => ?_) (fun c_4 => ?_)
   ·
    replace hM := hM.1 (of_decide_eq_true c_4)
    refine HW.seq ?_
    refine HW.region ?_
    refine oA (.int .i64 (-1)) rfl rfl ?_
    refine HO.nil (thenQ_normal (?_))
    refine HW.ret (thenQ_ret (?_))
    refine ⟨.inr rfl, .int .i64 (-1), res1 rfl (rt rfl), ?_⟩
    exact ⟨F_2, (-1), rfl, hK, hS, hM⟩
   ·
    replace hM := hM.2 (of_decide_eq_false c_4)
    refine HW.skip (thenQ_normal (?_))
    refine HW.seq ?_
    refine HW.seq ?_
    refine HW.region ?_
    refine oM (.int .i64 x) rfl rfl ?_
    refine oM (.int .i64 y) rfl rfl ?_
    refine oV (.bool (decide (y < x))) (q_gtr rfl rfl) rfl ?_
    refine HO.nil (thenQ_normal (?_))
    refine HW.cond (decide (y < x)) rfl (fun c_5 => ?_) (fun c_5 => ?_)
    ·
     replace hM := hM.1 (of_decide_eq_true c_5)
     refine HW.seq ?_
     refine HW.region ?_
     refine oA (.int .i64 1) rfl rfl ?_
     refine HO.nil (thenQ_normal (?_))
     refine HW.ret (thenQ_ret (?_))
     refine ⟨.inr rfl, .int .i64 1, res1 rfl (rt rfl), ?_⟩
     exact ⟨F_2, 1, rfl, hK, hS, hM⟩
    ·
     replace hM := hM.2 (of_decide_eq_false c_5)
     refine HW.skip (thenQ_normal (?_))
     refine HW.seq ?_
     refine HW.region ?_
     refine oA (.int .i64 0) rfl rfl ?_
     refine HO.nil (thenQ_normal (?_))
     refine HW.ret (?_)
     refine ⟨.inr rfl, .int .i64 0, res1 rfl (rt rfl), ?_⟩
     exact ⟨F_2, 0, rfl, hK, hS, hM⟩

def cmp_Or_int_l1 (vals : List Int) (Q : Int → Prop) (K_1 : Int → Prop) (n_1 : Int) : Prop :=
 (n_1 < (vals.length : Int) → ((0 : Int) ≤ n_1 ∧ n_1 < (vals.length : Int)) ∧ ((¬ ((gi vals n_1) = 0) → Q (gi vals n_1)) ∧ ((gi vals n_1) = 0 → (I64 (n_1 + 1)) ∧ (K_1 (n_1 + 1))))) ∧ (¬ (n_1 < (vals.length : Int)) → Q 0)
def cmp_Or_int_W (vals : List Int) (Q : Int → Prop) : Prop :=
 loopW (fun (K_1 : Int → Prop) (s : Int) => cmp_Or_int_l1 vals Q K_1 s) 0
set_option maxHeartbeats 40000000 in
set_option maxRecDepth 100000 in
theorem cmp_Or_int_walk {F : Fz} {fr : List Ow} {h0 : Heap} (vals : List Int) (vvals : Value) (hS : St F (fr) h0) (hL_vals : SliceF F h0 1 encI vvals vals) {Q : Int → Prop} (hM : cmp_Or_int_W vals Q) :
  HC Tryz.prog 81 #[vvals] h0 fun u h' => ∃ (F' : Fz) (r_1 : Int), u = .int .i64 r_1 ∧ Kp F h0 F' h' ∧ St F' (fr) h' ∧ (SliceF F' h' 1 encI vvals vals) ∧ Q r_1 := by
 unfold cmp_Or_int_W at hM
 have hK := Kp.refl F h0
 refine HC.of_HW (n := 18) Tryz.func81 rfl rfl (Nat.le_of_ble_eq_true rfl) ?_
 refine HW.seq ?_
 refine HW.region ?_
 refine oA (.int .i64 0) rfl rfl ?_
 refine HO.nil (thenQ_normal (?_))
 refine HW.seq ?_
 refine HW.region ?_
 refine oA (.int .i64 0) rfl rfl ?_
 refine HO.nil (thenQ_normal (?_))
 refine HW.seq ?_
 refine HW.seq ?_
 refine HW.region ?_
 refine oM (vvals) rfl rfl ?_
 refine oV (.int .i64 (vals.length : Int)) (q_len ts_36 (shp hL_vals.is) rfl rfl) rfl ?_
 refine oM (.int .i64 0) rfl rfl ?_
 refine HO.nil (thenQ_normal (?_))
 refine HW.block ?_
 obtain ⟨I_1, m_1, hI_1, hR_1⟩ := hM
 refine HW.loop (S := Int) (fun n_1 f h => ∃ (F' : Fz), f 2 = .int .i64 0 ∧ f 3 = .int .i64 0 ∧ f 6 = vvals ∧ f 7 = .int .i64 (vals.length : Int) ∧ f 8 = .int .i64 n_1 ∧ Kp F h0 F' h ∧ St F' (fr) h ∧ (SliceF F' h 1 encI vvals vals) ∧ I_1 n_1) m_1 0 ⟨F, rfl, rfl, rfl, rfl, rfl, hK, hS, hL_vals, hI_1⟩ ?_
 rintro n_1 f_1 h_1 ⟨F_1, e2, e3, e6, e7, e8, hK, hS, hL_vals, hI0⟩
 obtain ⟨K_1, hKe_1⟩ : ∃ K : Int → Prop, K = fun n_1' => I_1 n_1' ∧ m_1 n_1' < m_1 n_1 := ⟨_, rfl⟩
 have hM : cmp_Or_int_l1 vals Q K_1 n_1 := by rw [hKe_1]; exact hR_1 n_1 hI0
 unfold cmp_Or_int_l1 at hM
 refine HW.fr [(2, .int .i64 0), (3, .int .i64 0), (6, vvals), (7, .int .i64 (vals.length : Int)), (8, .int .i64 n_1)] ⟨e2, e3, e6, e7, e8, trivial⟩ ?_
 refine HW.seq ?_
 refine HW.region ?_
 refine oV (.bool (decide (n_1 < (vals.length : Int)))) (q_lss rfl rfl) rfl ?_
 refine HO.nil (thenQ_normal (?_))
 refine HW.seq ?_
 refine HW.cond (decide (n_1 < (vals.length : Int))) rfl (fun c_1 => ?_) (fun c_1 => ?_)
 ·
  replace hM := hM.1 (of_decide_eq_true c_1)
  refine HW.skip (thenQ_normal (?_))
  refine HW.seq ?_
  refine HW.block ?_
  refine HW.seq ?_
  refine HW.region ?_
  obtain ⟨ho_1, hM⟩ := hM
  refine oV (elemPtr 1 vvals (n_1).toNat) (q_idx ts_36 hL_vals.is rfl rfl ho_1) rfl ?_
  refine oV (.int .i64 (gi vals n_1)) (q_ldElem to_3 hL_vals.is rfl ho_1 rfl) rfl ?_
  refine oA (.int .i64 (gi vals n_1)) rfl rfl ?_
  refine HO.nil (thenQ_normal (?_))
  refine HW.seq ?_
  refine HW.region ?_
  refine oM (.int .i64 (gi vals n_1)) rfl rfl ?_
  refine oM (.int .i64 0) rfl rfl ?_
  refine oV (.bool (!decide ((gi vals n_1) = 0))) (q_neq rfl rfl) rfl ?_
  refine HO.nil (thenQ_normal (?_))
  refine HW.cond (!decide ((gi vals n_1) = 0)) rfl (fun c_2 => ?_) (fun c_2 => ?_)
  ·
   replace hM := hM.1 (nd_true c_2)
   refine HW.seq ?_
   refine HW.region ?_
   refine oM (.int .i64 (gi vals n_1)) rfl rfl ?_
   refine oA (.int .i64 (gi vals n_1)) rfl rfl ?_
   refine HO.nil (thenQ_normal (?_))
   refine HW.ret (blockQ_ret (thenQ_ret (thenQ_ret (blockQ_ret (thenQ_ret (?_))))))
   refine ⟨.inr rfl, .int .i64 (gi vals n_1), res1 rfl (rt rfl), ?_⟩
   exact ⟨F_1, (gi vals n_1), rfl, hK, hS, hL_vals, hM⟩
  ·
   replace hM := hM.2 (nd_false c_2)
   refine HW.skip (blockQ_normal (thenQ_normal (?_)))
   refine HW.region ?_
   obtain ⟨ho_2, hM⟩ := hM
   refine oV (.int .i64 (n_1 + 1)) (q_addN _ rfl rfl rfl ho_2.1 ho_2.2) rfl ?_
   refine oM (.int .i64 (n_1 + 1)) rfl rfl ?_
   refine HO.nil (thenQ_normal (?_))
   rw [hKe_1] at hM
   exact ⟨n_1 + 1, ⟨F_1, rfl, rfl, rfl, rfl, rfl, hK, hS, hL_vals, hM.1⟩, hM.2⟩
 ·
  replace hM := hM.2 (of_decide_eq_false c_1)
  refine HW.exit (thenQ_exit (thenQ_exit (blockQ_exit (thenQ_normal (?_)))))
  refine HW.seq ?_
  refine HW.region ?_
  refine oM (.int .i64 0) rfl rfl ?_
  refine oA (.int .i64 0) rfl rfl ?_
  refine HO.nil (thenQ_normal (?_))
  refine HW.ret (?_)
  refine ⟨.inr rfl, .int .i64 0, res1 rfl (rt rfl), ?_⟩
  exact ⟨F_1, 0, rfl, hK, hS, hL_vals, hM⟩

def tree_order_W (a : T_api_Branch) (b : T_api_Branch) (Q : Int → Prop) : Prop :=
 cmp_Compare_int_W a.1 b.1 (fun r_2 => cmp_Compare_int_W a.2 b.2 (fun r_3 => cmp_Or_int_W ([r_2, r_3] : List Int) (fun r_4 => Q r_4)))
set_option maxHeartbeats 40000000 in
set_option maxRecDepth 100000 in
theorem tree_order_walk {F : Fz} {fr : List Ow} {h0 : Heap} (a : T_api_Branch) (b : T_api_Branch) (hS : St F (fr) h0)  {Q : Int → Prop} (hM : tree_order_W a b Q) :
  HC Tryz.prog 62 #[.agg #[.int .i64 a.1, .int .i64 a.2], .agg #[.int .i64 b.1, .int .i64 b.2]] h0 fun u h' => ∃ (F' : Fz) (r_1 : Int), u = .int .i64 r_1 ∧ Kp F h0 F' h' ∧ St F' (fr) h' ∧ Q r_1 := by
 unfold tree_order_W at hM
 have hK := Kp.refl F h0
 refine HC.of_HW (n := 17) Tryz.func62 rfl rfl (Nat.le_of_ble_eq_true rfl) ?_
 refine HW.seq ?_
 refine HW.region ?_
 refine HO.eff (want_none) rfl (st_box (c := #[.int .i64 a.1, .int .i64 a.2]) (k' := 2) hS rfl rfl) ?_
 rintro _ h_1 ⟨b_1, rfl, hS, hk⟩
 replace hK := hK.trans hk
 refine HO.eff (want_none) rfl (st_box (c := #[.int .i64 b.1, .int .i64 b.2]) (k' := 2) hS rfl rfl) ?_
 rintro _ h_2 ⟨b_2, rfl, hS, hk⟩
 replace hK := hK.trans hk
 refine oA (.int .i64 0) rfl rfl ?_
 refine HO.nil (thenQ_normal (?_))
 refine HW.seq ?_
 refine HW.regionA 13 mixed (fun h => (Blk h b_2 (.cells #[.int .i64 b.1, .int .i64 b.2] 46 (0, 0))) ∧ (Blk h b_1 (.cells #[.int .i64 a.1, .int .i64 a.2] 46 (0, 0)))) [] (by kernel_rfl) ?_
 refine HA.val (k := 0) (v := .pointer (some ⟨b_1, 0, none⟩)) rfl rfl (by kernel_rfl) (by kernel_rfl) (want_none) rfl (fun _ ⟨c202, c201⟩ => q_fieldAddr fa_46_0 rfl rfl) ?_
 refine HA.val (k := 1) (v := .int .i64 a.1) rfl rfl (by kernel_rfl) (by kernel_rfl) (want_none) rfl (fun _ ⟨c202, c201⟩ => q_load to_3 rfl (Blk.cell c201 rfl)) ?_
 refine HA.val (k := 2) (v := .pointer (some ⟨b_2, 0, none⟩)) rfl rfl (by kernel_rfl) (by kernel_rfl) (want_none) rfl (fun _ ⟨c202, c201⟩ => q_fieldAddr fa_46_0 rfl rfl) ?_
 refine HA.val (k := 3) (v := .int .i64 b.1) rfl rfl (by kernel_rfl) (by kernel_rfl) (want_none) rfl (fun _ ⟨c202, c201⟩ => q_load to_3 rfl (Blk.cell c202 rfl)) ?_
 refine HA.val (k := 5) (v := .pointer (some ⟨b_1, 1, none⟩)) rfl rfl (by kernel_rfl) (by kernel_rfl) (want_none) rfl (fun _ ⟨c202, c201⟩ => q_fieldAddr fa_46_1 rfl rfl) ?_
 refine HA.val (k := 6) (v := .int .i64 a.2) rfl rfl (by kernel_rfl) (by kernel_rfl) (want_none) rfl (fun _ ⟨c202, c201⟩ => q_load to_3 rfl (Blk.cell c201 rfl)) ?_
 refine HA.val (k := 7) (v := .pointer (some ⟨b_2, 1, none⟩)) rfl rfl (by kernel_rfl) (by kernel_rfl) (want_none) rfl (fun _ ⟨c202, c201⟩ => q_fieldAddr fa_46_1 rfl rfl) ?_
 refine HA.val (k := 8) (v := .int .i64 b.2) rfl rfl (by kernel_rfl) (by kernel_rfl) (want_none) rfl (fun _ ⟨c202, c201⟩ => q_load to_3 rfl (Blk.cell c202 rfl)) ?_
 refine HA.one (k := 4) ⟨⟨(hS.box 0 rfl), (hS.box 1 rfl)⟩, (Go.Wk.at_nil _ _)⟩ (by kernel_rfl) ?_
 refine HS.call rfl (want_none) rfl (ec en_82 rfl rfl) (cmp_Compare_int_walk (fr := (Ow.box b_2 46 #[.int .i64 b.1, .int .i64 b.2] :: Ow.box b_1 46 #[.int .i64 a.1, .int .i64 a.2] :: fr)) a.1 b.1 hS hM) ?_
 rintro _ h_3 ⟨F_1, r_2, rfl, hk, hS, hM⟩
 replace hK := hK.trans hk
 refine HA.one (k := 9) ⟨⟨(hS.box 0 rfl), (hS.box 1 rfl)⟩, (Go.Wk.at_nil _ _)⟩ (by kernel_rfl) ?_
 refine HS.call rfl (want_none) rfl (ec en_82 rfl rfl) (cmp_Compare_int_walk (fr := (Ow.box b_2 46 #[.int .i64 b.1, .int .i64 b.2] :: Ow.box b_1 46 #[.int .i64 a.1, .int .i64 a.2] :: fr)) a.2 b.2 hS hM) ?_
 rintro _ h_4 ⟨F_2, r_3, rfl, hk, hS, hM⟩
 replace hK := hK.trans hk
 refine HA.one (k := 10) ⟨⟨(hS.box 0 rfl), (hS.box 1 rfl)⟩, (Go.Wk.at_nil _ _)⟩ (by kernel_rfl) ?_
 refine HS.eff rfl (want_none) rfl (st_lit (enc := encI) (cells := #[.int .i64 r_2, .int .i64 r_3]) #[.int .i64 0, .int .i64 0] ([r_2, r_3] : List Int) hS tl_36 (by decide) (by decide) (by kernel_rfl) (by kernel_rfl) rfl (by intro x hx; rfl) rfl) ?_
 rintro _ h_5 ⟨b_3, rfl, hS, hk⟩
 replace hK := hK.trans hk
 refine HA.one (k := 11) ⟨⟨(hS.box 1 rfl), (hS.box 2 rfl)⟩, (Go.Wk.at_nil _ _)⟩ (by kernel_rfl) ?_
 have hZ_1 := hS
 have hkz_1 := (hS.freeze).2
 replace hS := hS.freeze.1
 have hL_1 : SliceF (fun bz_ => F_2 bz_ ∨ (Ow.own 3 1 encI (.slice (some ⟨b_3, 0, none⟩) 2 2) ([r_2, r_3] : List Int)).foot bz_) h_5 1 encI (.slice (some ⟨b_3, 0, none⟩) 2 2) ([r_2, r_3] : List Int) := ⟨(hZ_1.own 0 rfl).slice, fun _ b hb => .inr hb⟩
 refine HS.call rfl (want_none) rfl (ec en_81 rfl rfl) (cmp_Or_int_walk (fr := (Ow.box b_2 46 #[.int .i64 b.1, .int .i64 b.2] :: Ow.box b_1 46 #[.int .i64 a.1, .int .i64 a.2] :: fr)) ([r_2, r_3] : List Int) (.slice (some ⟨b_3, 0, none⟩) 2 2) hS hL_1 hM) ?_
 rintro _ h_6 ⟨F_3, r_4, rfl, hk, hS, _, hM⟩
 obtain ⟨hS, hk⟩ := hZ_1.back hk hS
 generalize (fun bz_ => F_3 bz_ ∧ ¬ (Ow.own 3 1 encI (.slice (some ⟨b_3, 0, none⟩) 2 2) ([r_2, r_3] : List Int)).foot bz_) = F_4 at hS hk
 replace hK := hK.trans hk
 refine HA.val (k := 12) (v := .int .i64 r_4) rfl rfl (by kernel_rfl) (by kernel_rfl) (want_none) rfl (fun _ ⟨c202, c201⟩ => q_assign rfl) ?_
 refine HA.nil ⟨⟨(hS.box 1 rfl), (hS.box 2 rfl)⟩, (Go.Wk.at_nil _ _)⟩ (by kernel_rfl) (thenQ_normal (?_))
 refine HW.ret (?_)
 refine ⟨.inr rfl, .int .i64 r_4, res1 rfl (rt rfl), ?_⟩
 replace hS : St F_4 (fr) h_6 := hS.perm2 [] 3 rfl rfl
 exact ⟨F_4, r_4, rfl, hK, hS, hM⟩

def tree_nexts_l1 (t_Links : List T_api_Branch) (Q : (List (Int × Value × List Int)) → Prop) (K_1 : (List (Int × Value × List Int)) → Int → Prop) (out_1 : List (Int × Value × List Int)) (n_1 : Int) : Prop :=
 (n_1 < (t_Links.length : Int) → ((0 : Int) ≤ n_1 ∧ n_1 < (t_Links.length : Int)) ∧ (((((bagAt out_1 ((gi t_Links n_1).1)).2).length + ([(gi t_Links n_1).2] : List Int).length) * 8 ≤ 140737488355328) ∧ (∀ v_1 : Value, ((I64 (n_1 + 1)) ∧ (K_1 (mset out_1 ((gi t_Links n_1).1) (v_1, ((bagAt out_1 ((gi t_Links n_1).1)).2) ++ ([(gi t_Links n_1).2] : List Int))) (n_1 + 1)))))) ∧ (¬ (n_1 < (t_Links.length : Int)) → Q out_1)
def tree_nexts_W (t_Root : Int) (t_Links : List T_api_Branch) (Q : (List (Int × Value × List Int)) → Prop) : Prop :=
 loopW (fun (K_1 : ((List (Int × Value × List Int)) × Int) → Prop) (s : (List (Int × Value × List Int)) × Int) => tree_nexts_l1 t_Links Q (fun out_1 n_1 => K_1 (out_1, n_1)) s.1 s.2) ([], 0)
set_option maxHeartbeats 40000000 in
set_option maxRecDepth 100000 in
theorem tree_nexts_walk {F : Fz} {fr : List Ow} {h0 : Heap} (t_Root : Int) (t_Links : List T_api_Branch) (vt_Links : Value) (hS : St F (fr) h0) (hL_t_Links : SliceF F h0 2 e_api_Branch vt_Links t_Links) {Q : (List (Int × Value × List Int)) → Prop} (hM : tree_nexts_W t_Root t_Links Q) :
  HC Tryz.prog 54 #[.agg #[.int .i64 t_Root, vt_Links]] h0 fun u h' => ∃ (F' : Fz) (r_2 : List (Int × Value × List Int)) (r_1 : Nat), u = .map (some r_1) ∧ Kp F h0 F' h' ∧ St F' (Ow.bag r_1 kI 3 1 encI r_2 none :: fr) h' ∧ (SliceF F' h' 2 e_api_Branch vt_Links t_Links) ∧ Q r_2 := by
 unfold tree_nexts_W at hM
 have hK := Kp.refl F h0
 refine HC.of_HW (n := 27) Tryz.func54 rfl rfl (Nat.le_of_ble_eq_true rfl) ?_
 refine HW.seq ?_
 refine HW.region ?_
 refine HO.eff (want_none) rfl (st_box (c := #[.int .i64 t_Root, vt_Links]) (k' := 2) hS rfl rfl) ?_
 rintro _ h_1 ⟨b_1, rfl, hS, hk⟩
 replace hK := hK.trans hk
 replace hL_t_Links := hL_t_Links.kp hk
 refine oA (.map none) rfl rfl ?_
 refine HO.nil (thenQ_normal (?_))
 refine HW.seq ?_
 refine HW.region ?_
 refine HO.eff (want_none) rfl (st_makeBag (ek := kI) (E := 3) (kk := 1) (enc := encI) hS) ?_
 rintro _ h_2 ⟨r_3, rfl, hS, hk⟩
 replace hK := hK.trans hk
 replace hL_t_Links := hL_t_Links.kp hk
 refine oA (.map (some r_3)) rfl rfl ?_
 refine HO.nil (thenQ_normal (?_))
 refine HW.seq ?_
 refine HW.seq ?_
 refine HW.region ?_
 refine oV (.pointer (some ⟨b_1, 1, none⟩)) (q_fieldAddr fa_24_1 rfl rfl) rfl ?_
 refine oV (vt_Links) (q_load to_22 rfl (Blk.cell (hS.box 1 rfl) rfl)) rfl ?_
 refine oV (.int .i64 (t_Links.length : Int)) (q_len ts_22 (shp hL_t_Links.is) rfl rfl) rfl ?_
 refine oM (.int .i64 0) rfl rfl ?_
 refine HO.nil (thenQ_normal (?_))
 refine HW.block ?_
 obtain ⟨I_1, m_1, hI_1, hR_1⟩ := hM
 replace hS : St F (Ow.bag r_3 kI 3 1 encI ([] : List (Int × Value × List Int)) none :: fr) h_2 := hS.perm2 [0] 2 rfl rfl
 refine HW.loop (S := (List (Int × Value × List Int)) × Int) (fun s f h => match s with | (out_1, n_1) => ∃ (F' : Fz), f 2 = .map none ∧ f 3 = .map (some r_3) ∧ f 8 = vt_Links ∧ f 9 = .int .i64 (t_Links.length : Int) ∧ f 10 = .int .i64 n_1 ∧ Kp F h0 F' h ∧ St F' (Ow.bag r_3 kI 3 1 encI out_1 none :: fr) h ∧ (SliceF F' h 2 e_api_Branch vt_Links t_Links) ∧ I_1 (out_1, n_1)) m_1 ([], 0) ⟨F, rfl, rfl, rfl, rfl, rfl, hK, hS, hL_t_Links, hI_1⟩ ?_
 rintro ⟨out_1, n_1⟩ f_1 h_3 ⟨F_1, e2, e3, e8, e9, e10, hK, hS, hL_t_Links, hI0⟩
 obtain ⟨K_1, hKe_1⟩ : ∃ K : (List (Int × Value × List Int)) → Int → Prop, K = fun out_1' n_1' => I_1 (out_1', n_1') ∧ m_1 (out_1', n_1') < m_1 (out_1, n_1) := ⟨_, rfl⟩
 have hM : tree_nexts_l1 t_Links Q K_1 out_1 n_1 := by rw [hKe_1]; exact hR_1 (out_1, n_1) hI0
 unfold tree_nexts_l1 at hM
 refine HW.fr [(2, .map none), (3, .map (some r_3)), (8, vt_Links), (9, .int .i64 (t_Links.length : Int)), (10, .int .i64 n_1)] ⟨e2, e3, e8, e9, e10, trivial⟩ ?_
 refine HW.seq ?_
 refine HW.region ?_
 refine oV (.bool (decide (n_1 < (t_Links.length : Int)))) (q_lss rfl rfl) rfl ?_
 refine HO.nil (thenQ_normal (?_))
 refine HW.seq ?_
 refine HW.cond (decide (n_1 < (t_Links.length : Int))) rfl (fun c_1 => ?_) (fun c_1 => ?_)
 ·
  replace hM := hM.1 (of_decide_eq_true c_1)
  refine HW.skip (thenQ_normal (?_))
  refine HW.seq ?_
  refine HW.block ?_
  refine HW.seq ?_
  refine HW.region ?_
  obtain ⟨ho_1, hM⟩ := hM
  refine oV (elemPtr 2 vt_Links (n_1).toNat) (q_idx ts_22 hL_t_Links.is rfl rfl ho_1) rfl ?_
  refine oV (.agg #[.int .i64 ((gi t_Links n_1).1), .int .i64 ((gi t_Links n_1).2)]) (q_ldElemAgg (cs := [.int .i64 ((gi t_Links n_1).1), .int .i64 ((gi t_Links n_1).2)]) ta_46 hL_t_Links.is rfl ho_1 rfl) rfl ?_
  refine HO.eff (want_none) rfl (st_alloc (c := #[.int .i64 0, .int .i64 0]) hS tz_46 rfl) ?_
  rintro _ h_4 ⟨b_2, rfl, hS, hk⟩
  replace hK := hK.trans hk
  replace hL_t_Links := hL_t_Links.kp hk
  refine HO.sto (want_none) rfl (st_storeAgg (c' := #[.int .i64 ((gi t_Links n_1).1), .int .i64 ((gi t_Links n_1).2)]) hS (i := 0) rfl ta_46 rfl rfl rfl (by simp [Value.oneCell']) (Nat.le_of_ble_eq_true rfl) rfl) ?_
  rintro h_5 ⟨hS, hk⟩
  replace hS : St F_1 (Ow.box b_2 46 #[.int .i64 ((gi t_Links n_1).1), .int .i64 ((gi t_Links n_1).2)] :: Ow.bag r_3 kI 3 1 encI out_1 none :: fr) h_5 := hS
  replace hK := hK.trans hk
  replace hL_t_Links := hL_t_Links.kp hk
  refine HO.nil (thenQ_normal (?_))
  refine HW.regionA 12 mixed (fun h => (Blk h b_2 (.cells #[.int .i64 ((gi t_Links n_1).1), .int .i64 ((gi t_Links n_1).2)] 46 (0, 0)))) [(10, fun h => (BagIs h r_3 kI 3 1 encI out_1 none))] (by kernel_rfl) ?_
  refine HA.val (k := 0) (v := .map (some r_3)) rfl rfl (by kernel_rfl) (by kernel_rfl) (want_none) rfl (fun _ c355 => q_move rfl) ?_
  refine HA.val (k := 1) (v := .pointer (some ⟨b_2, 0, none⟩)) rfl rfl (by kernel_rfl) (by kernel_rfl) (want_none) rfl (fun _ c355 => q_fieldAddr fa_46_0 rfl rfl) ?_
  refine HA.val (k := 2) (v := .int .i64 ((gi t_Links n_1).1)) rfl rfl (by kernel_rfl) (by kernel_rfl) (want_none) rfl (fun _ c355 => q_load to_3 rfl (Blk.cell c355 rfl)) ?_
  refine HA.val (k := 3) (v := .map (some r_3)) rfl rfl (by kernel_rfl) (by kernel_rfl) (want_none) rfl (fun _ c355 => q_move rfl) ?_
  refine HA.val (k := 4) (v := .pointer (some ⟨b_2, 0, none⟩)) rfl rfl (by kernel_rfl) (by kernel_rfl) (want_none) rfl (fun _ c355 => q_fieldAddr fa_46_0 rfl rfl) ?_
  refine HA.val (k := 5) (v := .int .i64 ((gi t_Links n_1).1)) rfl rfl (by kernel_rfl) (by kernel_rfl) (want_none) rfl (fun _ c355 => q_load to_3 rfl (Blk.cell c355 rfl)) ?_
  refine Go.Wk.HA.valN (k := 6) (v := (bagAt out_1 ((gi t_Links n_1).1)).1) 0 10 (fun h => (BagIs h r_3 kI 3 1 encI out_1 none)) rfl rfl (by kernel_rfl) (by kernel_rfl) (want_none) rfl rfl (by kernel_rfl) (fun _ c355 c354 => (q_lookup (k := (gi t_Links n_1).1) ka_3 tmk_62 c354.map rfl rfl).of_eq (bagAt_v _ _)) ?_
  refine HA.val (k := 7) (v := .pointer (some ⟨b_2, 1, none⟩)) rfl rfl (by kernel_rfl) (by kernel_rfl) (want_none) rfl (fun _ c355 => q_fieldAddr fa_46_1 rfl rfl) ?_
  refine HA.val (k := 8) (v := .int .i64 ((gi t_Links n_1).2)) rfl rfl (by kernel_rfl) (by kernel_rfl) (want_none) rfl (fun _ c355 => q_load to_3 rfl (Blk.cell c355 rfl)) ?_
  refine HA.one (k := 9) ⟨(hS.box 0 rfl), (at_now (hS.bg 1 rfl) (Go.Wk.at_nil _ _))⟩ (by kernel_rfl) ?_
  refine HS.eff rfl (want_none) rfl (st_lit (enc := encI) (cells := #[.int .i64 ((gi t_Links n_1).2)]) #[.int .i64 0] ([(gi t_Links n_1).2] : List Int) hS tl_36 (by decide) (by decide) (by kernel_rfl) (by kernel_rfl) rfl (by intro x hx; rfl) rfl) ?_
  rintro _ h_6 ⟨b_3, rfl, hS, hk⟩
  replace hK := hK.trans hk
  replace hL_t_Links := hL_t_Links.kp hk
  refine HA.one (k := 10) ⟨(hS.box 1 rfl), (at_now (hS.bg 2 rfl) (Go.Wk.at_nil _ _))⟩ (by kernel_rfl) ?_
  replace hS := hS.bagTake 2 rfl ((gi t_Links n_1).1)
  replace hS : St F_1 (Ow.own 3 1 encI ((bagAt out_1 ((gi t_Links n_1).1)).1) ((bagAt out_1 ((gi t_Links n_1).1)).2) :: Ow.own 3 1 encI (.slice (some ⟨b_3, 0, none⟩) 1 1) ([(gi t_Links n_1).2] : List Int) :: Ow.box b_2 46 #[.int .i64 ((gi t_Links n_1).1), .int .i64 ((gi t_Links n_1).2)] :: Ow.bag r_3 kI 3 1 encI out_1 (some ((gi t_Links n_1).1)) :: fr) h_6 := hS
  obtain ⟨ho_2, hM⟩ := hM
  refine HS.eff rfl (want_none) rfl (st_append te_36 hS (i := 0) rfl (hS.own 1 rfl).slice rfl rfl rfl (by intro a _ u hu; simp [encI, encI, encN, encB, encT] at hu; subst hu; rfl) ho_2 (by omega)) ?_
  rintro v_1 h_7 ⟨hS, hk⟩
  replace hS : St F_1 (Ow.own 3 1 encI v_1 (((bagAt out_1 ((gi t_Links n_1).1)).2) ++ ([(gi t_Links n_1).2] : List Int)) :: Ow.own 3 1 encI (.slice (some ⟨b_3, 0, none⟩) 1 1) ([(gi t_Links n_1).2] : List Int) :: Ow.box b_2 46 #[.int .i64 ((gi t_Links n_1).1), .int .i64 ((gi t_Links n_1).2)] :: Ow.bag r_3 kI 3 1 encI out_1 (some ((gi t_Links n_1).1)) :: fr) h_7 := hS
  replace hK := hK.trans hk
  replace hL_t_Links := hL_t_Links.kp hk
  refine HA.one (k := 11) ⟨(hS.box 2 rfl), (at_done (by kernel_rfl) (Go.Wk.at_nil _ _))⟩ (by kernel_rfl) ?_
  refine HS.sto rfl (want_none) rfl (st_bagPut (k := (gi t_Links n_1).1) (i := 2) ka_3 tmk_62 hS rfl rfl rfl rfl) ?_
  rintro h_8 ⟨hS, hk⟩
  replace hM := hM v_1
  replace hS : St F_1 (Ow.own 3 1 encI (.slice (some ⟨b_3, 0, none⟩) 1 1) ([(gi t_Links n_1).2] : List Int) :: Ow.box b_2 46 #[.int .i64 ((gi t_Links n_1).1), .int .i64 ((gi t_Links n_1).2)] :: Ow.bag r_3 kI 3 1 encI (mset out_1 ((gi t_Links n_1).1) (v_1, ((bagAt out_1 ((gi t_Links n_1).1)).2) ++ ([(gi t_Links n_1).2] : List Int))) none :: fr) h_8 := hS
  replace hK := hK.trans hk
  replace hL_t_Links := hL_t_Links.kp hk
  refine HA.nil ⟨(hS.box 1 rfl), (at_done (by kernel_rfl) (Go.Wk.at_nil _ _))⟩ (by kernel_rfl) (blockQ_normal (thenQ_normal (?_)))
  refine HW.region ?_
  obtain ⟨ho_3, hM⟩ := hM
  refine oV (.int .i64 (n_1 + 1)) (q_addN _ rfl rfl rfl ho_3.1 ho_3.2) rfl ?_
  refine oM (.int .i64 (n_1 + 1)) rfl rfl ?_
  refine HO.nil (thenQ_normal (?_))
  replace hS : St F_1 (Ow.bag r_3 kI 3 1 encI (mset out_1 ((gi t_Links n_1).1) (v_1, ((bagAt out_1 ((gi t_Links n_1).1)).2) ++ ([(gi t_Links n_1).2] : List Int))) none :: fr) h_8 := hS.perm2 [2] 3 rfl rfl
  rw [hKe_1] at hM
  exact ⟨(mset out_1 ((gi t_Links n_1).1) (v_1, ((bagAt out_1 ((gi t_Links n_1).1)).2) ++ ([(gi t_Links n_1).2] : List Int)), n_1 + 1), ⟨F_1, rfl, rfl, rfl, rfl, rfl, hK, hS, hL_t_Links, hM.1⟩, hM.2⟩
 ·
  replace hM := hM.2 (of_decide_eq_false c_1)
  refine HW.exit (thenQ_exit (thenQ_exit (blockQ_exit (thenQ_normal (?_)))))
  refine HW.seq ?_
  refine HW.region ?_
  refine oM (.map (some r_3)) rfl rfl ?_
  refine oA (.map (some r_3)) rfl rfl ?_
  refine HO.nil (thenQ_normal (?_))
  refine HW.ret (?_)
  refine ⟨.inr rfl, .map (some r_3), res1 rfl (rt rfl), ?_⟩
  exact ⟨F_1, out_1, r_3, rfl, hK, hS, hL_t_Links, hM⟩

def tree_walk_l2 (r_2 : List (Int × Value × List Int)) (out_1 : List Int) (i_1 : Int) (K_1 : (List (Int × Int)) → (List Int) → Int → Prop) (K_2 : (List (Int × Int)) → (List Int) → Int → Prop) (seen_2 : List (Int × Int)) (out_2 : List Int) (n_1 : Int) : Prop :=
 (n_1 < (((bagAt r_2 (gi out_1 i_1)).2).length : Int) → ((0 : Int) ≤ n_1 ∧ n_1 < (((bagAt r_2 (gi out_1 i_1)).2).length : Int)) ∧ (((mget0 seen_2 (gi ((bagAt r_2 (gi out_1 i_1)).2) n_1)) = 0 → ((out_2.length + ([(gi ((bagAt r_2 (gi out_1 i_1)).2) n_1)] : List Int).length) * 8 ≤ 140737488355328) ∧ ((I64 (n_1 + 1)) ∧ (K_2 (mset seen_2 (gi ((bagAt r_2 (gi out_1 i_1)).2) n_1) 1) (out_2 ++ ([(gi ((bagAt r_2 (gi out_1 i_1)).2) n_1)] : List Int)) (n_1 + 1)))) ∧ (¬ ((mget0 seen_2 (gi ((bagAt r_2 (gi out_1 i_1)).2) n_1)) = 0) → (I64 (n_1 + 1)) ∧ (K_2 seen_2 out_2 (n_1 + 1))))) ∧ (¬ (n_1 < (((bagAt r_2 (gi out_1 i_1)).2).length : Int)) → (I64 (i_1 + 1)) ∧ (K_1 seen_2 out_2 (i_1 + 1)))
def tree_walk_l1 (Q : (List Int) → Prop) (r_2 : List (Int × Value × List Int)) (K_1 : (List (Int × Int)) → (List Int) → Int → Prop) (seen_1 : List (Int × Int)) (out_1 : List Int) (i_1 : Int) : Prop :=
 (i_1 < (out_1.length : Int) → ((0 : Int) ≤ i_1 ∧ i_1 < (out_1.length : Int)) ∧ (loopW (fun (K_2 : ((List (Int × Int)) × List Int × Int) → Prop) (s : (List (Int × Int)) × List Int × Int) => tree_walk_l2 r_2 out_1 i_1 K_1 (fun seen_2 out_2 n_1 => K_2 (seen_2, out_2, n_1)) s.1 s.2.1 s.2.2) (seen_1, out_1, 0))) ∧ (¬ (i_1 < (out_1.length : Int)) → Q out_1)
def tree_walk_W (t_Root : Int) (t_Links : List T_api_Branch) (from1 : Int) (Q : (List Int) → Prop) : Prop :=
 tree_nexts_W t_Root t_Links (fun r_2 => loopW (fun (K_1 : ((List (Int × Int)) × List Int × Int) → Prop) (s : (List (Int × Int)) × List Int × Int) => tree_walk_l1 Q r_2 (fun seen_1 out_1 i_1 => K_1 (seen_1, out_1, i_1)) s.1 s.2.1 s.2.2) (mset ([] : List (Int × Int)) from1 1, ([from1] : List Int), 0))
set_option maxHeartbeats 40000000 in
set_option maxRecDepth 100000 in
theorem tree_walk_walk {F : Fz} {fr : List Ow} {h0 : Heap} (t_Root : Int) (t_Links : List T_api_Branch) (from1 : Int) (vt_Links : Value) (hS : St F (fr) h0) (hL_t_Links : SliceF F h0 2 e_api_Branch vt_Links t_Links) {Q : (List Int) → Prop} (hM : tree_walk_W t_Root t_Links from1 Q) :
  HC Tryz.prog 53 #[.agg #[.int .i64 t_Root, vt_Links], .int .i64 from1] h0 fun u h' => ∃ (F' : Fz) (r_1 : List Int) (vr_1 : Value), u = vr_1 ∧ Kp F h0 F' h' ∧ St F' (Ow.own 3 1 encI vr_1 r_1 :: fr) h' ∧ (SliceF F' h' 2 e_api_Branch vt_Links t_Links) ∧ Q r_1 := by
 unfold tree_walk_W at hM
 have hK := Kp.refl F h0
 refine HC.of_HW (n := 47) Tryz.func53 rfl rfl (Nat.le_of_ble_eq_true rfl) ?_
 refine HW.seq ?_
 refine HW.region ?_
 refine HO.eff (want_none) rfl (st_box (c := #[.int .i64 t_Root, vt_Links]) (k' := 2) hS rfl rfl) ?_
 rintro _ h_1 ⟨b_1, rfl, hS, hk⟩
 replace hK := hK.trans hk
 replace hL_t_Links := hL_t_Links.kp hk
 refine oA (.slice none 0 0) rfl rfl ?_
 refine HO.nil (thenQ_normal (?_))
 refine HW.seq ?_
 refine HW.region ?_
 refine oV (.agg #[.int .i64 t_Root, vt_Links]) (q_loadAgg (cs := [.int .i64 t_Root, vt_Links]) ta_24 rfl rfl (Blk.cells (k := 2) (hS.box 0 rfl) rfl)) rfl ?_
 refine HO.call (want_none) rfl (ec en_54 rfl rfl) (tree_nexts_walk (fr := (Ow.box b_1 24 #[.int .i64 t_Root, vt_Links] :: fr)) t_Root t_Links vt_Links hS hL_t_Links hM) ?_
 rintro _ h_2 ⟨F_1, r_2, r_3, rfl, hk, hS, _, hM⟩
 replace hK := hK.trans hk
 replace hL_t_Links := hL_t_Links.kp hk
 obtain ⟨F_2, hS, hk, hN_1⟩ := hS.bagOpen
 replace hK := hK.trans hk
 replace hL_t_Links := hL_t_Links.kp hk
 refine oA (.map (some r_3)) rfl rfl ?_
 refine HO.nil (thenQ_normal (?_))
 refine HW.seq ?_
 refine HW.region ?_
 refine HO.eff (want_none) rfl (st_makeMap (κ := Int) (ν := Int) kI kI hS) ?_
 rintro _ h_3 ⟨r_4, rfl, hS, hk⟩
 replace hK := hK.trans hk
 replace hL_t_Links := hL_t_Links.kp hk
 replace hN_1 := hN_1.kp hk
 refine oM (.int .i64 from1) rfl rfl ?_
 refine HO.sto (want_none) rfl (es_insert <| st_mapUpdateK (k := from1) (v := 1) hS (i := 0) rfl ka_3 tmk_64 rfl rfl rfl) ?_
 rintro h_4 ⟨hS, hk⟩
 replace hS : St F_2 (Ow.map r_4 kI kI (mset ([] : List (Int × Int)) from1 1) :: Ow.map r_3 kI bagV r_2 :: Ow.box b_1 24 #[.int .i64 t_Root, vt_Links] :: fr) h_4 := hS
 replace hK := hK.trans hk
 replace hL_t_Links := hL_t_Links.kp hk
 replace hN_1 := hN_1.kp hk
 refine oM (.map (some r_4)) rfl rfl ?_
 refine oA (.map (some r_4)) rfl rfl ?_
 refine HO.nil (thenQ_normal (?_))
 refine HW.seq ?_
 refine HW.region ?_
 refine oM (.int .i64 from1) rfl rfl ?_
 refine HO.eff (want_none) rfl (st_lit (enc := encI) (cells := #[.int .i64 from1]) #[.int .i64 0] ([from1] : List Int) hS tl_36 (by decide) (by decide) (by kernel_rfl) (by kernel_rfl) rfl (by intro x hx; rfl) rfl) ?_
 rintro _ h_5 ⟨b_2, rfl, hS, hk⟩
 replace hK := hK.trans hk
 replace hL_t_Links := hL_t_Links.kp hk
 replace hN_1 := hN_1.kp hk
 refine oA (.slice (some ⟨b_2, 0, none⟩) 1 1) rfl rfl ?_
 refine HO.nil (thenQ_normal (?_))
 refine HW.seq ?_
 refine HW.seq ?_
 refine HW.region ?_
 refine oA (.int .i64 0) rfl rfl ?_
 refine HO.nil (thenQ_normal (?_))
 refine HW.block ?_
 obtain ⟨I_1, m_1, hI_1, hR_1⟩ := hM
 replace hS : St F_2 (Ow.map r_3 kI bagV r_2 :: Ow.map r_4 kI kI (mset ([] : List (Int × Int)) from1 1) :: Ow.own 3 1 encI (.slice (some ⟨b_2, 0, none⟩) 1 1) ([from1] : List Int) :: fr) h_5 := hS.perm2 [2, 1, 0] 4 rfl rfl
 refine HW.loop (S := (List (Int × Int)) × List Int × Int) (fun s f h => match s with | (seen_1, out_1, i_1) => ∃ (F' : Fz) (vout_1 : Value), f 4 = .slice none 0 0 ∧ f 5 = .map (some r_3) ∧ f 6 = .map (some r_4) ∧ f 7 = vout_1 ∧ f 8 = .int .i64 i_1 ∧ Kp F h0 F' h ∧ St F' (Ow.map r_3 kI bagV r_2 :: Ow.map r_4 kI kI seen_1 :: Ow.own 3 1 encI vout_1 out_1 :: fr) h ∧ (SliceF F' h 2 e_api_Branch vt_Links t_Links) ∧ (NfB 1 encI F' h r_2) ∧ I_1 (seen_1, out_1, i_1)) m_1 (mset ([] : List (Int × Int)) from1 1, ([from1] : List Int), 0) ⟨F_2, .slice (some ⟨b_2, 0, none⟩) 1 1, rfl, rfl, rfl, rfl, rfl, hK, hS, hL_t_Links, hN_1, hI_1⟩ ?_
 rintro ⟨seen_1, out_1, i_1⟩ f_1 h_6 ⟨F_3, vout_1, e4, e5, e6, e7, e8, hK, hS, hL_t_Links, hN_1, hI0⟩
 obtain ⟨K_1, hKe_1⟩ : ∃ K : (List (Int × Int)) → (List Int) → Int → Prop, K = fun seen_1' out_1' i_1' => I_1 (seen_1', out_1', i_1') ∧ m_1 (seen_1', out_1', i_1') < m_1 (seen_1, out_1, i_1) := ⟨_, rfl⟩
 have hM : tree_walk_l1 Q r_2 K_1 seen_1 out_1 i_1 := by rw [hKe_1]; exact hR_1 (seen_1, out_1, i_1) hI0
 unfold tree_walk_l1 at hM
 refine HW.fr [(4, .slice none 0 0), (5, .map (some r_3)), (6, .map (some r_4)), (7, vout_1), (8, .int .i64 i_1)] ⟨e4, e5, e6, e7, e8, trivial⟩ ?_
 refine HW.seq ?_
 refine HW.seq ?_
 refine HW.region ?_
 refine oM (.int .i64 i_1) rfl rfl ?_
 refine oM (vout_1) rfl rfl ?_
 refine oV (.int .i64 (out_1.length : Int)) (q_len ts_36 (shp (hS.own 2 rfl).slice) rfl rfl) rfl ?_
 refine oV (.bool (decide (i_1 < (out_1.length : Int)))) (q_lss rfl rfl) rfl ?_
 refine HO.nil (thenQ_normal (?_))
 refine HW.cond (decide (i_1 < (out_1.length : Int))) rfl (fun c_1 => ?_) (fun c_1 => ?_)
 ·
  replace hM := hM.1 (of_decide_eq_true c_1)
  refine HW.skip (thenQ_normal (?_))
  refine HW.seq ?_
  refine HW.block ?_
  refine HW.seq ?_
  refine HW.region ?_
  refine oM (.map (some r_3)) rfl rfl ?_
  refine oM (vout_1) rfl rfl ?_
  refine oM (.int .i64 i_1) rfl rfl ?_
  obtain ⟨ho_1, hM⟩ := hM
  refine oV (elemPtr 1 vout_1 (i_1).toNat) (q_idx ts_36 (hS.own 2 rfl).slice rfl rfl ho_1) rfl ?_
  refine oV (.int .i64 (gi out_1 i_1)) (q_ldElem to_3 (hS.own 2 rfl).slice rfl ho_1 rfl) rfl ?_
  have hL_1 : SliceF F_3 h_6 1 encI ((bagAt r_2 (gi out_1 i_1)).1) ((bagAt r_2 (gi out_1 i_1)).2) := hN_1.at_ (gi out_1 i_1)
  refine oV ((bagAt r_2 (gi out_1 i_1)).1) ((q_lookup (k := (gi out_1 i_1)) ka_3 tmk_62 (hS.mp 0 rfl) rfl rfl).of_eq (bagAt_v _ _)) rfl ?_
  refine oV (.int .i64 (((bagAt r_2 (gi out_1 i_1)).2).length : Int)) (q_len ts_36 (shp hL_1.is) rfl rfl) rfl ?_
  refine oM (.int .i64 0) rfl rfl ?_
  refine HO.nil (thenQ_normal (?_))
  refine HW.block ?_
  obtain ⟨I_2, m_2, hI_2, hR_2⟩ := hM
  refine HW.loop (S := (List (Int × Int)) × List Int × Int) (fun s f h => match s with | (seen_2, out_2, n_1) => ∃ (F' : Fz) (vout_2 : Value), f 4 = .slice none 0 0 ∧ f 5 = .map (some r_3) ∧ f 6 = .map (some r_4) ∧ f 7 = vout_2 ∧ f 8 = .int .i64 i_1 ∧ f 29 = (bagAt r_2 (gi out_1 i_1)).1 ∧ f 30 = .int .i64 (((bagAt r_2 (gi out_1 i_1)).2).length : Int) ∧ f 31 = .int .i64 n_1 ∧ Kp F h0 F' h ∧ St F' (Ow.map r_3 kI bagV r_2 :: Ow.map r_4 kI kI seen_2 :: Ow.own 3 1 encI vout_2 out_2 :: fr) h ∧ (SliceF F' h 2 e_api_Branch vt_Links t_Links) ∧ (NfB 1 encI F' h r_2) ∧ (SliceF F' h 1 encI ((bagAt r_2 (gi out_1 i_1)).1) ((bagAt r_2 (gi out_1 i_1)).2)) ∧ I_2 (seen_2, out_2, n_1)) m_2 (seen_1, out_1, 0) ⟨F_3, vout_1, rfl, rfl, rfl, rfl, rfl, rfl, rfl, rfl, hK, hS, hL_t_Links, hN_1, hL_1, hI_2⟩ ?_
  rintro ⟨seen_2, out_2, n_1⟩ f_2 h_7 ⟨F_4, vout_2, e4, e5, e6, e7, e8, e29, e30, e31, hK, hS, hL_t_Links, hN_1, hL_1, hI0⟩
  obtain ⟨K_2, hKe_2⟩ : ∃ K : (List (Int × Int)) → (List Int) → Int → Prop, K = fun seen_2' out_2' n_1' => I_2 (seen_2', out_2', n_1') ∧ m_2 (seen_2', out_2', n_1') < m_2 (seen_2, out_2, n_1) := ⟨_, rfl⟩
  have hM : tree_walk_l2 r_2 out_1 i_1 K_1 K_2 seen_2 out_2 n_1 := by rw [hKe_2]; exact hR_2 (seen_2, out_2, n_1) hI0
  unfold tree_walk_l2 at hM
  refine HW.fr [(4, .slice none 0 0), (5, .map (some r_3)), (6, .map (some r_4)), (7, vout_2), (8, .int .i64 i_1), (29, (bagAt r_2 (gi out_1 i_1)).1), (30, .int .i64 (((bagAt r_2 (gi out_1 i_1)).2).length : Int)), (31, .int .i64 n_1)] ⟨e4, e5, e6, e7, e8, e29, e30, e31, trivial⟩ ?_
  refine HW.seq ?_
  refine HW.region ?_
  refine oV (.bool (decide (n_1 < (((bagAt r_2 (gi out_1 i_1)).2).length : Int)))) (q_lss rfl rfl) rfl ?_
  refine HO.nil (thenQ_normal (?_))
  refine HW.seq ?_
  refine HW.cond (decide (n_1 < (((bagAt r_2 (gi out_1 i_1)).2).length : Int))) rfl (fun c_2 => ?_) (fun c_2 => ?_)
  ·
   replace hM := hM.1 (of_decide_eq_true c_2)
   refine HW.skip (thenQ_normal (?_))
   refine HW.seq ?_
   refine HW.block ?_
   refine HW.seq ?_
   refine HW.region ?_
   obtain ⟨ho_2, hM⟩ := hM
   refine oV (elemPtr 1 ((bagAt r_2 (gi out_1 i_1)).1) (n_1).toNat) (q_idx ts_36 hL_1.is rfl rfl ho_2) rfl ?_
   refine oV (.int .i64 (gi ((bagAt r_2 (gi out_1 i_1)).2) n_1)) (q_ldElem to_3 hL_1.is rfl ho_2 rfl) rfl ?_
   refine oA (.int .i64 (gi ((bagAt r_2 (gi out_1 i_1)).2) n_1)) rfl rfl ?_
   refine HO.nil (thenQ_normal (?_))
   refine HW.seq ?_
   refine HW.region ?_
   refine oM (.map (some r_4)) rfl rfl ?_
   refine oM (.int .i64 (gi ((bagAt r_2 (gi out_1 i_1)).2) n_1)) rfl rfl ?_
   refine oV (.int .i64 (mget0 seen_2 (gi ((bagAt r_2 (gi out_1 i_1)).2) n_1))) ((q_lookup (k := (gi ((bagAt r_2 (gi out_1 i_1)).2) n_1)) ka_3 tmk_64 (hS.mp 1 rfl) rfl rfl).of_eq (mval0 (z := .int .i64 0) rfl)) rfl ?_
   refine oV (.bool (decide ((mget0 seen_2 (gi ((bagAt r_2 (gi out_1 i_1)).2) n_1)) = 0))) (q_eql rfl rfl) rfl ?_
   refine HO.nil (thenQ_normal (?_))
   refine HW.cond (decide ((mget0 seen_2 (gi ((bagAt r_2 (gi out_1 i_1)).2) n_1)) = 0)) rfl (fun c_3 => ?_) (fun c_3 => ?_)
   ·
    replace hM := hM.1 (of_decide_eq_true c_3)
    refine HW.region ?_
    refine oM (.map (some r_4)) rfl rfl ?_
    refine oM (.int .i64 (gi ((bagAt r_2 (gi out_1 i_1)).2) n_1)) rfl rfl ?_
    refine oM (vout_2) rfl rfl ?_
    refine oM (.int .i64 (gi ((bagAt r_2 (gi out_1 i_1)).2) n_1)) rfl rfl ?_
    refine HO.eff (want_none) rfl (st_lit (enc := encI) (cells := #[.int .i64 (gi ((bagAt r_2 (gi out_1 i_1)).2) n_1)]) #[.int .i64 0] ([(gi ((bagAt r_2 (gi out_1 i_1)).2) n_1)] : List Int) hS tl_36 (by decide) (by decide) (by kernel_rfl) (by kernel_rfl) rfl (by intro x hx; rfl) rfl) ?_
    rintro _ h_8 ⟨b_3, rfl, hS, hk⟩
    replace hK := hK.trans hk
    replace hL_t_Links := hL_t_Links.kp hk
    replace hN_1 := hN_1.kp hk
    replace hL_1 := hL_1.kp hk
    obtain ⟨ho_3, hM⟩ := hM
    refine HO.eff (want_none) rfl (st_append te_36 hS (i := 3) rfl (hS.own 0 rfl).slice rfl rfl rfl (by intro a _ u hu; simp [encI, encI, encN, encB, encT] at hu; subst hu; rfl) ho_3 (by omega)) ?_
    rintro v_1 h_9 ⟨hS, hk⟩
    replace hS : St F_4 (Ow.own 3 1 encI (.slice (some ⟨b_3, 0, none⟩) 1 1) ([(gi ((bagAt r_2 (gi out_1 i_1)).2) n_1)] : List Int) :: Ow.map r_3 kI bagV r_2 :: Ow.map r_4 kI kI seen_2 :: Ow.own 3 1 encI v_1 (out_2 ++ ([(gi ((bagAt r_2 (gi out_1 i_1)).2) n_1)] : List Int)) :: fr) h_9 := hS
    replace hK := hK.trans hk
    replace hL_t_Links := hL_t_Links.kp hk
    replace hN_1 := hN_1.kp hk
    replace hL_1 := hL_1.kp hk
    refine HO.sto (want_none) rfl (st_mapUpdateK (k := (gi ((bagAt r_2 (gi out_1 i_1)).2) n_1)) (v := 1) hS (i := 2) rfl ka_3 tmk_64 rfl rfl rfl) ?_
    rintro h_10 ⟨hS, hk⟩
    replace hS : St F_4 (Ow.own 3 1 encI (.slice (some ⟨b_3, 0, none⟩) 1 1) ([(gi ((bagAt r_2 (gi out_1 i_1)).2) n_1)] : List Int) :: Ow.map r_3 kI bagV r_2 :: Ow.map r_4 kI kI (mset seen_2 (gi ((bagAt r_2 (gi out_1 i_1)).2) n_1) 1) :: Ow.own 3 1 encI v_1 (out_2 ++ ([(gi ((bagAt r_2 (gi out_1 i_1)).2) n_1)] : List Int)) :: fr) h_10 := hS
    replace hK := hK.trans hk
    replace hL_t_Links := hL_t_Links.kp hk
    replace hN_1 := hN_1.kp hk
    replace hL_1 := hL_1.kp hk
    refine oA (v_1) rfl rfl ?_
    refine HO.nil (blockQ_normal (thenQ_normal (?_)))
    refine HW.region ?_
    obtain ⟨ho_4, hM⟩ := hM
    refine oV (.int .i64 (n_1 + 1)) (q_addN _ rfl rfl rfl ho_4.1 ho_4.2) rfl ?_
    refine oM (.int .i64 (n_1 + 1)) rfl rfl ?_
    refine HO.nil (thenQ_normal (?_))
    replace hS : St F_4 (Ow.map r_3 kI bagV r_2 :: Ow.map r_4 kI kI (mset seen_2 (gi ((bagAt r_2 (gi out_1 i_1)).2) n_1) 1) :: Ow.own 3 1 encI v_1 (out_2 ++ ([(gi ((bagAt r_2 (gi out_1 i_1)).2) n_1)] : List Int)) :: fr) h_10 := hS.perm2 [1, 2, 3] 4 rfl rfl
    rw [hKe_2] at hM
    exact ⟨(mset seen_2 (gi ((bagAt r_2 (gi out_1 i_1)).2) n_1) 1, out_2 ++ ([(gi ((bagAt r_2 (gi out_1 i_1)).2) n_1)] : List Int), n_1 + 1), ⟨F_4, v_1, rfl, rfl, rfl, rfl, rfl, rfl, rfl, rfl, hK, hS, hL_t_Links, hN_1, hL_1, hM.1⟩, hM.2⟩
   ·
    replace hM := hM.2 (of_decide_eq_false c_3)
    refine HW.skip (blockQ_normal (thenQ_normal (?_)))
    refine HW.region ?_
    obtain ⟨ho_5, hM⟩ := hM
    refine oV (.int .i64 (n_1 + 1)) (q_addN _ rfl rfl rfl ho_5.1 ho_5.2) rfl ?_
    refine oM (.int .i64 (n_1 + 1)) rfl rfl ?_
    refine HO.nil (thenQ_normal (?_))
    rw [hKe_2] at hM
    exact ⟨(seen_2, out_2, n_1 + 1), ⟨F_4, vout_2, rfl, rfl, rfl, rfl, rfl, rfl, rfl, rfl, hK, hS, hL_t_Links, hN_1, hL_1, hM.1⟩, hM.2⟩
  ·
   replace hM := hM.2 (of_decide_eq_false c_2)
   refine HW.exit (thenQ_exit (thenQ_exit (blockQ_exit (blockQ_normal (thenQ_normal (?_))))))
   refine HW.region ?_
   refine oM (.int .i64 i_1) rfl rfl ?_
   obtain ⟨ho_6, hM⟩ := hM
   refine oV (.int .i64 (i_1 + 1)) (q_addN _ rfl rfl rfl ho_6.1 ho_6.2) rfl ?_
   refine oA (.int .i64 (i_1 + 1)) rfl rfl ?_
   refine HO.nil (thenQ_normal (?_))
   rw [hKe_1] at hM
   exact ⟨(seen_2, out_2, i_1 + 1), ⟨F_4, vout_2, rfl, rfl, rfl, rfl, rfl, hK, hS, hL_t_Links, hN_1, hM.1⟩, hM.2⟩
 ·
  replace hM := hM.2 (of_decide_eq_false c_1)
  refine HW.exit (thenQ_exit (thenQ_exit (blockQ_exit (thenQ_normal (?_)))))
  refine HW.seq ?_
  refine HW.region ?_
  refine oM (vout_1) rfl rfl ?_
  refine oA (vout_1) rfl rfl ?_
  refine HO.nil (thenQ_normal (?_))
  refine HW.ret (?_)
  refine ⟨.inr rfl, vout_1, res1 rfl (rt rfl), ?_⟩
  replace hS : St F_3 (Ow.own 3 1 encI vout_1 out_1 :: fr) h_6 := hS.perm2 [2] 3 rfl rfl
  exact ⟨F_3, out_1, vout_1, rfl, hK, hS, hL_t_Links, hM⟩

def tree_good_j1 (t_Links : List T_api_Branch) (Q : Bool → Prop) (into_1 : List (Int × Int)) (n_1 : Int) (K_1 : (List (Int × Int)) → Int → Prop) (b_3 : Bool) : Prop :=
 (b_3 = true → Q false) ∧ (b_3 = false → (I64 ((mget0 into_1 ((gi t_Links n_1).2)) + 1)) ∧ ((I64 (n_1 + 1)) ∧ (K_1 (mset into_1 ((gi t_Links n_1).2) ((mget0 into_1 ((gi t_Links n_1).2)) + 1)) (n_1 + 1))))
def tree_good_l1 (t_Root : Int) (t_Links : List T_api_Branch) (Q : Bool → Prop) (K_1 : (List (Int × Int)) → Int → Prop) (into_1 : List (Int × Int)) (n_1 : Int) : Prop :=
 (n_1 < (t_Links.length : Int) → ((0 : Int) ≤ n_1 ∧ n_1 < (t_Links.length : Int)) ∧ ((((gi t_Links n_1).2) = t_Root → tree_good_j1 t_Links Q into_1 n_1 K_1 true) ∧ (¬ (((gi t_Links n_1).2) = t_Root) → (0 < n_1 → (I64 (n_1 - 1)) ∧ (((0 : Int) ≤ n_1 - 1 ∧ n_1 - 1 < (t_Links.length : Int)) ∧ (tree_order_W (gi t_Links (n_1 - 1)) (gi t_Links n_1) (fun r_3 => tree_good_j1 t_Links Q into_1 n_1 K_1 (decide (0 ≤ r_3)))))) ∧ (¬ (0 < n_1) → tree_good_j1 t_Links Q into_1 n_1 K_1 false)))) ∧ (¬ (n_1 < (t_Links.length : Int)) → ((t_Links.length : Int) < 256 → ((into_1.length : Int) = (t_Links.length : Int) → (I64 ((t_Links.length : Int) + 1)) ∧ (tree_walk_W t_Root t_Links t_Root (fun r_4 => Q (decide ((r_4.length : Int) = ((t_Links.length : Int) + 1)))))) ∧ (¬ ((into_1.length : Int) = (t_Links.length : Int)) → Q false)) ∧ (¬ ((t_Links.length : Int) < 256) → Q false))
def tree_good_W (t_Root : Int) (t_Links : List T_api_Branch) (Q : Bool → Prop) : Prop :=
 loopW (fun (K_1 : ((List (Int × Int)) × Int) → Prop) (s : (List (Int × Int)) × Int) => tree_good_l1 t_Root t_Links Q (fun into_1 n_1 => K_1 (into_1, n_1)) s.1 s.2) ([], 0)
set_option maxHeartbeats 40000000 in
set_option maxRecDepth 100000 in
theorem tree_good_walk {F : Fz} {fr : List Ow} {h0 : Heap} (t_Root : Int) (t_Links : List T_api_Branch) (vt_Links : Value) (hS : St F (fr) h0) (hL_t_Links : SliceF F h0 2 e_api_Branch vt_Links t_Links) {Q : Bool → Prop} (hM : tree_good_W t_Root t_Links Q) :
  HC Tryz.prog 45 #[.agg #[.int .i64 t_Root, vt_Links]] h0 fun u h' => ∃ (F' : Fz) (r_1 : Bool), u = .bool r_1 ∧ Kp F h0 F' h' ∧ St F' (fr) h' ∧ (SliceF F' h' 2 e_api_Branch vt_Links t_Links) ∧ Q r_1 := by
 unfold tree_good_W at hM
 have hK := Kp.refl F h0
 refine HC.of_HW (n := 65) Tryz.func45 rfl rfl (Nat.le_of_ble_eq_true rfl) ?_
 refine HW.seq ?_
 refine HW.region ?_
 refine HO.eff (want_none) rfl (st_box (c := #[.int .i64 t_Root, vt_Links]) (k' := 2) hS rfl rfl) ?_
 rintro _ h_1 ⟨b_1, rfl, hS, hk⟩
 replace hK := hK.trans hk
 replace hL_t_Links := hL_t_Links.kp hk
 refine oA (.bool false) rfl rfl ?_
 refine HO.nil (thenQ_normal (?_))
 refine HW.seq ?_
 refine HW.region ?_
 refine HO.eff (want_none) rfl (st_makeMap (κ := Int) (ν := Int) kI kI hS) ?_
 rintro _ h_2 ⟨r_2, rfl, hS, hk⟩
 replace hK := hK.trans hk
 replace hL_t_Links := hL_t_Links.kp hk
 refine oA (.map (some r_2)) rfl rfl ?_
 refine HO.nil (thenQ_normal (?_))
 refine HW.seq ?_
 refine HW.seq ?_
 refine HW.region ?_
 refine oV (.pointer (some ⟨b_1, 1, none⟩)) (q_fieldAddr fa_24_1 rfl rfl) rfl ?_
 refine oV (vt_Links) (q_load to_22 rfl (Blk.cell (hS.box 1 rfl) rfl)) rfl ?_
 refine oV (.int .i64 (t_Links.length : Int)) (q_len ts_22 (shp hL_t_Links.is) rfl rfl) rfl ?_
 refine oM (.int .i64 0) rfl rfl ?_
 refine HO.nil (thenQ_normal (?_))
 refine HW.block ?_
 obtain ⟨I_1, m_1, hI_1, hR_1⟩ := hM
 replace hS : St F (Ow.box b_1 24 #[.int .i64 t_Root, vt_Links] :: Ow.map r_2 kI kI ([] : List (Int × Int)) :: fr) h_2 := hS.perm2 [1, 0] 2 rfl rfl
 refine HW.loop (S := (List (Int × Int)) × Int) (fun s f h => match s with | (into_1, n_1) => ∃ (F' : Fz), f 1 = .pointer (some ⟨b_1, 0, none⟩) ∧ f 2 = .bool false ∧ f 3 = .map (some r_2) ∧ f 8 = vt_Links ∧ f 9 = .int .i64 (t_Links.length : Int) ∧ f 10 = .int .i64 n_1 ∧ Kp F h0 F' h ∧ St F' (Ow.box b_1 24 #[.int .i64 t_Root, vt_Links] :: Ow.map r_2 kI kI into_1 :: fr) h ∧ (SliceF F' h 2 e_api_Branch vt_Links t_Links) ∧ I_1 (into_1, n_1)) m_1 ([], 0) ⟨F, rfl, rfl, rfl, rfl, rfl, rfl, hK, hS, hL_t_Links, hI_1⟩ ?_
 rintro ⟨into_1, n_1⟩ f_1 h_3 ⟨F_1, e1, e2, e3, e8, e9, e10, hK, hS, hL_t_Links, hI0⟩
 obtain ⟨K_1, hKe_1⟩ : ∃ K : (List (Int × Int)) → Int → Prop, K = fun into_1' n_1' => I_1 (into_1', n_1') ∧ m_1 (into_1', n_1') < m_1 (into_1, n_1) := ⟨_, rfl⟩
 have hM : tree_good_l1 t_Root t_Links Q K_1 into_1 n_1 := by rw [hKe_1]; exact hR_1 (into_1, n_1) hI0
 unfold tree_good_l1 at hM
 refine HW.fr [(1, .pointer (some ⟨b_1, 0, none⟩)), (2, .bool false), (3, .map (some r_2)), (8, vt_Links), (9, .int .i64 (t_Links.length : Int)), (10, .int .i64 n_1)] ⟨e1, e2, e3, e8, e9, e10, trivial⟩ ?_
 refine HW.seq ?_
 refine HW.region ?_
 refine oV (.bool (decide (n_1 < (t_Links.length : Int)))) (q_lss rfl rfl) rfl ?_
 refine HO.nil (thenQ_normal (?_))
 refine HW.seq ?_
 refine HW.cond (decide (n_1 < (t_Links.length : Int))) rfl (fun c_1 => ?_) (fun c_1 => ?_)
 ·
  replace hM := hM.1 (of_decide_eq_true c_1)
  refine HW.skip (thenQ_normal (?_))
  refine HW.seq ?_
  refine HW.block ?_
  refine HW.seq ?_
  refine HW.region ?_
  refine oM (.int .i64 n_1) rfl rfl ?_
  obtain ⟨ho_1, hM⟩ := hM
  refine oV (elemPtr 2 vt_Links (n_1).toNat) (q_idx ts_22 hL_t_Links.is rfl rfl ho_1) rfl ?_
  refine oV (.agg #[.int .i64 ((gi t_Links n_1).1), .int .i64 ((gi t_Links n_1).2)]) (q_ldElemAgg (cs := [.int .i64 ((gi t_Links n_1).1), .int .i64 ((gi t_Links n_1).2)]) ta_46 hL_t_Links.is rfl ho_1 rfl) rfl ?_
  refine HO.eff (want_none) rfl (st_alloc (c := #[.int .i64 0, .int .i64 0]) hS tz_46 rfl) ?_
  rintro _ h_4 ⟨b_2, rfl, hS, hk⟩
  replace hK := hK.trans hk
  replace hL_t_Links := hL_t_Links.kp hk
  refine oA (.int .i64 n_1) rfl rfl ?_
  refine HO.sto (want_none) rfl (st_storeAgg (c' := #[.int .i64 ((gi t_Links n_1).1), .int .i64 ((gi t_Links n_1).2)]) hS (i := 0) rfl ta_46 rfl rfl rfl (by simp [Value.oneCell']) (Nat.le_of_ble_eq_true rfl) rfl) ?_
  rintro h_5 ⟨hS, hk⟩
  replace hS : St F_1 (Ow.box b_2 46 #[.int .i64 ((gi t_Links n_1).1), .int .i64 ((gi t_Links n_1).2)] :: Ow.box b_1 24 #[.int .i64 t_Root, vt_Links] :: Ow.map r_2 kI kI into_1 :: fr) h_5 := hS
  replace hK := hK.trans hk
  replace hL_t_Links := hL_t_Links.kp hk
  refine HO.nil (thenQ_normal (?_))
  refine HW.seq ?_
  refine HW.seq_mid (fun f h => ∃ (F' : Fz) (b_3 : Bool), f 1 = .pointer (some ⟨b_1, 0, none⟩) ∧ f 2 = .bool false ∧ f 3 = .map (some r_2) ∧ f 5 = .pointer (some ⟨b_2, 0, none⟩) ∧ f 8 = vt_Links ∧ f 9 = .int .i64 (t_Links.length : Int) ∧ f 10 = .int .i64 n_1 ∧ f 34 = .bool b_3 ∧ Kp F h0 F' h ∧ St F' (Ow.box b_1 24 #[.int .i64 t_Root, vt_Links] :: Ow.map r_2 kI kI into_1 :: Ow.box b_2 46 #[.int .i64 ((gi t_Links n_1).1), .int .i64 ((gi t_Links n_1).2)] :: fr) h ∧ (SliceF F' h 2 e_api_Branch vt_Links t_Links) ∧ tree_good_j1 t_Links Q into_1 n_1 K_1 b_3) ?_ ?_
  ·
   refine HW.regionA 20 mixed (fun h => (SliceIs h 2 e_api_Branch vt_Links t_Links) ∧ (Blk h b_2 (.cells #[.int .i64 ((gi t_Links n_1).1), .int .i64 ((gi t_Links n_1).2)] 46 (0, 0))) ∧ (Blk h b_1 (.cells #[.int .i64 t_Root, vt_Links] 24 (0, 0)))) [] (by kernel_rfl) ?_
   refine HA.val (k := 0) (v := .pointer (some ⟨b_2, 1, none⟩)) rfl rfl (by kernel_rfl) (by kernel_rfl) (want_none) rfl (fun _ ⟨hL_t_Links, c355, c353⟩ => q_fieldAddr fa_46_1 rfl rfl) ?_
   refine HA.val (k := 1) (v := .int .i64 ((gi t_Links n_1).2)) rfl rfl (by kernel_rfl) (by kernel_rfl) (want_none) rfl (fun _ ⟨hL_t_Links, c355, c353⟩ => q_load to_3 rfl (Blk.cell c355 rfl)) ?_
   refine HA.val (k := 2) (v := .pointer (some ⟨b_1, 0, none⟩)) rfl rfl (by kernel_rfl) (by kernel_rfl) (want_none) rfl (fun _ ⟨hL_t_Links, c355, c353⟩ => q_fieldAddr fa_24_0 rfl rfl) ?_
   refine HA.val (k := 3) (v := .int .i64 t_Root) rfl rfl (by kernel_rfl) (by kernel_rfl) (want_none) rfl (fun _ ⟨hL_t_Links, c355, c353⟩ => q_load to_3 rfl (Blk.cell c353 rfl)) ?_
   refine HA.val (k := 4) (v := .bool (decide (((gi t_Links n_1).2) = t_Root))) rfl rfl (by kernel_rfl) (by kernel_rfl) (want_none) rfl (fun _ ⟨hL_t_Links, c355, c353⟩ => q_eql rfl rfl) ?_
   refine HA.val (k := 5) (v := .bool (decide (((gi t_Links n_1).2) = t_Root))) rfl rfl (by kernel_rfl) (by kernel_rfl) (want_none) rfl (fun _ ⟨hL_t_Links, c355, c353⟩ => q_move rfl) ?_
   rcases Bool.eq_false_or_eq_true (decide (((gi t_Links n_1).2) = t_Root)) with c_2 | c_2
   ·
    replace hM := hM.1 (of_decide_eq_true c_2)
    refine HA.past (k := 6) rfl rfl (by kernel_rfl) (by kernel_rfl) (past_by rfl rfl c_2) rfl ?_
    refine HA.past (k := 7) rfl rfl (by kernel_rfl) (by kernel_rfl) (past_by rfl rfl c_2) rfl ?_
    refine HA.past (k := 8) rfl rfl (by kernel_rfl) (by kernel_rfl) (past_by rfl rfl c_2) rfl ?_
    refine HA.past (k := 9) rfl rfl (by kernel_rfl) (by kernel_rfl) (past_undef rfl rfl) rfl ?_
    refine HA.past (k := 10) rfl rfl (by kernel_rfl) (by kernel_rfl) (past_undef rfl rfl) rfl ?_
    refine HA.past (k := 11) rfl rfl (by kernel_rfl) (by kernel_rfl) (past_undef rfl rfl) rfl ?_
    refine HA.past (k := 12) rfl rfl (by kernel_rfl) (by kernel_rfl) (past_undef rfl rfl) rfl ?_
    refine HA.past (k := 13) rfl rfl (by kernel_rfl) (by kernel_rfl) (past_undef rfl rfl) rfl ?_
    refine HA.past (k := 14) rfl rfl (by kernel_rfl) (by kernel_rfl) (past_undef rfl rfl) rfl ?_
    refine HA.past (k := 15) rfl rfl (by kernel_rfl) (by kernel_rfl) (past_undef rfl rfl) rfl ?_
    refine HA.one (k := 16) ⟨⟨hL_t_Links.is, (hS.box 0 rfl), (hS.box 1 rfl)⟩, (Go.Wk.at_nil _ _)⟩ (by kernel_rfl) ?_
    refine HS.past rfl (past_undef rfl rfl) rfl ?_
    refine HA.past (k := 17) rfl rfl (by kernel_rfl) (by kernel_rfl) (past_undef rfl rfl) rfl ?_
    refine HA.past (k := 18) rfl rfl (by kernel_rfl) (by kernel_rfl) (past_by rfl rfl c_2) rfl ?_
    refine HA.val (k := 19) (v := .bool true) rfl rfl (by kernel_rfl) (by kernel_rfl) (want_none) rfl (fun _ ⟨hL_t_Links, c355, c353⟩ => q_pickK true rfl c_2 rfl) ?_
    refine HA.nil ⟨⟨hL_t_Links.is, (hS.box 0 rfl), (hS.box 1 rfl)⟩, (Go.Wk.at_nil _ _)⟩ (by kernel_rfl) (thenQ_normal (?_))
    replace hS : St F_1 (Ow.box b_1 24 #[.int .i64 t_Root, vt_Links] :: Ow.map r_2 kI kI into_1 :: Ow.box b_2 46 #[.int .i64 ((gi t_Links n_1).1), .int .i64 ((gi t_Links n_1).2)] :: fr) h_5 := hS.perm2 [1, 2, 0] 3 rfl rfl
    exact ⟨F_1, true, rfl, rfl, rfl, rfl, rfl, rfl, rfl, rfl, hK, hS, hL_t_Links, hM⟩
   ·
    replace hM := hM.2 (of_decide_eq_false c_2)
    refine HA.val (k := 6) (v := .int .i64 n_1) rfl rfl (by kernel_rfl) (by kernel_rfl) (want_by rfl rfl c_2) rfl (fun _ ⟨hL_t_Links, c355, c353⟩ => q_move rfl) ?_
    refine HA.val (k := 7) (v := .bool (decide (0 < n_1))) rfl rfl (by kernel_rfl) (by kernel_rfl) (want_by rfl rfl c_2) rfl (fun _ ⟨hL_t_Links, c355, c353⟩ => q_gtr rfl rfl) ?_
    refine HA.val (k := 8) (v := .bool (decide (0 < n_1))) rfl rfl (by kernel_rfl) (by kernel_rfl) (want_by rfl rfl c_2) rfl (fun _ ⟨hL_t_Links, c355, c353⟩ => q_move rfl) ?_
    rcases Bool.eq_false_or_eq_true (decide (0 < n_1)) with c_3 | c_3
    ·
     replace hM := hM.1 (of_decide_eq_true c_3)
     refine HA.val (k := 9) (v := .pointer (some ⟨b_1, 1, none⟩)) rfl rfl (by kernel_rfl) (by kernel_rfl) (want_by rfl rfl c_3) rfl (fun _ ⟨hL_t_Links, c355, c353⟩ => q_fieldAddr fa_24_1 rfl rfl) ?_
     refine HA.val (k := 10) (v := vt_Links) rfl rfl (by kernel_rfl) (by kernel_rfl) (want_by rfl rfl c_3) rfl (fun _ ⟨hL_t_Links, c355, c353⟩ => q_load to_22 rfl (Blk.cell c353 rfl)) ?_
     refine HA.val (k := 11) (v := .int .i64 n_1) rfl rfl (by kernel_rfl) (by kernel_rfl) (want_by rfl rfl c_3) rfl (fun _ ⟨hL_t_Links, c355, c353⟩ => q_move rfl) ?_
     obtain ⟨ho_2, hM⟩ := hM
     refine HA.val (k := 12) (v := .int .i64 (n_1 - 1)) rfl rfl (by kernel_rfl) (by kernel_rfl) (want_by rfl rfl c_3) rfl (fun _ ⟨hL_t_Links, c355, c353⟩ => q_subN _ rfl rfl rfl ho_2.1 ho_2.2) ?_
     obtain ⟨ho_3, hM⟩ := hM
     refine HA.val (k := 13) (v := elemPtr 2 vt_Links (n_1 - 1).toNat) rfl rfl (by kernel_rfl) (by kernel_rfl) (want_by rfl rfl c_3) rfl (fun _ ⟨hL_t_Links, c355, c353⟩ => q_idx ts_22 hL_t_Links rfl rfl ho_3) ?_
     refine HA.val (k := 14) (v := .agg #[.int .i64 ((gi t_Links (n_1 - 1)).1), .int .i64 ((gi t_Links (n_1 - 1)).2)]) rfl rfl (by kernel_rfl) (by kernel_rfl) (want_by rfl rfl c_3) rfl (fun _ ⟨hL_t_Links, c355, c353⟩ => q_ldElemAgg (cs := [.int .i64 ((gi t_Links (n_1 - 1)).1), .int .i64 ((gi t_Links (n_1 - 1)).2)]) ta_46 hL_t_Links rfl ho_3 rfl) ?_
     refine HA.val (k := 15) (v := .agg #[.int .i64 ((gi t_Links n_1).1), .int .i64 ((gi t_Links n_1).2)]) rfl rfl (by kernel_rfl) (by kernel_rfl) (want_by rfl rfl c_3) rfl (fun _ ⟨hL_t_Links, c355, c353⟩ => q_loadAgg (cs := [.int .i64 ((gi t_Links n_1).1), .int .i64 ((gi t_Links n_1).2)]) ta_46 rfl rfl (Blk.cells (k := 2) c355 rfl)) ?_
     refine HA.one (k := 16) ⟨⟨hL_t_Links.is, (hS.box 0 rfl), (hS.box 1 rfl)⟩, (Go.Wk.at_nil _ _)⟩ (by kernel_rfl) ?_
     refine HS.call rfl (want_by rfl rfl c_3) rfl (ec en_62 rfl rfl) (tree_order_walk (fr := (Ow.box b_2 46 #[.int .i64 ((gi t_Links n_1).1), .int .i64 ((gi t_Links n_1).2)] :: Ow.box b_1 24 #[.int .i64 t_Root, vt_Links] :: Ow.map r_2 kI kI into_1 :: fr)) (gi t_Links (n_1 - 1)) (gi t_Links n_1) hS hM) ?_
     rintro _ h_6 ⟨F_2, r_3, rfl, hk, hS, hM⟩
     replace hK := hK.trans hk
     replace hL_t_Links := hL_t_Links.kp hk
     refine HA.val (k := 17) (v := .bool (decide (0 ≤ r_3))) rfl rfl (by kernel_rfl) (by kernel_rfl) (want_by rfl rfl c_3) rfl (fun _ ⟨hL_t_Links, c355, c353⟩ => q_geq rfl rfl) ?_
     refine HA.val (k := 18) (v := .bool (decide (0 ≤ r_3))) rfl rfl (by kernel_rfl) (by kernel_rfl) (want_by rfl rfl c_2) rfl (fun _ ⟨hL_t_Links, c355, c353⟩ => q_pickK true rfl c_3 rfl) ?_
     refine HA.val (k := 19) (v := .bool (decide (0 ≤ r_3))) rfl rfl (by kernel_rfl) (by kernel_rfl) (want_none) rfl (fun _ ⟨hL_t_Links, c355, c353⟩ => q_pickK false rfl c_2 rfl) ?_
     refine HA.nil ⟨⟨hL_t_Links.is, (hS.box 0 rfl), (hS.box 1 rfl)⟩, (Go.Wk.at_nil _ _)⟩ (by kernel_rfl) (thenQ_normal (?_))
     replace hS : St F_2 (Ow.box b_1 24 #[.int .i64 t_Root, vt_Links] :: Ow.map r_2 kI kI into_1 :: Ow.box b_2 46 #[.int .i64 ((gi t_Links n_1).1), .int .i64 ((gi t_Links n_1).2)] :: fr) h_6 := hS.perm2 [1, 2, 0] 3 rfl rfl
     exact ⟨F_2, decide (0 ≤ r_3), rfl, rfl, rfl, rfl, rfl, rfl, rfl, rfl, hK, hS, hL_t_Links, hM⟩
    ·
     replace hM := hM.2 (of_decide_eq_false c_3)
     refine HA.past (k := 9) rfl rfl (by kernel_rfl) (by kernel_rfl) (past_by rfl rfl c_3) rfl ?_
     refine HA.past (k := 10) rfl rfl (by kernel_rfl) (by kernel_rfl) (past_by rfl rfl c_3) rfl ?_
     refine HA.past (k := 11) rfl rfl (by kernel_rfl) (by kernel_rfl) (past_by rfl rfl c_3) rfl ?_
     refine HA.past (k := 12) rfl rfl (by kernel_rfl) (by kernel_rfl) (past_by rfl rfl c_3) rfl ?_
     refine HA.past (k := 13) rfl rfl (by kernel_rfl) (by kernel_rfl) (past_by rfl rfl c_3) rfl ?_
     refine HA.past (k := 14) rfl rfl (by kernel_rfl) (by kernel_rfl) (past_by rfl rfl c_3) rfl ?_
     refine HA.past (k := 15) rfl rfl (by kernel_rfl) (by kernel_rfl) (past_by rfl rfl c_3) rfl ?_
     refine HA.one (k := 16) ⟨⟨hL_t_Links.is, (hS.box 0 rfl), (hS.box 1 rfl)⟩, (Go.Wk.at_nil _ _)⟩ (by kernel_rfl) ?_
     refine HS.past rfl (past_by rfl rfl c_3) rfl ?_
     refine HA.past (k := 17) rfl rfl (by kernel_rfl) (by kernel_rfl) (past_by rfl rfl c_3) rfl ?_
     refine HA.val (k := 18) (v := .bool false) rfl rfl (by kernel_rfl) (by kernel_rfl) (want_by rfl rfl c_2) rfl (fun _ ⟨hL_t_Links, c355, c353⟩ => q_pickK false rfl c_3 rfl) ?_
     refine HA.val (k := 19) (v := .bool false) rfl rfl (by kernel_rfl) (by kernel_rfl) (want_none) rfl (fun _ ⟨hL_t_Links, c355, c353⟩ => q_pickK false rfl c_2 rfl) ?_
     refine HA.nil ⟨⟨hL_t_Links.is, (hS.box 0 rfl), (hS.box 1 rfl)⟩, (Go.Wk.at_nil _ _)⟩ (by kernel_rfl) (thenQ_normal (?_))
     replace hS : St F_1 (Ow.box b_1 24 #[.int .i64 t_Root, vt_Links] :: Ow.map r_2 kI kI into_1 :: Ow.box b_2 46 #[.int .i64 ((gi t_Links n_1).1), .int .i64 ((gi t_Links n_1).2)] :: fr) h_5 := hS.perm2 [1, 2, 0] 3 rfl rfl
     exact ⟨F_1, false, rfl, rfl, rfl, rfl, rfl, rfl, rfl, rfl, hK, hS, hL_t_Links, hM⟩
  ·
   rintro f_2 h_7 ⟨F_3, b_3, e1, e2, e3, e5, e8, e9, e10, e34, hK, hS, hL_t_Links, hM⟩
   unfold tree_good_j1 at hM
   refine HW.fr [(1, .pointer (some ⟨b_1, 0, none⟩)), (2, .bool false), (3, .map (some r_2)), (5, .pointer (some ⟨b_2, 0, none⟩)), (8, vt_Links), (9, .int .i64 (t_Links.length : Int)), (10, .int .i64 n_1), (34, .bool b_3)] ⟨e1, e2, e3, e5, e8, e9, e10, e34, trivial⟩ ?_
   refine HW.cond b_3 rfl (fun c_4 => ?_) (fun c_4 => ?_)
   ·
    replace hM := hM.1 c_4
    refine HW.seq ?_
    refine HW.region ?_
    refine oA (.bool false) rfl rfl ?_
    refine HO.nil (thenQ_normal (?_))
    refine HW.ret (thenQ_ret (blockQ_ret (thenQ_ret (thenQ_ret (blockQ_ret (thenQ_ret (?_)))))))
    refine ⟨.inr rfl, .bool false, res1 rfl (rt rfl), ?_⟩
    replace hS : St F_3 (fr) h_7 := hS.perm2 [] 3 rfl rfl
    exact ⟨F_3, false, rfl, hK, hS, hL_t_Links, hM⟩
   ·
    replace hM := hM.2 c_4
    refine HW.skip (thenQ_normal (?_))
    refine HW.region ?_
    refine oM (.map (some r_2)) rfl rfl ?_
    refine oV (.pointer (some ⟨b_2, 1, none⟩)) (q_fieldAddr fa_46_1 rfl rfl) rfl ?_
    refine oV (.int .i64 ((gi t_Links n_1).2)) (q_load to_3 rfl (Blk.cell (hS.box 2 rfl) rfl)) rfl ?_
    refine oV (.int .i64 (mget0 into_1 ((gi t_Links n_1).2))) ((q_lookup (k := (gi t_Links n_1).2) ka_3 tmk_64 (hS.mp 1 rfl) rfl rfl).of_eq (mval0 (z := .int .i64 0) rfl)) rfl ?_
    obtain ⟨ho_4, hM⟩ := hM
    refine oV (.int .i64 ((mget0 into_1 ((gi t_Links n_1).2)) + 1)) (q_addN _ rfl rfl rfl ho_4.1 ho_4.2) rfl ?_
    refine HO.sto (want_none) rfl (st_mapUpdateK (k := (gi t_Links n_1).2) (v := (mget0 into_1 ((gi t_Links n_1).2)) + 1) hS (i := 1) rfl ka_3 tmk_64 rfl rfl rfl) ?_
    rintro h_8 ⟨hS, hk⟩
    replace hS : St F_3 (Ow.box b_1 24 #[.int .i64 t_Root, vt_Links] :: Ow.map r_2 kI kI (mset into_1 ((gi t_Links n_1).2) ((mget0 into_1 ((gi t_Links n_1).2)) + 1)) :: Ow.box b_2 46 #[.int .i64 ((gi t_Links n_1).1), .int .i64 ((gi t_Links n_1).2)] :: fr) h_8 := hS
    replace hK := hK.trans hk
    replace hL_t_Links := hL_t_Links.kp hk
    refine HO.nil (blockQ_normal (thenQ_normal (?_)))
    refine HW.region ?_
    obtain ⟨ho_5, hM⟩ := hM
    refine oV (.int .i64 (n_1 + 1)) (q_addN _ rfl rfl rfl ho_5.1 ho_5.2) rfl ?_
    refine oM (.int .i64 (n_1 + 1)) rfl rfl ?_
    refine HO.nil (thenQ_normal (?_))
    replace hS : St F_3 (Ow.box b_1 24 #[.int .i64 t_Root, vt_Links] :: Ow.map r_2 kI kI (mset into_1 ((gi t_Links n_1).2) ((mget0 into_1 ((gi t_Links n_1).2)) + 1)) :: fr) h_8 := hS.perm2 [0, 1] 3 rfl rfl
    rw [hKe_1] at hM
    exact ⟨(mset into_1 ((gi t_Links n_1).2) ((mget0 into_1 ((gi t_Links n_1).2)) + 1), n_1 + 1), ⟨F_3, rfl, rfl, rfl, rfl, rfl, rfl, hK, hS, hL_t_Links, hM.1⟩, hM.2⟩
 ·
  replace hM := hM.2 (of_decide_eq_false c_1)
  refine HW.exit (thenQ_exit (thenQ_exit (blockQ_exit (thenQ_normal (?_)))))
  refine HW.seq ?_
  refine HW.regionA 25 mixed (fun h => (SliceIs h 2 e_api_Branch vt_Links t_Links) ∧ (Blk h b_1 (.cells #[.int .i64 t_Root, vt_Links] 24 (0, 0))) ∧ (MapIs h r_2 kI kI into_1)) [] (by kernel_rfl) ?_
  refine HA.val (k := 0) (v := .pointer (some ⟨b_1, 1, none⟩)) rfl rfl (by kernel_rfl) (by kernel_rfl) (want_none) rfl (fun _ ⟨hL_t_Links, c353, c354⟩ => q_fieldAddr fa_24_1 rfl rfl) ?_
  refine HA.val (k := 1) (v := vt_Links) rfl rfl (by kernel_rfl) (by kernel_rfl) (want_none) rfl (fun _ ⟨hL_t_Links, c353, c354⟩ => q_load to_22 rfl (Blk.cell c353 rfl)) ?_
  refine HA.val (k := 2) (v := .int .i64 (t_Links.length : Int)) rfl rfl (by kernel_rfl) (by kernel_rfl) (want_none) rfl (fun _ ⟨hL_t_Links, c353, c354⟩ => q_len ts_22 (shp hL_t_Links) rfl rfl) ?_
  refine HA.val (k := 3) (v := .bool (decide ((t_Links.length : Int) < 256))) rfl rfl (by kernel_rfl) (by kernel_rfl) (want_none) rfl (fun _ ⟨hL_t_Links, c353, c354⟩ => q_lss rfl rfl) ?_
  refine HA.val (k := 4) (v := .bool (decide ((t_Links.length : Int) < 256))) rfl rfl (by kernel_rfl) (by kernel_rfl) (want_none) rfl (fun _ ⟨hL_t_Links, c353, c354⟩ => q_move rfl) ?_
  rcases Bool.eq_false_or_eq_true (decide ((t_Links.length : Int) < 256)) with c_5 | c_5
  ·
   replace hM := hM.1 (of_decide_eq_true c_5)
   refine HA.val (k := 5) (v := .map (some r_2)) rfl rfl (by kernel_rfl) (by kernel_rfl) (want_by rfl rfl c_5) rfl (fun _ ⟨hL_t_Links, c353, c354⟩ => q_move rfl) ?_
   refine HA.val (k := 6) (v := .int .i64 (into_1.length : Int)) rfl rfl (by kernel_rfl) (by kernel_rfl) (want_by rfl rfl c_5) rfl (fun _ ⟨hL_t_Links, c353, c354⟩ => q_lenMap Tryz.underlying64 c354 rfl rfl) ?_
   refine HA.val (k := 7) (v := .pointer (some ⟨b_1, 1, none⟩)) rfl rfl (by kernel_rfl) (by kernel_rfl) (want_by rfl rfl c_5) rfl (fun _ ⟨hL_t_Links, c353, c354⟩ => q_fieldAddr fa_24_1 rfl rfl) ?_
   refine HA.val (k := 8) (v := vt_Links) rfl rfl (by kernel_rfl) (by kernel_rfl) (want_by rfl rfl c_5) rfl (fun _ ⟨hL_t_Links, c353, c354⟩ => q_load to_22 rfl (Blk.cell c353 rfl)) ?_
   refine HA.val (k := 9) (v := .int .i64 (t_Links.length : Int)) rfl rfl (by kernel_rfl) (by kernel_rfl) (want_by rfl rfl c_5) rfl (fun _ ⟨hL_t_Links, c353, c354⟩ => q_len ts_22 (shp hL_t_Links) rfl rfl) ?_
   refine HA.val (k := 10) (v := .bool (decide ((into_1.length : Int) = (t_Links.length : Int)))) rfl rfl (by kernel_rfl) (by kernel_rfl) (want_by rfl rfl c_5) rfl (fun _ ⟨hL_t_Links, c353, c354⟩ => q_eql rfl rfl) ?_
   refine HA.val (k := 11) (v := .bool (decide ((into_1.length : Int) = (t_Links.length : Int)))) rfl rfl (by kernel_rfl) (by kernel_rfl) (want_none) rfl (fun _ ⟨hL_t_Links, c353, c354⟩ => q_pickK true rfl c_5 rfl) ?_
   refine HA.val (k := 12) (v := .bool (decide ((into_1.length : Int) = (t_Links.length : Int)))) rfl rfl (by kernel_rfl) (by kernel_rfl) (want_none) rfl (fun _ ⟨hL_t_Links, c353, c354⟩ => q_move rfl) ?_
   rcases Bool.eq_false_or_eq_true (decide ((into_1.length : Int) = (t_Links.length : Int))) with c_6 | c_6
   ·
    replace hM := hM.1 (of_decide_eq_true c_6)
    refine HA.val (k := 13) (v := .agg #[.int .i64 t_Root, vt_Links]) rfl rfl (by kernel_rfl) (by kernel_rfl) (want_by rfl rfl c_6) rfl (fun _ ⟨hL_t_Links, c353, c354⟩ => q_loadAgg (cs := [.int .i64 t_Root, vt_Links]) ta_24 rfl rfl (Blk.cells (k := 2) c353 rfl)) ?_
    refine HA.val (k := 14) (v := .pointer (some ⟨b_1, 0, none⟩)) rfl rfl (by kernel_rfl) (by kernel_rfl) (want_by rfl rfl c_6) rfl (fun _ ⟨hL_t_Links, c353, c354⟩ => q_fieldAddr fa_24_0 rfl rfl) ?_
    refine HA.val (k := 15) (v := .int .i64 t_Root) rfl rfl (by kernel_rfl) (by kernel_rfl) (want_by rfl rfl c_6) rfl (fun _ ⟨hL_t_Links, c353, c354⟩ => q_load to_3 rfl (Blk.cell c353 rfl)) ?_
    refine HA.val (k := 18) (v := .pointer (some ⟨b_1, 1, none⟩)) rfl rfl (by kernel_rfl) (by kernel_rfl) (want_by rfl rfl c_6) rfl (fun _ ⟨hL_t_Links, c353, c354⟩ => q_fieldAddr fa_24_1 rfl rfl) ?_
    refine HA.val (k := 19) (v := vt_Links) rfl rfl (by kernel_rfl) (by kernel_rfl) (want_by rfl rfl c_6) rfl (fun _ ⟨hL_t_Links, c353, c354⟩ => q_load to_22 rfl (Blk.cell c353 rfl)) ?_
    refine HA.val (k := 20) (v := .int .i64 (t_Links.length : Int)) rfl rfl (by kernel_rfl) (by kernel_rfl) (want_by rfl rfl c_6) rfl (fun _ ⟨hL_t_Links, c353, c354⟩ => q_len ts_22 (shp hL_t_Links) rfl rfl) ?_
    obtain ⟨ho_6, hM⟩ := hM
    refine HA.val (k := 21) (v := .int .i64 ((t_Links.length : Int) + 1)) rfl rfl (by kernel_rfl) (by kernel_rfl) (want_by rfl rfl c_6) rfl (fun _ ⟨hL_t_Links, c353, c354⟩ => q_addN _ rfl rfl rfl ho_6.1 ho_6.2) ?_
    refine HA.one (k := 16) ⟨⟨hL_t_Links.is, (hS.box 0 rfl), (hS.mp 1 rfl)⟩, (Go.Wk.at_nil _ _)⟩ (by kernel_rfl) ?_
    refine HS.call rfl (want_by rfl rfl c_6) rfl (ec en_53 rfl rfl) (tree_walk_walk (fr := (Ow.box b_1 24 #[.int .i64 t_Root, vt_Links] :: Ow.map r_2 kI kI into_1 :: fr)) t_Root t_Links t_Root vt_Links hS hL_t_Links hM) ?_
    rintro vr_1 h_9 ⟨F_4, r_4, _, rfl, hk, hS, _, hM⟩
    replace hK := hK.trans hk
    replace hL_t_Links := hL_t_Links.kp hk
    refine Go.Wk.HA.re (fun h => (SliceIs h 2 e_api_Branch vt_Links t_Links) ∧ (OwnIs h 0 3 1 encI vr_1 r_4) ∧ (Blk h b_1 (.cells #[.int .i64 t_Root, vt_Links] 24 (0, 0))) ∧ (MapIs h r_2 kI kI into_1)) [] (fun L_ h_ hL_ ⟨hL_t_Links, c451, c353, c354⟩ hs_ => ⟨⟨hL_t_Links, c353, c354⟩, (Go.Wk.at_nil _ _)⟩) ?_
    refine HA.val (k := 17) (v := .int .i64 (r_4.length : Int)) rfl rfl (by kernel_rfl) (by kernel_rfl) (want_by rfl rfl c_6) rfl (fun _ ⟨hL_t_Links, c451, c353, c354⟩ => q_len ts_36 (shp c451.slice) rfl rfl) ?_
    refine HA.val (k := 22) (v := .bool (decide ((r_4.length : Int) = ((t_Links.length : Int) + 1)))) rfl rfl (by kernel_rfl) (by kernel_rfl) (want_by rfl rfl c_6) rfl (fun _ ⟨hL_t_Links, c451, c353, c354⟩ => q_eql rfl rfl) ?_
    refine HA.val (k := 23) (v := .bool (decide ((r_4.length : Int) = ((t_Links.length : Int) + 1)))) rfl rfl (by kernel_rfl) (by kernel_rfl) (want_none) rfl (fun _ ⟨hL_t_Links, c451, c353, c354⟩ => q_pickK true rfl c_6 rfl) ?_
    refine HA.val (k := 24) (v := .bool (decide ((r_4.length : Int) = ((t_Links.length : Int) + 1)))) rfl rfl (by kernel_rfl) (by kernel_rfl) (want_none) rfl (fun _ ⟨hL_t_Links, c451, c353, c354⟩ => q_assign rfl) ?_
    refine HA.nil ⟨⟨hL_t_Links.is, (hS.own 0 rfl), (hS.box 1 rfl), (hS.mp 2 rfl)⟩, (Go.Wk.at_nil _ _)⟩ (by kernel_rfl) (thenQ_normal (?_))
    refine HW.ret (?_)
    refine ⟨.inr rfl, .bool (decide ((r_4.length : Int) = ((t_Links.length : Int) + 1))), res1 rfl (rt rfl), ?_⟩
    replace hS : St F_4 (fr) h_9 := hS.perm2 [] 3 rfl rfl
    exact ⟨F_4, decide ((r_4.length : Int) = ((t_Links.length : Int) + 1)), rfl, hK, hS, hL_t_Links, hM⟩
   ·
    replace hM := hM.2 (of_decide_eq_false c_6)
    refine HA.past (k := 13) rfl rfl (by kernel_rfl) (by kernel_rfl) (past_by rfl rfl c_6) rfl ?_
    refine HA.past (k := 14) rfl rfl (by kernel_rfl) (by kernel_rfl) (past_by rfl rfl c_6) rfl ?_
    refine HA.past (k := 15) rfl rfl (by kernel_rfl) (by kernel_rfl) (past_by rfl rfl c_6) rfl ?_
    refine HA.past (k := 18) rfl rfl (by kernel_rfl) (by kernel_rfl) (past_by rfl rfl c_6) rfl ?_
    refine HA.past (k := 19) rfl rfl (by kernel_rfl) (by kernel_rfl) (past_by rfl rfl c_6) rfl ?_
    refine HA.past (k := 20) rfl rfl (by kernel_rfl) (by kernel_rfl) (past_by rfl rfl c_6) rfl ?_
    refine HA.past (k := 21) rfl rfl (by kernel_rfl) (by kernel_rfl) (past_by rfl rfl c_6) rfl ?_
    refine HA.one (k := 16) ⟨⟨hL_t_Links.is, (hS.box 0 rfl), (hS.mp 1 rfl)⟩, (Go.Wk.at_nil _ _)⟩ (by kernel_rfl) ?_
    refine HS.past rfl (past_by rfl rfl c_6) rfl ?_
    refine HA.past (k := 17) rfl rfl (by kernel_rfl) (by kernel_rfl) (past_by rfl rfl c_6) rfl ?_
    refine HA.past (k := 22) rfl rfl (by kernel_rfl) (by kernel_rfl) (past_by rfl rfl c_6) rfl ?_
    refine HA.val (k := 23) (v := .bool false) rfl rfl (by kernel_rfl) (by kernel_rfl) (want_none) rfl (fun _ ⟨hL_t_Links, c353, c354⟩ => q_pickK false rfl c_6 rfl) ?_
    refine HA.val (k := 24) (v := .bool false) rfl rfl (by kernel_rfl) (by kernel_rfl) (want_none) rfl (fun _ ⟨hL_t_Links, c353, c354⟩ => q_assign rfl) ?_
    refine HA.nil ⟨⟨hL_t_Links.is, (hS.box 0 rfl), (hS.mp 1 rfl)⟩, (Go.Wk.at_nil _ _)⟩ (by kernel_rfl) (thenQ_normal (?_))
    refine HW.ret (?_)
    refine ⟨.inr rfl, .bool false, res1 rfl (rt rfl), ?_⟩
    replace hS : St F_1 (fr) h_3 := hS.perm2 [] 2 rfl rfl
    exact ⟨F_1, false, rfl, hK, hS, hL_t_Links, hM⟩
  ·
   replace hM := hM.2 (of_decide_eq_false c_5)
   refine HA.past (k := 5) rfl rfl (by kernel_rfl) (by kernel_rfl) (past_by rfl rfl c_5) rfl ?_
   refine HA.past (k := 6) rfl rfl (by kernel_rfl) (by kernel_rfl) (past_by rfl rfl c_5) rfl ?_
   refine HA.past (k := 7) rfl rfl (by kernel_rfl) (by kernel_rfl) (past_by rfl rfl c_5) rfl ?_
   refine HA.past (k := 8) rfl rfl (by kernel_rfl) (by kernel_rfl) (past_by rfl rfl c_5) rfl ?_
   refine HA.past (k := 9) rfl rfl (by kernel_rfl) (by kernel_rfl) (past_by rfl rfl c_5) rfl ?_
   refine HA.past (k := 10) rfl rfl (by kernel_rfl) (by kernel_rfl) (past_by rfl rfl c_5) rfl ?_
   refine HA.val (k := 11) (v := .bool false) rfl rfl (by kernel_rfl) (by kernel_rfl) (want_none) rfl (fun _ ⟨hL_t_Links, c353, c354⟩ => q_pickK false rfl c_5 rfl) ?_
   refine HA.val (k := 12) (v := .bool false) rfl rfl (by kernel_rfl) (by kernel_rfl) (want_none) rfl (fun _ ⟨hL_t_Links, c353, c354⟩ => q_move rfl) ?_
   refine HA.past (k := 13) rfl rfl (by kernel_rfl) (by kernel_rfl) (past_some rfl rfl) rfl ?_
   refine HA.past (k := 14) rfl rfl (by kernel_rfl) (by kernel_rfl) (past_some rfl rfl) rfl ?_
   refine HA.past (k := 15) rfl rfl (by kernel_rfl) (by kernel_rfl) (past_some rfl rfl) rfl ?_
   refine HA.past (k := 18) rfl rfl (by kernel_rfl) (by kernel_rfl) (past_some rfl rfl) rfl ?_
   refine HA.past (k := 19) rfl rfl (by kernel_rfl) (by kernel_rfl) (past_some rfl rfl) rfl ?_
   refine HA.past (k := 20) rfl rfl (by kernel_rfl) (by kernel_rfl) (past_some rfl rfl) rfl ?_
   refine HA.past (k := 21) rfl rfl (by kernel_rfl) (by kernel_rfl) (past_some rfl rfl) rfl ?_
   refine HA.one (k := 16) ⟨⟨hL_t_Links.is, (hS.box 0 rfl), (hS.mp 1 rfl)⟩, (Go.Wk.at_nil _ _)⟩ (by kernel_rfl) ?_
   refine HS.past rfl (past_some rfl rfl) rfl ?_
   refine HA.past (k := 17) rfl rfl (by kernel_rfl) (by kernel_rfl) (past_some rfl rfl) rfl ?_
   refine HA.past (k := 22) rfl rfl (by kernel_rfl) (by kernel_rfl) (past_some rfl rfl) rfl ?_
   refine HA.val (k := 23) (v := .bool false) rfl rfl (by kernel_rfl) (by kernel_rfl) (want_none) rfl (fun _ ⟨hL_t_Links, c353, c354⟩ => q_pick rfl rfl) ?_
   refine HA.val (k := 24) (v := .bool false) rfl rfl (by kernel_rfl) (by kernel_rfl) (want_none) rfl (fun _ ⟨hL_t_Links, c353, c354⟩ => q_assign rfl) ?_
   refine HA.nil ⟨⟨hL_t_Links.is, (hS.box 0 rfl), (hS.mp 1 rfl)⟩, (Go.Wk.at_nil _ _)⟩ (by kernel_rfl) (thenQ_normal (?_))
   refine HW.ret (?_)
   refine ⟨.inr rfl, .bool false, res1 rfl (rt rfl), ?_⟩
   replace hS : St F_1 (fr) h_3 := hS.perm2 [] 2 rfl rfl
   exact ⟨F_1, false, rfl, hK, hS, hL_t_Links, hM⟩
end Go.Wk
