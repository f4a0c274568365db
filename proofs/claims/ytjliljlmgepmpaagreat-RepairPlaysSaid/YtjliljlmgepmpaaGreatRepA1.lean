/- Walks of repair: what both laws share. -/
import Derived.Test.YtjliljlmgepmpaaGreatStrs
import Derived.Test.YtjliljlmgepmpaaGreatTxt
import Derived.Test.YtjliljlmgepmpaaGreatNest
import Derived.Test.YtjliljlmgepmpaaGreatBag
import Derived.Test.YtjliljlmgepmpaaGreatGrw
import Derived.Test.YtjliljlmgepmpaaGreatTight
import Derived.Test.YtjliljlmgepmpaaGreatRf
import Derived.Test.YtjliljlmgepmpaaGreatLayRe
import Derived.Test.YtjliljlmgepmpaaGreatIns
import Derived.Test.YtjliljlmgepmpaaGreatProg
set_option linter.unusedSimpArgs false
set_option linter.unusedVariables false
set_option linter.unusedSectionVars false
set_option maxHeartbeats 40000000
set_option maxRecDepth 100000
namespace Go.Wk
open Go.HL
open Go.Proofs hiding encI
variable [DM]
abbrev TB := Int × Int
abbrev T_s_int := Value × List Int
def eB (x : TB) : List Value := [.int .i64 x.1, .int .i64 x.2]
def e_s_int (x : T_s_int) : List Value := [x.1]
def nf_s_int : Nf T_s_int := Nf.sl 1 encI
theorem fa_31_1 : FieldAt Tryz.prog 31 1 1 := fun a w => by kernel_rfl
theorem to_29 : TOne Tryz.prog 29 := ⟨Tryz.isAgg29, Tryz.sizeOf29⟩
theorem ts_29 : TSlice Tryz.prog 29 52 2 := ⟨Tryz.underlying29, Tryz.sizeOf52⟩
theorem ta_52 : TAgg Tryz.prog 52 2 := ⟨Tryz.isAgg52, Tryz.sizeOf52⟩
theorem tz_52 : TZero Tryz.prog 52 (.agg #[.int .i64 0, .int .i64 0]) := Tryz.zeroValue52
theorem fa_52_0 : FieldAt Tryz.prog 52 0 0 := fun a w => by kernel_rfl
theorem to_3 : TOne Tryz.prog 3 := ⟨Tryz.isAgg3, Tryz.sizeOf3⟩
theorem tz_22 : TZero Tryz.prog 22 (.slice none 0 0) := Tryz.zeroValue22
theorem tmk_79 : TMapK Tryz.prog 79 3 22 (.slice none 0 0) := ⟨Tryz.underlying79, tz_22⟩
theorem ka_3 : KeyAt Tryz.prog 3 kI := keyAt_of keyOk_int Tryz.underlying3
theorem fa_52_1 : FieldAt Tryz.prog 52 1 1 := fun a w => by kernel_rfl
theorem tz_3 : TZero Tryz.prog 3 (.int .i64 0) := Tryz.zeroValue3
theorem ts_22 : TSlice Tryz.prog 22 3 1 := ⟨Tryz.underlying22, Tryz.sizeOf3⟩
theorem tl_22 : TLit Tryz.prog 22 3 1 #[.int .i64 0] := tlit ts_22 tz_3 rfl
theorem te_22 : TElem Tryz.prog 22 3 1 8 := ⟨Tryz.underlying22, ⟨Tryz.t3, .int .i64 0, by kernel_rfl, by kernel_rfl, by kernel_rfl, by kernel_rfl, by kernel_rfl⟩, by decide⟩
theorem mixed : Tryz.prog.follows .mixedOrders = true := by kernel_rfl
theorem ta_31 : TAgg Tryz.prog 31 2 := ⟨Tryz.isAgg31, Tryz.sizeOf31⟩
theorem en_75 (args : Array Value) (w : World) : (callFunc 75 args).run Tryz.prog w = .ok (.enter 75 args) w := by kernel_rfl
theorem tmk_94 : TMapK Tryz.prog 94 3 3 (.int .i64 0) := ⟨Tryz.underlying94, tz_3⟩
theorem fa_31_0 : FieldAt Tryz.prog 31 0 0 := fun a w => by kernel_rfl
theorem to_79 : TOne Tryz.prog 79 := ⟨Tryz.isAgg79, Tryz.sizeOf79⟩
theorem en_61 (args : Array Value) (w : World) : (callFunc 61 args).run Tryz.prog w = .ok (.enter 61 args) w := by kernel_rfl
theorem en_94 (args : Array Value) (w : World) : (callFunc 94 args).run Tryz.prog w = .ok (.enter 94 args) w := by kernel_rfl
theorem tz_79 : TZero Tryz.prog 79 (.map none) := Tryz.zeroValue79
theorem en_78 (args : Array Value) (w : World) : (callFunc 78 args).run Tryz.prog w = .ok (.enter 78 args) w := by kernel_rfl
theorem en_79 (args : Array Value) (w : World) : (callFunc 79 args).run Tryz.prog w = .ok (.enter 79 args) w := by kernel_rfl
theorem en_77 (args : Array Value) (w : World) : (callFunc 77 args).run Tryz.prog w = .ok (.enter 77 args) w := by kernel_rfl
theorem en_76 (args : Array Value) (w : World) : (callFunc 76 args).run Tryz.prog w = .ok (.enter 76 args) w := by kernel_rfl
theorem en_109 (args : Array Value) (w : World) : (callFunc 109 args).run Tryz.prog w = .ok (.enter 109 args) w := by kernel_rfl
theorem en_97 (args : Array Value) (w : World) : (callFunc 97 args).run Tryz.prog w = .ok (.enter 97 args) w := by kernel_rfl
theorem en_98 (args : Array Value) (w : World) : (callFunc 98 args).run Tryz.prog w = .ok (.enter 98 args) w := by kernel_rfl
theorem en_86 (args : Array Value) (w : World) : (callFunc 86 args).run Tryz.prog w = .ok (.enter 86 args) w := by kernel_rfl
theorem en_82 (args : Array Value) (w : World) : (callFunc 82 args).run Tryz.prog w = .ok (.enter 82 args) w := by kernel_rfl
theorem en_87 (args : Array Value) (w : World) : (callFunc 87 args).run Tryz.prog w = .ok (.enter 87 args) w := by kernel_rfl
theorem en_67 (args : Array Value) (w : World) : (callFunc 67 args).run Tryz.prog w = .ok (.enter 67 args) w := by kernel_rfl
theorem en_72 (args : Array Value) (w : World) : (callFunc 72 args).run Tryz.prog w = .ok (.enter 72 args) w := by kernel_rfl
theorem tz_31 : TZero Tryz.prog 31 (.agg #[.int .i64 0, .slice none 0 0]) := Tryz.zeroValue31
theorem tp_31 : TPlaces Tryz.prog 31 #[(0, 1), (1, 1)] #[.int .i64 0, .slice none 0 0] := tplaces Tryz.runUnderlying31 Tryz.zeroValue31 rfl (fun w => by kernel_rfl)
theorem tp_52 : TPlaces Tryz.prog 52 #[(0, 1), (1, 1)] #[.int .i64 0, .int .i64 0] := tplaces Tryz.runUnderlying52 Tryz.zeroValue52 rfl (fun w => by kernel_rfl)
theorem tl_29 : TLit Tryz.prog 29 52 2 #[.int .i64 0, .int .i64 0] := tlit ts_29 tz_52 rfl
theorem te_29 : TElem Tryz.prog 29 52 2 16 := ⟨Tryz.underlying29, ⟨Tryz.t52, .agg #[.int .i64 0, .int .i64 0], by kernel_rfl, by kernel_rfl, by kernel_rfl, by kernel_rfl, by kernel_rfl⟩, by decide⟩
theorem nfm_s_int {F : Fz} {h : Heap} (x : T_s_int) (s : SliceF F h 1 encI x.1 x.2) : (nf_s_int).p F h x := s
theorem nfi_s_int_0 {h : Heap} {x : T_s_int} (s : (nf_s_int).q h x) : SliceIs h 1 encI x.1 x.2 := s
theorem ts_87 : TSlice Tryz.prog 87 22 1 := ⟨Tryz.underlying87, Tryz.sizeOf22⟩
theorem to_22 : TOne Tryz.prog 22 := ⟨Tryz.isAgg22, Tryz.sizeOf22⟩
theorem en_89 (args : Array Value) (w : World) : (callFunc 89 args).run Tryz.prog w = .ok (.enter 89 args) w := by kernel_rfl
theorem en_104 (args : Array Value) (w : World) : (callFunc 104 args).run Tryz.prog w = .ok (.enter 104 args) w := by kernel_rfl
theorem apv_111 {F : Fz} {os : List Ow} {h : Heap} {b : Nat} {sv : Value} {l : List TB} (hS : St F os h) (hB : Blk h b (.cells #[sv] 29 (0, 0))) (hX : SliceIs h 2 eB sv l) (hN : l.length * 16 ≤ 140737488355328) :
    HC Tryz.prog 111 #[.slice none 0 0, .func (.func 104) #[] #[.pointer (some ⟨b, 0, none⟩)]] h fun u h' => St F (Ow.own 52 2 eB u l :: os) h' ∧ Kp F h F h' :=
  appendV_hc (enc := eB) Tryz.func111 rfl rfl rfl Tryz.func104 rfl rfl rfl en_104 te_29 ts_29 ta_52 to_29 tz_52 rfl tl_29 (by decide) (fun _ => rfl) (by intro a u hu; simp [eB, encI, encN, encB, encT] at hu; rcases hu with rfl | rfl <;> rfl) hS hB hX hN
theorem en_111 (args : Array Value) (w : World) : (callFunc 111 args).run Tryz.prog w = .ok (.enter 111 args) w := by kernel_rfl
theorem en_102 (args : Array Value) (w : World) : (callFunc 102 args).run Tryz.prog w = .ok (.enter 102 args) w := by kernel_rfl
theorem en_103 (args : Array Value) (w : World) : (callFunc 103 args).run Tryz.prog w = .ok (.enter 103 args) w := by kernel_rfl
theorem en_106 (args : Array Value) (w : World) : (callFunc 106 args).run Tryz.prog w = .ok (.enter 106 args) w := by kernel_rfl
theorem en_105 (args : Array Value) (w : World) : (callFunc 105 args).run Tryz.prog w = .ok (.enter 105 args) w := by kernel_rfl
theorem en_92 (args : Array Value) (w : World) : (callFunc 92 args).run Tryz.prog w = .ok (.enter 92 args) w := by kernel_rfl
theorem en_91 (args : Array Value) (w : World) : (callFunc 91 args).run Tryz.prog w = .ok (.enter 91 args) w := by kernel_rfl
theorem en_90 (args : Array Value) (w : World) : (callFunc 90 args).run Tryz.prog w = .ok (.enter 90 args) w := by kernel_rfl
theorem en_93 (args : Array Value) (w : World) : (callFunc 93 args).run Tryz.prog w = .ok (.enter 93 args) w := by kernel_rfl
theorem en_70 (args : Array Value) (w : World) : (callFunc 70 args).run Tryz.prog w = .ok (.enter 70 args) w := by kernel_rfl
theorem en_71 (args : Array Value) (w : World) : (callFunc 71 args).run Tryz.prog w = .ok (.enter 71 args) w := by kernel_rfl
theorem tl_87 : TLit Tryz.prog 87 22 1 #[.slice none 0 0] := tlit ts_87 tz_22 rfl
theorem en_73 (args : Array Value) (w : World) : (callFunc 73 args).run Tryz.prog w = .ok (.enter 73 args) w := by kernel_rfl
theorem en_74 (args : Array Value) (w : World) : (callFunc 74 args).run Tryz.prog w = .ok (.enter 74 args) w := by kernel_rfl
theorem en_85 (args : Array Value) (w : World) : (callFunc 85 args).run Tryz.prog w = .ok (.enter 85 args) w := by kernel_rfl
theorem en_95 (args : Array Value) (w : World) : (callFunc 95 args).run Tryz.prog w = .ok (.enter 95 args) w := by kernel_rfl
theorem en_57 (args : Array Value) (w : World) : (callFunc 57 args).run Tryz.prog w = .ok (.enter 57 args) w := by kernel_rfl
theorem en_81 (args : Array Value) (w : World) : (callFunc 81 args).run Tryz.prog w = .ok (.enter 81 args) w := by kernel_rfl
theorem en_49 (args : Array Value) (w : World) : (callFunc 49 args).run Tryz.prog w = .ok (.enter 49 args) w := by kernel_rfl
theorem en_64 (args : Array Value) (w : World) : (callFunc 64 args).run Tryz.prog w = .ok (.enter 64 args) w := by kernel_rfl
theorem en_47 (args : Array Value) (w : World) : (callFunc 47 args).run Tryz.prog w = .ok (.enter 47 args) w := by kernel_rfl
theorem en_59 (args : Array Value) (w : World) : (callFunc 59 args).run Tryz.prog w = .ok (.enter 59 args) w := by kernel_rfl
theorem en_43 (args : Array Value) (w : World) : (callFunc 43 args).run Tryz.prog w = .ok (.enter 43 args) w := by kernel_rfl
theorem en_46 (args : Array Value) (w : World) : (callFunc 46 args).run Tryz.prog w = .ok (.enter 46 args) w := by kernel_rfl
theorem en_51 (args : Array Value) (w : World) : (callFunc 51 args).run Tryz.prog w = .ok (.enter 51 args) w := by kernel_rfl
theorem en_60 (args : Array Value) (w : World) : (callFunc 60 args).run Tryz.prog w = .ok (.enter 60 args) w := by kernel_rfl
theorem en_50 (args : Array Value) (w : World) : (callFunc 50 args).run Tryz.prog w = .ok (.enter 50 args) w := by kernel_rfl
theorem en_62 (args : Array Value) (w : World) : (callFunc 62 args).run Tryz.prog w = .ok (.enter 62 args) w := by kernel_rfl
theorem en_63 (args : Array Value) (w : World) : (callFunc 63 args).run Tryz.prog w = .ok (.enter 63 args) w := by kernel_rfl
theorem en_65 (args : Array Value) (w : World) : (callFunc 65 args).run Tryz.prog w = .ok (.enter 65 args) w := by kernel_rfl
theorem en_55 (args : Array Value) (w : World) : (callFunc 55 args).run Tryz.prog w = .ok (.enter 55 args) w := by kernel_rfl
theorem en_36 (args : Array Value) (w : World) : (callFunc 36 args).run Tryz.prog w = .ok (.enter 36 args) w := by kernel_rfl
theorem en_83 (args : Array Value) (w : World) : (callFunc 83 args).run Tryz.prog w = .ok (.enter 83 args) w := by kernel_rfl
theorem en_96 (args : Array Value) (w : World) : (callFunc 96 args).run Tryz.prog w = .ok (.enter 96 args) w := by kernel_rfl
theorem en_84 (args : Array Value) (w : World) : (callFunc 84 args).run Tryz.prog w = .ok (.enter 84 args) w := by kernel_rfl
theorem en_53 (args : Array Value) (w : World) : (callFunc 53 args).run Tryz.prog w = .ok (.enter 53 args) w := by kernel_rfl
theorem en_54 (args : Array Value) (w : World) : (callFunc 54 args).run Tryz.prog w = .ok (.enter 54 args) w := by kernel_rfl
theorem en_56 (args : Array Value) (w : World) : (callFunc 56 args).run Tryz.prog w = .ok (.enter 56 args) w := by kernel_rfl
theorem en_58 (args : Array Value) (w : World) : (callFunc 58 args).run Tryz.prog w = .ok (.enter 58 args) w := by kernel_rfl
theorem en_30 (args : Array Value) (w : World) : (callFunc 30 args).run Tryz.prog w = .ok (.enter 30 args) w := by kernel_rfl
theorem en_101 (args : Array Value) (w : World) : (callFunc 101 args).run Tryz.prog w = .ok (.enter 101 args) w := by kernel_rfl
theorem en_88 (args : Array Value) (w : World) : (callFunc 88 args).run Tryz.prog w = .ok (.enter 88 args) w := by kernel_rfl
theorem en_68 (args : Array Value) (w : World) : (callFunc 68 args).run Tryz.prog w = .ok (.enter 68 args) w := by kernel_rfl
theorem en_16 (args : Array Value) (w : World) : (callFunc 16 args).run Tryz.prog w = .ok (.enter 16 args) w := by kernel_rfl
theorem en_9 (args : Array Value) (w : World) : (callFunc 9 args).run Tryz.prog w = .ok (.enter 9 args) w := by kernel_rfl
theorem en_44 (args : Array Value) (w : World) : (callFunc 44 args).run Tryz.prog w = .ok (.enter 44 args) w := by kernel_rfl
theorem en_20 (args : Array Value) (w : World) : (callFunc 20 args).run Tryz.prog w = .ok (.enter 20 args) w := by kernel_rfl
theorem en_8 (args : Array Value) (w : World) : (callFunc 8 args).run Tryz.prog w = .ok (.enter 8 args) w := by kernel_rfl
theorem en_17 (args : Array Value) (w : World) : (callFunc 17 args).run Tryz.prog w = .ok (.enter 17 args) w := by kernel_rfl
theorem en_66 (args : Array Value) (w : World) : (callFunc 66 args).run Tryz.prog w = .ok (.enter 66 args) w := by kernel_rfl
theorem en_37 (args : Array Value) (w : World) : (callFunc 37 args).run Tryz.prog w = .ok (.enter 37 args) w := by kernel_rfl
theorem en_35 (args : Array Value) (w : World) : (callFunc 35 args).run Tryz.prog w = .ok (.enter 35 args) w := by kernel_rfl
theorem en_41 (args : Array Value) (w : World) : (callFunc 41 args).run Tryz.prog w = .ok (.enter 41 args) w := by kernel_rfl
theorem en_52 (args : Array Value) (w : World) : (callFunc 52 args).run Tryz.prog w = .ok (.enter 52 args) w := by kernel_rfl
theorem en_29 (args : Array Value) (w : World) : (callFunc 29 args).run Tryz.prog w = .ok (.enter 29 args) w := by kernel_rfl
theorem en_27 (args : Array Value) (w : World) : (callFunc 27 args).run Tryz.prog w = .ok (.enter 27 args) w := by kernel_rfl
theorem en_28 (args : Array Value) (w : World) : (callFunc 28 args).run Tryz.prog w = .ok (.enter 28 args) w := by kernel_rfl
theorem en_32 (args : Array Value) (w : World) : (callFunc 32 args).run Tryz.prog w = .ok (.enter 32 args) w := by kernel_rfl
theorem en_21 (args : Array Value) (w : World) : (callFunc 21 args).run Tryz.prog w = .ok (.enter 21 args) w := by kernel_rfl
theorem en_7 (args : Array Value) (w : World) : (callFunc 7 args).run Tryz.prog w = .ok (.enter 7 args) w := by kernel_rfl
theorem en_34 (args : Array Value) (w : World) : (callFunc 34 args).run Tryz.prog w = .ok (.enter 34 args) w := by kernel_rfl
theorem en_33 (args : Array Value) (w : World) : (callFunc 33 args).run Tryz.prog w = .ok (.enter 33 args) w := by kernel_rfl
theorem fa_24_1 : FieldAt Tryz.prog 24 1 1 := fun a w => by kernel_rfl
theorem fa_24_0 : FieldAt Tryz.prog 24 0 0 := fun a w => by kernel_rfl
theorem fa_24_2 : FieldAt Tryz.prog 24 2 2 := fun a w => by kernel_rfl
theorem fa_24_3 : FieldAt Tryz.prog 24 3 3 := fun a w => by kernel_rfl
theorem to_5 : TOne Tryz.prog 5 := ⟨Tryz.isAgg5, Tryz.sizeOf5⟩
theorem teq_52 (d : Nat) (a b : TB) (w : World) : (Op.equalIn (d + 2) 52 (.agg #[.int .i64 a.1, .int .i64 a.2]) (.agg #[.int .i64 b.1, .int .i64 b.2])).run Tryz.prog w = .ok (decide (a = b)) w := by
  refine (eqs w (d + 1) 52 _ _ Tryz.underlying52 (by kernel_rfl) (eqf_cons w (a := .int .i64 a.1) (b := .int .i64 b.1) (by decide) (by kernel_rfl) (by kernel_rfl) (run_equalIn_int w _ _ _ _ _ _ Tryz.underlying3) (eqf_cons w (a := .int .i64 a.2) (b := .int .i64 b.2) (by decide) (by kernel_rfl) (by kernel_rfl) (run_equalIn_int w _ _ _ _ _ _ Tryz.underlying3) (eqf_nil w)))).trans ?_
  congr 1; rw [Bool.eq_iff_iff]; simp [Prod.ext_iff]
theorem en_38 (args : Array Value) (w : World) : (callFunc 38 args).run Tryz.prog w = .ok (.enter 38 args) w := by kernel_rfl
theorem en_39 (args : Array Value) (w : World) : (callFunc 39 args).run Tryz.prog w = .ok (.enter 39 args) w := by kernel_rfl
theorem en_40 (args : Array Value) (w : World) : (callFunc 40 args).run Tryz.prog w = .ok (.enter 40 args) w := by kernel_rfl
theorem en_42 (args : Array Value) (w : World) : (callFunc 42 args).run Tryz.prog w = .ok (.enter 42 args) w := by kernel_rfl
theorem en_14 (args : Array Value) (w : World) : (callFunc 14 args).run Tryz.prog w = .ok (.enter 14 args) w := by kernel_rfl
theorem en_11 (args : Array Value) (w : World) : (callFunc 11 args).run Tryz.prog w = .ok (.enter 11 args) w := by kernel_rfl
def tree_nexts_l1 (tL : List TB) (Q : (List (Int × Value × List Int)) → Prop) (K_1 : (List (Int × Value × List Int)) → Int → Prop) (out_1 : List (Int × Value × List Int)) (n_1 : Int) : Prop :=
 (n_1 < (tL.length : Int) → ((0 : Int) ≤ n_1 ∧ n_1 < (tL.length : Int)) ∧ (((((bagAt out_1 ((gi tL n_1).1)).2).length + ([(gi tL n_1).2] : List Int).length) * 8 ≤ 140737488355328) ∧ (∀ v_1 : Value, ((I64 (n_1 + 1)) ∧ (K_1 (mset out_1 ((gi tL n_1).1) (v_1, ((bagAt out_1 ((gi tL n_1).1)).2) ++ ([(gi tL n_1).2] : List Int))) (n_1 + 1)))))) ∧ (¬ (n_1 < (tL.length : Int)) → Q out_1)
def tree_nexts_W (tR : Int) (tL : List TB) (Q : (List (Int × Value × List Int)) → Prop) : Prop :=
 loopW (fun (K_1 : ((List (Int × Value × List Int)) × Int) → Prop) (s : (List (Int × Value × List Int)) × Int) => tree_nexts_l1 tL Q (fun out_1 n_1 => K_1 (out_1, n_1)) s.1 s.2) ([], 0)
theorem tree_nexts_walk {F : Fz} {fr : List Ow} {h0 : Heap} (tR : Int) (tL : List TB) (vT : Value) (hS : St F (fr) h0) (hLT : SliceF F h0 2 eB vT tL) {Q : (List (Int × Value × List Int)) → Prop} (hM : tree_nexts_W tR tL Q) :
  HC Tryz.prog 75 #[.agg #[.int .i64 tR, vT]] h0 fun u h' => ∃ (F' : Fz) (r_2 : List (Int × Value × List Int)) (r_1 : Nat), u = .map (some r_1) ∧ Kp F h0 F' h' ∧ St F' (Ow.bag r_1 kI 3 1 encI r_2 none :: fr) h' ∧ (SliceF F' h' 2 eB vT tL) ∧ Q r_2 := by
 unfold tree_nexts_W at hM
 have hK := Kp.refl F h0
 refine HC.of_HW (n := 27) Tryz.func75 rfl rfl (Nat.le_of_ble_eq_true rfl) ?_
 refine HW.seq ?_
 refine HW.region ?_
 refine HO.eff (wn) rfl (st_box (c := #[.int .i64 tR, vT]) (k' := 2) hS rfl rfl) ?_
 rintro _ h_1 ⟨b_1, rfl, hS, hk⟩
 replace hK := hK.trans hk
 replace hLT := hLT.kp hk
 refine oA (.map none) rfl rfl ?_
 refine HO.nil (tqn (?_))
 refine HW.seq ?_
 refine HW.region ?_
 refine HO.eff (wn) rfl (st_makeBag (ek := kI) (E := 3) (kk := 1) (enc := encI) hS) ?_
 rintro _ h_2 ⟨r_3, rfl, hS, hk⟩
 replace hK := hK.trans hk
 replace hLT := hLT.kp hk
 refine oA (.map (some r_3)) rfl rfl ?_
 refine HO.nil (tqn (?_))
 refine HW.seq ?_
 refine HW.seq ?_
 refine HW.region ?_
 refine oV (.pointer (some ⟨b_1, 1, none⟩)) (qfA fa_31_1 rfl rfl) rfl ?_
 refine oV (vT) (q_load to_29 rfl (Blk.cell (hS.box 1 rfl) rfl)) rfl ?_
 refine oV (.int .i64 (tL.length : Int)) (q_len ts_29 (shp hLT.is) rfl rfl) rfl ?_
 refine oM (.int .i64 0) rfl rfl ?_
 refine HO.nil (tqn (?_))
 refine HW.block ?_
 obtain ⟨I_1, m_1, hI_1, hR_1⟩ := hM
 replace hS : St F (Ow.bag r_3 kI 3 1 encI ([] : List (Int × Value × List Int)) none :: fr) h_2 := hS.perm2 [0] 2 rfl rfl
 refine HW.loop (S := (List (Int × Value × List Int)) × Int) (fun s f h => match s with | (out_1, n_1) => ∃ (F' : Fz), f 2 = .map none ∧ f 3 = .map (some r_3) ∧ f 8 = vT ∧ f 9 = .int .i64 (tL.length : Int) ∧ f 10 = .int .i64 n_1 ∧ Kp F h0 F' h ∧ St F' (Ow.bag r_3 kI 3 1 encI out_1 none :: fr) h ∧ (SliceF F' h 2 eB vT tL) ∧ I_1 (out_1, n_1)) m_1 ([], 0) ⟨F, rfl, rfl, rfl, rfl, rfl, hK, hS, hLT, hI_1⟩ ?_
 rintro ⟨out_1, n_1⟩ f_1 h_3 ⟨F_1, e2, e3, e8, e9, e10, hK, hS, hLT, hI0⟩
 obtain ⟨K_1, hKe_1⟩ : ∃ K : (List (Int × Value × List Int)) → Int → Prop, K = fun out_1' n_1' => I_1 (out_1', n_1') ∧ m_1 (out_1', n_1') < m_1 (out_1, n_1) := ⟨_, rfl⟩
 have hM : tree_nexts_l1 tL Q K_1 out_1 n_1 := by rw [hKe_1]; exact hR_1 (out_1, n_1) hI0
 unfold tree_nexts_l1 at hM
 refine HW.fr [(2, .map none), (3, .map (some r_3)), (8, vT), (9, .int .i64 (tL.length : Int)), (10, .int .i64 n_1)] ⟨e2, e3, e8, e9, e10, trivial⟩ ?_
 refine HW.seq ?_
 refine HW.region ?_
 refine oV (.bool (decide (n_1 < (tL.length : Int)))) (q_lss rfl rfl) rfl ?_
 refine HO.nil (tqn (?_))
 refine HW.seq ?_
 refine HW.cond (decide (n_1 < (tL.length : Int))) rfl (fun c_1 => ?_) (fun c_1 => ?_)
 ·
  replace hM := hM.1 (of_decide_eq_true c_1)
  refine HW.skip (tqn (?_))
  refine HW.seq ?_
  refine HW.block ?_
  refine HW.seq ?_
  refine HW.region ?_
  obtain ⟨ho_1, hM⟩ := hM
  refine oV (elemPtr 2 vT (n_1).toNat) (q_idx ts_29 hLT.is rfl rfl ho_1) rfl ?_
  refine oV (.agg #[.int .i64 ((gi tL n_1).1), .int .i64 ((gi tL n_1).2)]) (q_ldElemAgg (cs := [.int .i64 ((gi tL n_1).1), .int .i64 ((gi tL n_1).2)]) ta_52 hLT.is rfl ho_1 rfl) rfl ?_
  refine HO.eff (wn) rfl (st_alloc (c := #[.int .i64 0, .int .i64 0]) hS tz_52 rfl) ?_
  rintro _ h_4 ⟨b_2, rfl, hS, hk⟩
  replace hK := hK.trans hk
  replace hLT := hLT.kp hk
  refine HO.sto (wn) rfl (st_storeAgg (c' := #[.int .i64 ((gi tL n_1).1), .int .i64 ((gi tL n_1).2)]) hS (i := 0) rfl ta_52 rfl rfl rfl (by simp [Value.oneCell']) (Nat.le_of_ble_eq_true rfl) rfl) ?_
  rintro h_5 ⟨hS, hk⟩
  replace hK := hK.trans hk
  replace hLT := hLT.kp hk
  refine HO.nil (tqn (?_))
  refine HW.regionA 12 mixed (fun h => (Blk h b_2 (.cells #[.int .i64 ((gi tL n_1).1), .int .i64 ((gi tL n_1).2)] 52 (0, 0)))) [(10, fun h => (BagIs h r_3 kI 3 1 encI out_1 none))] (by kernel_rfl) ?_
  refine HA.val (k := 0) (v := .map (some r_3)) rfl rfl (by kernel_rfl) (by kernel_rfl) (wn) rfl (fun _ c355 => q_move rfl) ?_
  refine HA.val (k := 1) (v := .pointer (some ⟨b_2, 0, none⟩)) rfl rfl (by kernel_rfl) (by kernel_rfl) (wn) rfl (fun _ c355 => qfA fa_52_0 rfl rfl) ?_
  refine HA.val (k := 2) (v := .int .i64 ((gi tL n_1).1)) rfl rfl (by kernel_rfl) (by kernel_rfl) (wn) rfl (fun _ c355 => q_load to_3 rfl (Blk.cell c355 rfl)) ?_
  refine HA.val (k := 3) (v := .map (some r_3)) rfl rfl (by kernel_rfl) (by kernel_rfl) (wn) rfl (fun _ c355 => q_move rfl) ?_
  refine HA.val (k := 4) (v := .pointer (some ⟨b_2, 0, none⟩)) rfl rfl (by kernel_rfl) (by kernel_rfl) (wn) rfl (fun _ c355 => qfA fa_52_0 rfl rfl) ?_
  refine HA.val (k := 5) (v := .int .i64 ((gi tL n_1).1)) rfl rfl (by kernel_rfl) (by kernel_rfl) (wn) rfl (fun _ c355 => q_load to_3 rfl (Blk.cell c355 rfl)) ?_
  refine Go.Wk.HA.valN (k := 6) (v := (bagAt out_1 ((gi tL n_1).1)).1) 0 10 (fun h => (BagIs h r_3 kI 3 1 encI out_1 none)) rfl rfl (by kernel_rfl) (by kernel_rfl) (wn) rfl rfl (by kernel_rfl) (fun _ c355 c354 => (q_lookup (k := (gi tL n_1).1) ka_3 tmk_79 c354.map rfl rfl).of_eq (bagAt_v _ _)) ?_
  refine HA.val (k := 7) (v := .pointer (some ⟨b_2, 1, none⟩)) rfl rfl (by kernel_rfl) (by kernel_rfl) (wn) rfl (fun _ c355 => qfA fa_52_1 rfl rfl) ?_
  refine HA.val (k := 8) (v := .int .i64 ((gi tL n_1).2)) rfl rfl (by kernel_rfl) (by kernel_rfl) (wn) rfl (fun _ c355 => q_load to_3 rfl (Blk.cell c355 rfl)) ?_
  refine HA.one (k := 9) ⟨(hS.box 0 rfl), (at_now (hS.bg 1 rfl) (Go.Wk.at_nil _ _))⟩ (by kernel_rfl) ?_
  refine HS.eff rfl (wn) rfl (st_lit (enc := encI) (cells := #[.int .i64 ((gi tL n_1).2)]) #[.int .i64 0] ([(gi tL n_1).2] : List Int) hS tl_22 (by decide) (by decide) (by kernel_rfl) (by kernel_rfl) rfl (by intro x hx; rfl) rfl) ?_
  rintro _ h_6 ⟨b_3, rfl, hS, hk⟩
  replace hK := hK.trans hk
  replace hLT := hLT.kp hk
  refine HA.one (k := 10) ⟨(hS.box 1 rfl), (at_now (hS.bg 2 rfl) (Go.Wk.at_nil _ _))⟩ (by kernel_rfl) ?_
  replace hS := hS.bagTake 2 rfl ((gi tL n_1).1)
  obtain ⟨ho_2, hM⟩ := hM
  refine HS.eff rfl (wn) rfl (st_append te_22 hS (i := 0) rfl (hS.own 1 rfl).slice rfl rfl rfl (by intro a _ u hu; simp [encI, encI, encN, encB, encT] at hu; subst hu; rfl) ho_2 (by omega)) ?_
  rintro v_1 h_7 ⟨hS, hk⟩
  replace hK := hK.trans hk
  replace hLT := hLT.kp hk
  refine HA.one (k := 11) ⟨(hS.box 2 rfl), (at_done (by kernel_rfl) (Go.Wk.at_nil _ _))⟩ (by kernel_rfl) ?_
  refine HS.sto rfl (wn) rfl (st_bagPut (k := (gi tL n_1).1) (i := 2) ka_3 tmk_79 hS rfl rfl rfl rfl) ?_
  rintro h_8 ⟨hS, hk⟩
  replace hM := hM v_1
  replace hK := hK.trans hk
  replace hLT := hLT.kp hk
  refine HA.nil ⟨(hS.box 1 rfl), (at_done (by kernel_rfl) (Go.Wk.at_nil _ _))⟩ (by kernel_rfl) (blockQ_normal (tqn (?_)))
  refine HW.region ?_
  obtain ⟨ho_3, hM⟩ := hM
  refine oV (.int .i64 (n_1 + 1)) (q_addN _ rfl rfl rfl ho_3.1 ho_3.2) rfl ?_
  refine oM (.int .i64 (n_1 + 1)) rfl rfl ?_
  refine HO.nil (tqn (?_))
  replace hS : St F_1 (Ow.bag r_3 kI 3 1 encI (mset out_1 ((gi tL n_1).1) (v_1, ((bagAt out_1 ((gi tL n_1).1)).2) ++ ([(gi tL n_1).2] : List Int))) none :: fr) h_8 := hS.perm2 [2] 3 rfl rfl
  rw [hKe_1] at hM
  exact ⟨(mset out_1 ((gi tL n_1).1) (v_1, ((bagAt out_1 ((gi tL n_1).1)).2) ++ ([(gi tL n_1).2] : List Int)), n_1 + 1), ⟨F_1, rfl, rfl, rfl, rfl, rfl, hK, hS, hLT, hM.1⟩, hM.2⟩
 ·
  replace hM := hM.2 (of_decide_eq_false c_1)
  refine HW.exit (thenQ_exit (thenQ_exit (blockQ_exit (tqn (?_)))))
  refine HW.seq ?_
  refine HW.region ?_
  refine oM (.map (some r_3)) rfl rfl ?_
  refine oA (.map (some r_3)) rfl rfl ?_
  refine HO.nil (tqn (?_))
  refine HW.ret (?_)
  refine ⟨.inr rfl, .map (some r_3), res1 rfl (rt rfl), ?_⟩
  exact ⟨F_1, out_1, r_3, rfl, hK, hS, hLT, hM⟩
def tree_walk_l2 (r_2 : List (Int × Value × List Int)) (out_1 : List Int) (i_1 : Int) (K_1 : (List (Int × Int)) → (List Int) → Int → Prop) (K_2 : (List (Int × Int)) → (List Int) → Int → Prop) (seen_2 : List (Int × Int)) (out_2 : List Int) (n_1 : Int) : Prop :=
 (n_1 < (((bagAt r_2 (gi out_1 i_1)).2).length : Int) → ((0 : Int) ≤ n_1 ∧ n_1 < (((bagAt r_2 (gi out_1 i_1)).2).length : Int)) ∧ (((mget0 seen_2 (gi ((bagAt r_2 (gi out_1 i_1)).2) n_1)) = 0 → ((out_2.length + ([(gi ((bagAt r_2 (gi out_1 i_1)).2) n_1)] : List Int).length) * 8 ≤ 140737488355328) ∧ ((I64 (n_1 + 1)) ∧ (K_2 (mset seen_2 (gi ((bagAt r_2 (gi out_1 i_1)).2) n_1) 1) (out_2 ++ ([(gi ((bagAt r_2 (gi out_1 i_1)).2) n_1)] : List Int)) (n_1 + 1)))) ∧ (¬ ((mget0 seen_2 (gi ((bagAt r_2 (gi out_1 i_1)).2) n_1)) = 0) → (I64 (n_1 + 1)) ∧ (K_2 seen_2 out_2 (n_1 + 1))))) ∧ (¬ (n_1 < (((bagAt r_2 (gi out_1 i_1)).2).length : Int)) → (I64 (i_1 + 1)) ∧ (K_1 seen_2 out_2 (i_1 + 1)))
def tree_walk_l1 (Q : (List Int) → Prop) (r_2 : List (Int × Value × List Int)) (K_1 : (List (Int × Int)) → (List Int) → Int → Prop) (seen_1 : List (Int × Int)) (out_1 : List Int) (i_1 : Int) : Prop :=
 (i_1 < (out_1.length : Int) → ((0 : Int) ≤ i_1 ∧ i_1 < (out_1.length : Int)) ∧ (loopW (fun (K_2 : ((List (Int × Int)) × List Int × Int) → Prop) (s : (List (Int × Int)) × List Int × Int) => tree_walk_l2 r_2 out_1 i_1 K_1 (fun seen_2 out_2 n_1 => K_2 (seen_2, out_2, n_1)) s.1 s.2.1 s.2.2) (seen_1, out_1, 0))) ∧ (¬ (i_1 < (out_1.length : Int)) → Q out_1)
def tree_walk_W (tR : Int) (tL : List TB) (from1 : Int) (Q : (List Int) → Prop) : Prop :=
 tree_nexts_W tR tL (fun r_2 => loopW (fun (K_1 : ((List (Int × Int)) × List Int × Int) → Prop) (s : (List (Int × Int)) × List Int × Int) => tree_walk_l1 Q r_2 (fun seen_1 out_1 i_1 => K_1 (seen_1, out_1, i_1)) s.1 s.2.1 s.2.2) (mset ([] : List (Int × Int)) from1 1, ([from1] : List Int), 0))
theorem tree_walk_walk {F : Fz} {fr : List Ow} {h0 : Heap} (tR : Int) (tL : List TB) (from1 : Int) (vT : Value) (hS : St F (fr) h0) (hLT : SliceF F h0 2 eB vT tL) {Q : (List Int) → Prop} (hM : tree_walk_W tR tL from1 Q) :
  HC Tryz.prog 78 #[.agg #[.int .i64 tR, vT], .int .i64 from1] h0 fun u h' => ∃ (F' : Fz) (r_1 : List Int) (vr_1 : Value), u = vr_1 ∧ Kp F h0 F' h' ∧ St F' (Ow.own 3 1 encI vr_1 r_1 :: fr) h' ∧ (SliceF F' h' 2 eB vT tL) ∧ Q r_1 := by
 unfold tree_walk_W at hM
 have hK := Kp.refl F h0
 refine HC.of_HW (n := 47) Tryz.func78 rfl rfl (Nat.le_of_ble_eq_true rfl) ?_
 refine HW.seq ?_
 refine HW.region ?_
 refine HO.eff (wn) rfl (st_box (c := #[.int .i64 tR, vT]) (k' := 2) hS rfl rfl) ?_
 rintro _ h_1 ⟨b_1, rfl, hS, hk⟩
 replace hK := hK.trans hk
 replace hLT := hLT.kp hk
 refine oA (.slice none 0 0) rfl rfl ?_
 refine HO.nil (tqn (?_))
 refine HW.seq ?_
 refine HW.region ?_
 refine oV (.agg #[.int .i64 tR, vT]) (q_loadAgg (cs := [.int .i64 tR, vT]) ta_31 rfl rfl (Blk.cells (k := 2) (hS.box 0 rfl) rfl)) rfl ?_
 refine HO.call (wn) rfl (ec en_75 rfl rfl) (tree_nexts_walk (fr := (Ow.box b_1 31 #[.int .i64 tR, vT] :: fr)) tR tL vT hS hLT hM) ?_
 rintro _ h_2 ⟨F_1, r_2, r_3, rfl, hk, hS, _, hM⟩
 replace hK := hK.trans hk
 replace hLT := hLT.kp hk
 obtain ⟨F_2, hS, hk, hN_1⟩ := hS.bagOpen
 replace hK := hK.trans hk
 replace hLT := hLT.kp hk
 refine oA (.map (some r_3)) rfl rfl ?_
 refine HO.nil (tqn (?_))
 refine HW.seq ?_
 refine HW.region ?_
 refine HO.eff (wn) rfl (st_makeMap (κ := Int) (ν := Int) kI kI hS) ?_
 rintro _ h_3 ⟨r_4, rfl, hS, hk⟩
 replace hK := hK.trans hk
 replace hLT := hLT.kp hk
 replace hN_1 := hN_1.kp hk
 refine oM (.int .i64 from1) rfl rfl ?_
 refine HO.sto (wn) rfl (es_insert <| st_mapUpdateK (k := from1) (v := 1) hS (i := 0) rfl ka_3 tmk_94 rfl rfl rfl) ?_
 rintro h_4 ⟨hS, hk⟩
 replace hK := hK.trans hk
 replace hLT := hLT.kp hk
 replace hN_1 := hN_1.kp hk
 refine oM (.map (some r_4)) rfl rfl ?_
 refine oA (.map (some r_4)) rfl rfl ?_
 refine HO.nil (tqn (?_))
 refine HW.seq ?_
 refine HW.region ?_
 refine oM (.int .i64 from1) rfl rfl ?_
 refine HO.eff (wn) rfl (st_lit (enc := encI) (cells := #[.int .i64 from1]) #[.int .i64 0] ([from1] : List Int) hS tl_22 (by decide) (by decide) (by kernel_rfl) (by kernel_rfl) rfl (by intro x hx; rfl) rfl) ?_
 rintro _ h_5 ⟨b_2, rfl, hS, hk⟩
 replace hK := hK.trans hk
 replace hLT := hLT.kp hk
 replace hN_1 := hN_1.kp hk
 refine oA (.slice (some ⟨b_2, 0, none⟩) 1 1) rfl rfl ?_
 refine HO.nil (tqn (?_))
 refine HW.seq ?_
 refine HW.seq ?_
 refine HW.region ?_
 refine oA (.int .i64 0) rfl rfl ?_
 refine HO.nil (tqn (?_))
 refine HW.block ?_
 obtain ⟨I_1, m_1, hI_1, hR_1⟩ := hM
 replace hS : St F_2 (Ow.map r_3 kI bagV r_2 :: Ow.map r_4 kI kI (mset ([] : List (Int × Int)) from1 1) :: Ow.own 3 1 encI (.slice (some ⟨b_2, 0, none⟩) 1 1) ([from1] : List Int) :: fr) h_5 := hS.perm2 [2, 1, 0] 4 rfl rfl
 refine HW.loop (S := (List (Int × Int)) × List Int × Int) (fun s f h => match s with | (seen_1, out_1, i_1) => ∃ (F' : Fz) (vout_1 : Value), f 4 = .slice none 0 0 ∧ f 5 = .map (some r_3) ∧ f 6 = .map (some r_4) ∧ f 7 = vout_1 ∧ f 8 = .int .i64 i_1 ∧ Kp F h0 F' h ∧ St F' (Ow.map r_3 kI bagV r_2 :: Ow.map r_4 kI kI seen_1 :: Ow.own 3 1 encI vout_1 out_1 :: fr) h ∧ (SliceF F' h 2 eB vT tL) ∧ (NfB 1 encI F' h r_2) ∧ I_1 (seen_1, out_1, i_1)) m_1 (mset ([] : List (Int × Int)) from1 1, ([from1] : List Int), 0) ⟨F_2, .slice (some ⟨b_2, 0, none⟩) 1 1, rfl, rfl, rfl, rfl, rfl, hK, hS, hLT, hN_1, hI_1⟩ ?_
 rintro ⟨seen_1, out_1, i_1⟩ f_1 h_6 ⟨F_3, vout_1, e4, e5, e6, e7, e8, hK, hS, hLT, hN_1, hI0⟩
 obtain ⟨K_1, hKe_1⟩ : ∃ K : (List (Int × Int)) → (List Int) → Int → Prop, K = fun seen_1' out_1' i_1' => I_1 (seen_1', out_1', i_1') ∧ m_1 (seen_1', out_1', i_1') < m_1 (seen_1, out_1, i_1) := ⟨_, rfl⟩
 have hM : tree_walk_l1 Q r_2 K_1 seen_1 out_1 i_1 := by rw [hKe_1]; exact hR_1 (seen_1, out_1, i_1) hI0
 unfold tree_walk_l1 at hM
 refine HW.fr [(4, .slice none 0 0), (5, .map (some r_3)), (6, .map (some r_4)), (7, vout_1), (8, .int .i64 i_1)] ⟨e4, e5, e6, e7, e8, trivial⟩ ?_
 refine HW.seq ?_
 refine HW.seq ?_
 refine HW.region ?_
 refine oM (.int .i64 i_1) rfl rfl ?_
 refine oM (vout_1) rfl rfl ?_
 refine oV (.int .i64 (out_1.length : Int)) (q_len ts_22 (shp (hS.own 2 rfl).slice) rfl rfl) rfl ?_
 refine oV (.bool (decide (i_1 < (out_1.length : Int)))) (q_lss rfl rfl) rfl ?_
 refine HO.nil (tqn (?_))
 refine HW.cond (decide (i_1 < (out_1.length : Int))) rfl (fun c_1 => ?_) (fun c_1 => ?_)
 ·
  replace hM := hM.1 (of_decide_eq_true c_1)
  refine HW.skip (tqn (?_))
  refine HW.seq ?_
  refine HW.block ?_
  refine HW.seq ?_
  refine HW.region ?_
  refine oM (.map (some r_3)) rfl rfl ?_
  refine oM (vout_1) rfl rfl ?_
  refine oM (.int .i64 i_1) rfl rfl ?_
  obtain ⟨ho_1, hM⟩ := hM
  refine oV (elemPtr 1 vout_1 (i_1).toNat) (q_idx ts_22 (hS.own 2 rfl).slice rfl rfl ho_1) rfl ?_
  refine oV (.int .i64 (gi out_1 i_1)) (q_ldElem to_3 (hS.own 2 rfl).slice rfl ho_1 rfl) rfl ?_
  have hL_1 : SliceF F_3 h_6 1 encI ((bagAt r_2 (gi out_1 i_1)).1) ((bagAt r_2 (gi out_1 i_1)).2) := hN_1.at_ (gi out_1 i_1)
  refine oV ((bagAt r_2 (gi out_1 i_1)).1) ((q_lookup (k := (gi out_1 i_1)) ka_3 tmk_79 (hS.mp 0 rfl) rfl rfl).of_eq (bagAt_v _ _)) rfl ?_
  refine oV (.int .i64 (((bagAt r_2 (gi out_1 i_1)).2).length : Int)) (q_len ts_22 (shp hL_1.is) rfl rfl) rfl ?_
  refine oM (.int .i64 0) rfl rfl ?_
  refine HO.nil (tqn (?_))
  refine HW.block ?_
  obtain ⟨I_2, m_2, hI_2, hR_2⟩ := hM
  refine HW.loop (S := (List (Int × Int)) × List Int × Int) (fun s f h => match s with | (seen_2, out_2, n_1) => ∃ (F' : Fz) (vout_2 : Value), f 4 = .slice none 0 0 ∧ f 5 = .map (some r_3) ∧ f 6 = .map (some r_4) ∧ f 7 = vout_2 ∧ f 8 = .int .i64 i_1 ∧ f 29 = (bagAt r_2 (gi out_1 i_1)).1 ∧ f 30 = .int .i64 (((bagAt r_2 (gi out_1 i_1)).2).length : Int) ∧ f 31 = .int .i64 n_1 ∧ Kp F h0 F' h ∧ St F' (Ow.map r_3 kI bagV r_2 :: Ow.map r_4 kI kI seen_2 :: Ow.own 3 1 encI vout_2 out_2 :: fr) h ∧ (SliceF F' h 2 eB vT tL) ∧ (NfB 1 encI F' h r_2) ∧ (SliceF F' h 1 encI ((bagAt r_2 (gi out_1 i_1)).1) ((bagAt r_2 (gi out_1 i_1)).2)) ∧ I_2 (seen_2, out_2, n_1)) m_2 (seen_1, out_1, 0) ⟨F_3, vout_1, rfl, rfl, rfl, rfl, rfl, rfl, rfl, rfl, hK, hS, hLT, hN_1, hL_1, hI_2⟩ ?_
  rintro ⟨seen_2, out_2, n_1⟩ f_2 h_7 ⟨F_4, vout_2, e4, e5, e6, e7, e8, e29, e30, e31, hK, hS, hLT, hN_1, hL_1, hI0⟩
  obtain ⟨K_2, hKe_2⟩ : ∃ K : (List (Int × Int)) → (List Int) → Int → Prop, K = fun seen_2' out_2' n_1' => I_2 (seen_2', out_2', n_1') ∧ m_2 (seen_2', out_2', n_1') < m_2 (seen_2, out_2, n_1) := ⟨_, rfl⟩
  have hM : tree_walk_l2 r_2 out_1 i_1 K_1 K_2 seen_2 out_2 n_1 := by rw [hKe_2]; exact hR_2 (seen_2, out_2, n_1) hI0
  unfold tree_walk_l2 at hM
  refine HW.fr [(4, .slice none 0 0), (5, .map (some r_3)), (6, .map (some r_4)), (7, vout_2), (8, .int .i64 i_1), (29, (bagAt r_2 (gi out_1 i_1)).1), (30, .int .i64 (((bagAt r_2 (gi out_1 i_1)).2).length : Int)), (31, .int .i64 n_1)] ⟨e4, e5, e6, e7, e8, e29, e30, e31, trivial⟩ ?_
  refine HW.seq ?_
  refine HW.region ?_
  refine oV (.bool (decide (n_1 < (((bagAt r_2 (gi out_1 i_1)).2).length : Int)))) (q_lss rfl rfl) rfl ?_
  refine HO.nil (tqn (?_))
  refine HW.seq ?_
  refine HW.cond (decide (n_1 < (((bagAt r_2 (gi out_1 i_1)).2).length : Int))) rfl (fun c_2 => ?_) (fun c_2 => ?_)
  ·
   replace hM := hM.1 (of_decide_eq_true c_2)
   refine HW.skip (tqn (?_))
   refine HW.seq ?_
   refine HW.block ?_
   refine HW.seq ?_
   refine HW.region ?_
   obtain ⟨ho_2, hM⟩ := hM
   refine oV (elemPtr 1 ((bagAt r_2 (gi out_1 i_1)).1) (n_1).toNat) (q_idx ts_22 hL_1.is rfl rfl ho_2) rfl ?_
   refine oV (.int .i64 (gi ((bagAt r_2 (gi out_1 i_1)).2) n_1)) (q_ldElem to_3 hL_1.is rfl ho_2 rfl) rfl ?_
   refine oA (.int .i64 (gi ((bagAt r_2 (gi out_1 i_1)).2) n_1)) rfl rfl ?_
   refine HO.nil (tqn (?_))
   refine HW.seq ?_
   refine HW.region ?_
   refine oM (.map (some r_4)) rfl rfl ?_
   refine oM (.int .i64 (gi ((bagAt r_2 (gi out_1 i_1)).2) n_1)) rfl rfl ?_
   refine oV (.int .i64 (mget0 seen_2 (gi ((bagAt r_2 (gi out_1 i_1)).2) n_1))) ((q_lookup (k := (gi ((bagAt r_2 (gi out_1 i_1)).2) n_1)) ka_3 tmk_94 (hS.mp 1 rfl) rfl rfl).of_eq (mval0 (z := .int .i64 0) rfl)) rfl ?_
   refine oV (.bool (decide ((mget0 seen_2 (gi ((bagAt r_2 (gi out_1 i_1)).2) n_1)) = 0))) (q_eql rfl rfl) rfl ?_
   refine HO.nil (tqn (?_))
   refine HW.cond (decide ((mget0 seen_2 (gi ((bagAt r_2 (gi out_1 i_1)).2) n_1)) = 0)) rfl (fun c_3 => ?_) (fun c_3 => ?_)
   ·
    replace hM := hM.1 (of_decide_eq_true c_3)
    refine HW.region ?_
    refine oM (.map (some r_4)) rfl rfl ?_
    refine oM (.int .i64 (gi ((bagAt r_2 (gi out_1 i_1)).2) n_1)) rfl rfl ?_
    refine oM (vout_2) rfl rfl ?_
    refine oM (.int .i64 (gi ((bagAt r_2 (gi out_1 i_1)).2) n_1)) rfl rfl ?_
    refine HO.eff (wn) rfl (st_lit (enc := encI) (cells := #[.int .i64 (gi ((bagAt r_2 (gi out_1 i_1)).2) n_1)]) #[.int .i64 0] ([(gi ((bagAt r_2 (gi out_1 i_1)).2) n_1)] : List Int) hS tl_22 (by decide) (by decide) (by kernel_rfl) (by kernel_rfl) rfl (by intro x hx; rfl) rfl) ?_
    rintro _ h_8 ⟨b_3, rfl, hS, hk⟩
    replace hK := hK.trans hk
    replace hLT := hLT.kp hk
    replace hN_1 := hN_1.kp hk
    replace hL_1 := hL_1.kp hk
    obtain ⟨ho_3, hM⟩ := hM
    refine HO.eff (wn) rfl (st_append te_22 hS (i := 3) rfl (hS.own 0 rfl).slice rfl rfl rfl (by intro a _ u hu; simp [encI, encI, encN, encB, encT] at hu; subst hu; rfl) ho_3 (by omega)) ?_
    rintro v_1 h_9 ⟨hS, hk⟩
    replace hK := hK.trans hk
    replace hLT := hLT.kp hk
    replace hN_1 := hN_1.kp hk
    replace hL_1 := hL_1.kp hk
    refine HO.sto (wn) rfl (st_mapUpdateK (k := (gi ((bagAt r_2 (gi out_1 i_1)).2) n_1)) (v := 1) hS (i := 2) rfl ka_3 tmk_94 rfl rfl rfl) ?_
    rintro h_10 ⟨hS, hk⟩
    replace hK := hK.trans hk
    replace hLT := hLT.kp hk
    replace hN_1 := hN_1.kp hk
    replace hL_1 := hL_1.kp hk
    refine oA (v_1) rfl rfl ?_
    refine HO.nil (blockQ_normal (tqn (?_)))
    refine HW.region ?_
    obtain ⟨ho_4, hM⟩ := hM
    refine oV (.int .i64 (n_1 + 1)) (q_addN _ rfl rfl rfl ho_4.1 ho_4.2) rfl ?_
    refine oM (.int .i64 (n_1 + 1)) rfl rfl ?_
    refine HO.nil (tqn (?_))
    replace hS : St F_4 (Ow.map r_3 kI bagV r_2 :: Ow.map r_4 kI kI (mset seen_2 (gi ((bagAt r_2 (gi out_1 i_1)).2) n_1) 1) :: Ow.own 3 1 encI v_1 (out_2 ++ ([(gi ((bagAt r_2 (gi out_1 i_1)).2) n_1)] : List Int)) :: fr) h_10 := hS.perm2 [1, 2, 3] 4 rfl rfl
    rw [hKe_2] at hM
    exact ⟨(mset seen_2 (gi ((bagAt r_2 (gi out_1 i_1)).2) n_1) 1, out_2 ++ ([(gi ((bagAt r_2 (gi out_1 i_1)).2) n_1)] : List Int), n_1 + 1), ⟨F_4, v_1, rfl, rfl, rfl, rfl, rfl, rfl, rfl, rfl, hK, hS, hLT, hN_1, hL_1, hM.1⟩, hM.2⟩
   ·
    replace hM := hM.2 (of_decide_eq_false c_3)
    refine HW.skip (blockQ_normal (tqn (?_)))
    refine HW.region ?_
    obtain ⟨ho_5, hM⟩ := hM
    refine oV (.int .i64 (n_1 + 1)) (q_addN _ rfl rfl rfl ho_5.1 ho_5.2) rfl ?_
    refine oM (.int .i64 (n_1 + 1)) rfl rfl ?_
    refine HO.nil (tqn (?_))
    rw [hKe_2] at hM
    exact ⟨(seen_2, out_2, n_1 + 1), ⟨F_4, vout_2, rfl, rfl, rfl, rfl, rfl, rfl, rfl, rfl, hK, hS, hLT, hN_1, hL_1, hM.1⟩, hM.2⟩
  ·
   replace hM := hM.2 (of_decide_eq_false c_2)
   refine HW.exit (thenQ_exit (thenQ_exit (blockQ_exit (blockQ_normal (tqn (?_))))))
   refine HW.region ?_
   refine oM (.int .i64 i_1) rfl rfl ?_
   obtain ⟨ho_6, hM⟩ := hM
   refine oV (.int .i64 (i_1 + 1)) (q_addN _ rfl rfl rfl ho_6.1 ho_6.2) rfl ?_
   refine oA (.int .i64 (i_1 + 1)) rfl rfl ?_
   refine HO.nil (tqn (?_))
   rw [hKe_1] at hM
   exact ⟨(seen_2, out_2, i_1 + 1), ⟨F_4, vout_2, rfl, rfl, rfl, rfl, rfl, hK, hS, hLT, hN_1, hM.1⟩, hM.2⟩
 ·
  replace hM := hM.2 (of_decide_eq_false c_1)
  refine HW.exit (thenQ_exit (thenQ_exit (blockQ_exit (tqn (?_)))))
  refine HW.seq ?_
  refine HW.region ?_
  refine oM (vout_1) rfl rfl ?_
  refine oA (vout_1) rfl rfl ?_
  refine HO.nil (tqn (?_))
  refine HW.ret (?_)
  refine ⟨.inr rfl, vout_1, res1 rfl (rt rfl), ?_⟩
  replace hS : St F_3 (Ow.own 3 1 encI vout_1 out_1 :: fr) h_6 := hS.perm2 [2] 3 rfl rfl
  exact ⟨F_3, out_1, vout_1, rfl, hK, hS, hLT, hM⟩
def tree_Leaves_1_W (n : Int) (c0_Root : Int) (c0_Links : List TB) (c1_v : List (Int × Value × List Int)) (Q : Bool → Prop) : Prop :=
 (n = c0_Root → Q true) ∧ (¬ (n = c0_Root) → Q (decide (0 < (((bagAt c1_v n).2).length : Int))))
theorem tree_Leaves_1_walk {F : Fz} {fr : List Ow} {h0 : Heap} (n : Int) (c0_Root : Int) (c0_Links : List TB) (c1_v : List (Int × Value × List Int)) (bc0 : Nat) (vc0_Links : Value) (bc1 : Nat) (rc1_v : Nat) (hS : St F (fr) h0) (hL_c0_Links : SliceF F h0 2 eB vc0_Links c0_Links) (hB_bc0 : RoF (Ow.box bc0 31 #[.int .i64 c0_Root, vc0_Links]) F h0) (hM_rc1_v : RoF (Ow.map rc1_v kI bagV c1_v) F h0) (hN_c1_v : NfB 1 encI F h0 c1_v) (hB_bc1 : RoF (Ow.box bc1 79 #[.map (some rc1_v)]) F h0) {Q : Bool → Prop} (hM : tree_Leaves_1_W n c0_Root c0_Links c1_v Q) :
  HC Tryz.prog 79 #[.int .i64 n, .pointer (some ⟨bc0, 0, none⟩), .pointer (some ⟨bc1, 0, none⟩)] h0 fun u h' => ∃ (F' : Fz) (r_1 : Bool), u = .bool r_1 ∧ Kp F h0 F' h' ∧ St F' (fr) h' ∧ (SliceF F' h' 2 eB vc0_Links c0_Links) ∧ (RoF (Ow.box bc0 31 #[.int .i64 c0_Root, vc0_Links]) F' h') ∧ (RoF (Ow.map rc1_v kI bagV c1_v) F' h') ∧ (NfB 1 encI F' h' c1_v) ∧ (RoF (Ow.box bc1 79 #[.map (some rc1_v)]) F' h') ∧ Q r_1 := by
 unfold tree_Leaves_1_W at hM
 have hK := Kp.refl F h0
 refine HC.of_HW (n := 16) Tryz.func79 rfl rfl (Nat.le_of_ble_eq_true rfl) ?_
 refine HW.seq ?_
 refine HW.region ?_
 refine oA (.bool false) rfl rfl ?_
 refine HO.nil (tqn (?_))
 refine HW.seq ?_
 refine HW.region ?_
 refine oM (.int .i64 n) rfl rfl ?_
 refine oV (.pointer (some ⟨bc0, 0, none⟩)) (qfA fa_31_0 rfl rfl) rfl ?_
 refine oV (.int .i64 c0_Root) (q_load to_3 rfl (Blk.cell hB_bc0.box rfl)) rfl ?_
 refine oV (.bool (decide (n = c0_Root))) (q_eql rfl rfl) rfl ?_
 refine oM (.bool (decide (n = c0_Root))) rfl rfl ?_
 rcases Bool.eq_false_or_eq_true (decide (n = c0_Root)) with c_1 | c_1
 ·
  replace hM := hM.1 (of_decide_eq_true c_1)
  refine HO.past (pby rfl rfl c_1) rfl ?_
  refine HO.past (pby rfl rfl c_1) rfl ?_
  refine HO.past (pby rfl rfl c_1) rfl ?_
  refine HO.past (pby rfl rfl c_1) rfl ?_
  refine HO.past (pby rfl rfl c_1) rfl ?_
  refine oV (.bool true) (q_pickK true rfl c_1 rfl) rfl ?_
  refine oA (.bool true) rfl rfl ?_
  refine HO.nil (tqn (?_))
  refine HW.ret (?_)
  refine ⟨.inr rfl, .bool true, res1 rfl (rt rfl), ?_⟩
  exact ⟨F, true, rfl, hK, hS, hL_c0_Links, hB_bc0, hM_rc1_v, hN_c1_v, hB_bc1, hM⟩
 ·
  replace hM := hM.2 (of_decide_eq_false c_1)
  refine HO.val (v := .map (some rc1_v)) (wby rfl rfl c_1) rfl (q_load to_79 rfl (Blk.cell hB_bc1.box rfl)) ?_
  refine HO.val (v := .int .i64 n) (wby rfl rfl c_1) rfl (q_move rfl) ?_
  have hL_1 : SliceF F h0 1 encI ((bagAt c1_v n).1) ((bagAt c1_v n).2) := hN_c1_v.at_ n
  refine HO.val (v := (bagAt c1_v n).1) (wby rfl rfl c_1) rfl ((q_lookup (k := n) ka_3 tmk_79 hM_rc1_v.mp rfl rfl).of_eq (bagAt_v _ _)) ?_
  refine HO.val (v := .int .i64 (((bagAt c1_v n).2).length : Int)) (wby rfl rfl c_1) rfl (q_len ts_22 (shp hL_1.is) rfl rfl) ?_
  refine HO.val (v := .bool (decide (0 < (((bagAt c1_v n).2).length : Int)))) (wby rfl rfl c_1) rfl (q_gtr rfl rfl) ?_
  refine oV (.bool (decide (0 < (((bagAt c1_v n).2).length : Int)))) (q_pickK false rfl c_1 rfl) rfl ?_
  refine oA (.bool (decide (0 < (((bagAt c1_v n).2).length : Int)))) rfl rfl ?_
  refine HO.nil (tqn (?_))
  refine HW.ret (?_)
  refine ⟨.inr rfl, .bool (decide (0 < (((bagAt c1_v n).2).length : Int))), res1 rfl (rt rfl), ?_⟩
  exact ⟨F, decide (0 < (((bagAt c1_v n).2).length : Int)), rfl, hK, hS, hL_c0_Links, hB_bc0, hM_rc1_v, hN_c1_v, hB_bc1, hM⟩
def slices_IndexFunc_s_int_int_l1 (s1 : List Int) (cf_f : Int → Bool) (Q : Int → Prop) (K_1 : Int → Prop) (n_1 : Int) : Prop :=
 (n_1 < (s1.length : Int) → ((0 : Int) ≤ n_1 ∧ n_1 < (s1.length : Int)) ∧ (((cf_f (gi s1 n_1)) = true → Q n_1) ∧ ((cf_f (gi s1 n_1)) = false → (I64 (n_1 + 1)) ∧ (K_1 (n_1 + 1))))) ∧ (¬ (n_1 < (s1.length : Int)) → Q (-1))
def slices_IndexFunc_s_int_int_W (s1 : List Int) (cf_f : Int → Bool) (Q : Int → Prop) : Prop :=
 loopW (fun (K_1 : Int → Prop) (s : Int) => slices_IndexFunc_s_int_int_l1 s1 cf_f Q K_1 s) 0
theorem slices_IndexFunc_s_int_int_walk {F : Fz} {fr : List Ow} {h0 : Heap} (s1 : List Int) (cf_f : Int → Bool) (vs : Value) (g_f : Nat) (fs_f : Array Value) (cs_f : Array Value) (hS : St F (fr) h0) (hL_s1 : SliceF F h0 1 encI vs s1) (hF_cf_f : FnP Tryz.prog F h0 g_f fs_f cs_f (fun x : Int => [.int .i64 x]) (fun x => .bool (cf_f x))) {Q : Int → Prop} (hM : slices_IndexFunc_s_int_int_W s1 cf_f Q) :
  HC Tryz.prog 61 #[vs, .func (.func g_f) fs_f cs_f] h0 fun u h' => ∃ (F' : Fz) (r_1 : Int), u = .int .i64 r_1 ∧ Kp F h0 F' h' ∧ St F' (fr) h' ∧ (SliceF F' h' 1 encI vs s1) ∧ (FnP Tryz.prog F' h' g_f fs_f cs_f (fun x : Int => [.int .i64 x]) (fun x => .bool (cf_f x))) ∧ Q r_1 := by
 unfold slices_IndexFunc_s_int_int_W at hM
 have hK := Kp.refl F h0
 refine HC.of_HW (n := 19) Tryz.func61 rfl rfl (Nat.le_of_ble_eq_true rfl) ?_
 refine HW.seq ?_
 refine HW.region ?_
 refine oA (.int .i64 0) rfl rfl ?_
 refine HO.nil (tqn (?_))
 refine HW.seq ?_
 refine HW.seq ?_
 refine HW.region ?_
 refine oM (vs) rfl rfl ?_
 refine oV (.int .i64 (s1.length : Int)) (q_len ts_22 (shp hL_s1.is) rfl rfl) rfl ?_
 refine oM (.int .i64 0) rfl rfl ?_
 refine HO.nil (tqn (?_))
 refine HW.block ?_
 obtain ⟨I_1, m_1, hI_1, hR_1⟩ := hM
 refine HW.loop (S := Int) (fun n_1 f h => ∃ (F' : Fz), f 0 = vs ∧ f 1 = .func (.func g_f) fs_f cs_f ∧ f 4 = .int .i64 0 ∧ f 7 = .int .i64 (s1.length : Int) ∧ f 8 = .int .i64 n_1 ∧ Kp F h0 F' h ∧ St F' (fr) h ∧ (SliceF F' h 1 encI vs s1) ∧ (FnP Tryz.prog F' h g_f fs_f cs_f (fun x : Int => [.int .i64 x]) (fun x => .bool (cf_f x))) ∧ I_1 n_1) m_1 0 ⟨F, rfl, rfl, rfl, rfl, rfl, hK, hS, hL_s1, hF_cf_f, hI_1⟩ ?_
 rintro n_1 f_1 h_1 ⟨F_1, e0, e1, e4, e7, e8, hK, hS, hL_s1, hF_cf_f, hI0⟩
 obtain ⟨K_1, hKe_1⟩ : ∃ K : Int → Prop, K = fun n_1' => I_1 n_1' ∧ m_1 n_1' < m_1 n_1 := ⟨_, rfl⟩
 have hM : slices_IndexFunc_s_int_int_l1 s1 cf_f Q K_1 n_1 := by rw [hKe_1]; exact hR_1 n_1 hI0
 unfold slices_IndexFunc_s_int_int_l1 at hM
 refine HW.fr [(0, vs), (1, .func (.func g_f) fs_f cs_f), (4, .int .i64 0), (7, .int .i64 (s1.length : Int)), (8, .int .i64 n_1)] ⟨e0, e1, e4, e7, e8, trivial⟩ ?_
 refine HW.seq ?_
 refine HW.region ?_
 refine oV (.bool (decide (n_1 < (s1.length : Int)))) (q_lss rfl rfl) rfl ?_
 refine HO.nil (tqn (?_))
 refine HW.seq ?_
 refine HW.cond (decide (n_1 < (s1.length : Int))) rfl (fun c_1 => ?_) (fun c_1 => ?_)
 ·
  replace hM := hM.1 (of_decide_eq_true c_1)
  refine HW.skip (tqn (?_))
  refine HW.seq ?_
  refine HW.block ?_
  refine HW.seq ?_
  refine HW.region ?_
  refine oM (.int .i64 n_1) rfl rfl ?_
  refine oA (.int .i64 n_1) rfl rfl ?_
  refine HO.nil (tqn (?_))
  refine HW.seq ?_
  refine HW.region ?_
  refine oM (.func (.func g_f) fs_f cs_f) rfl rfl ?_
  refine oM (vs) rfl rfl ?_
  refine oM (.int .i64 n_1) rfl rfl ?_
  obtain ⟨ho_1, hM⟩ := hM
  refine oV (elemPtr 1 vs (n_1).toNat) (q_idx ts_22 hL_s1.is rfl rfl ho_1) rfl ?_
  refine oV (.int .i64 (gi s1 n_1)) (q_ldElem to_3 hL_s1.is rfl ho_1 rfl) rfl ?_
  refine HO.call (wn) rfl (hF_cf_f.ec (gi s1 n_1) rfl rfl) (hF_cf_f.hc (gi s1 n_1) hS) ?_
  rintro _ h_2 ⟨rfl, hS, hk⟩
  replace hK := hK.trans hk
  replace hL_s1 := hL_s1.kp hk
  replace hF_cf_f := hF_cf_f.kp hk
  refine HO.nil (tqn (?_))
  refine HW.cond (cf_f (gi s1 n_1)) rfl (fun c_2 => ?_) (fun c_2 => ?_)
  ·
   replace hM := hM.1 c_2
   refine HW.seq ?_
   refine HW.region ?_
   refine oM (.int .i64 n_1) rfl rfl ?_
   refine oA (.int .i64 n_1) rfl rfl ?_
   refine HO.nil (tqn (?_))
   refine HW.ret (blockQ_ret (thenQ_ret (thenQ_ret (blockQ_ret (thenQ_ret (?_))))))
   refine ⟨.inr rfl, .int .i64 n_1, res1 rfl (rt rfl), ?_⟩
   exact ⟨F_1, n_1, rfl, hK, hS, hL_s1, hF_cf_f, hM⟩
  ·
   replace hM := hM.2 c_2
   refine HW.skip (blockQ_normal (tqn (?_)))
   refine HW.region ?_
   obtain ⟨ho_2, hM⟩ := hM
   refine oV (.int .i64 (n_1 + 1)) (q_addN _ rfl rfl rfl ho_2.1 ho_2.2) rfl ?_
   refine oM (.int .i64 (n_1 + 1)) rfl rfl ?_
   refine HO.nil (tqn (?_))
   rw [hKe_1] at hM
   exact ⟨n_1 + 1, ⟨F_1, rfl, rfl, rfl, rfl, rfl, hK, hS, hL_s1, hF_cf_f, hM.1⟩, hM.2⟩
 ·
  replace hM := hM.2 (of_decide_eq_false c_1)
  refine HW.exit (thenQ_exit (thenQ_exit (blockQ_exit (tqn (?_)))))
  refine HW.seq ?_
  refine HW.region ?_
  refine oA (.int .i64 (-1)) rfl rfl ?_
  refine HO.nil (tqn (?_))
  refine HW.ret (?_)
  refine ⟨.inr rfl, .int .i64 (-1), res1 rfl (rt rfl), ?_⟩
  exact ⟨F_1, (-1), rfl, hK, hS, hL_s1, hF_cf_f, hM⟩
def slices_DeleteFunc_s_int_int_l2 (cf_del : Int → Bool) (Q : (List Int) → Prop) (K_1 : (List Int) → Int → Int → Prop) (l_1 : List Int) (i_1 : Int) (j_1 : Int) : Prop :=
 (j_1 < (l_1.length : Int) → ((0 : Int) ≤ j_1 ∧ j_1 < (l_1.length : Int)) ∧ (((!(cf_del (gi l_1 j_1))) = true → ((0 : Int) ≤ i_1 ∧ i_1 < (l_1.length : Int)) ∧ ((I64 (i_1 + 1)) ∧ ((I64 (j_1 + 1)) ∧ (K_1 (l_1.set (i_1).toNat (gi l_1 j_1)) (i_1 + 1) (j_1 + 1))))) ∧ ((!(cf_del (gi l_1 j_1))) = false → (I64 (j_1 + 1)) ∧ (K_1 l_1 i_1 (j_1 + 1))))) ∧ (¬ (j_1 < (l_1.length : Int)) → ((0 : Int) ≤ i_1 ∧ i_1 ≤ (l_1.length : Int)) ∧ (((0 : Int) ≤ i_1 ∧ i_1 ≤ (l_1.length : Int) ∧ (l_1.length : Int) ≤ (l_1.length : Int)) ∧ (((0 : Int) ≤ i_1 ∧ i_1 ≤ ((clr l_1 i_1 (l_1.length : Int)).length : Int)) ∧ (Q (cut (clr l_1 i_1 (l_1.length : Int)) 0 i_1)))))
def slices_DeleteFunc_s_int_int_W (s1 : List Int) (cf_del : Int → Bool) (Q : (List Int) → Prop) : Prop :=
 slices_IndexFunc_s_int_int_W s1 cf_del (fun r_2 => (r_2 = (-1) → Q s1) ∧ (¬ (r_2 = (-1)) → (I64 (r_2 + 1)) ∧ (loopW (fun (K_1 : (List Int × Int × Int) → Prop) (s : List Int × Int × Int) => slices_DeleteFunc_s_int_int_l2 cf_del Q (fun l_1 i_1 j_1 => K_1 (l_1, i_1, j_1)) s.1 s.2.1 s.2.2) (s1, r_2, r_2 + 1))))
theorem slices_DeleteFunc_s_int_int_walk {F : Fz} {fr : List Ow} {h0 : Heap} (s1 : List Int) (cf_del : Int → Bool) (vs : Value) (g_del : Nat) (fs_del : Array Value) (cs_del : Array Value) (hS : St F (Ow.own 3 1 encI vs s1 :: fr) h0) (hF_cf_del : FnP Tryz.prog F h0 g_del fs_del cs_del (fun x : Int => [.int .i64 x]) (fun x => .bool (cf_del x))) {Q : (List Int) → Prop} (hM : slices_DeleteFunc_s_int_int_W s1 cf_del Q) :
  HC Tryz.prog 77 #[vs, .func (.func g_del) fs_del cs_del] h0 fun u h' => ∃ (F' : Fz) (r_1 : List Int) (vr_1 : Value), u = vr_1 ∧ Kp F h0 F' h' ∧ St F' (Ow.own 3 1 encI vr_1 r_1 :: fr) h' ∧ (FnP Tryz.prog F' h' g_del fs_del cs_del (fun x : Int => [.int .i64 x]) (fun x => .bool (cf_del x))) ∧ Q r_1 := by
 unfold slices_DeleteFunc_s_int_int_W at hM
 have hK := Kp.refl F h0
 refine HC.of_HW (n := 42) Tryz.func77 rfl rfl (Nat.le_of_ble_eq_true rfl) ?_
 refine HW.seq ?_
 refine HW.region ?_
 refine oA (.slice none 0 0) rfl rfl ?_
 refine HO.nil (tqn (?_))
 refine HW.seq ?_
 refine HW.region ?_
 refine oM (vs) rfl rfl ?_
 refine oM (.func (.func g_del) fs_del cs_del) rfl rfl ?_
 replace hS : St F (Ow.own 3 1 encI vs s1 :: fr) h0 := hS
 have hZ_1 := hS
 have hkz_1 := (hS.freeze).2
 replace hS := hS.freeze.1
 have hL_1 : SliceF (fun bz_ => F bz_ ∨ (Ow.own 3 1 encI vs s1).foot bz_) h0 1 encI vs s1 := ⟨(hZ_1.own 0 rfl).slice, fun _ b hb => .inr hb⟩
 refine HO.call (wn) rfl (ec en_61 rfl rfl) (slices_IndexFunc_s_int_int_walk (fr := (fr)) s1 cf_del vs g_del fs_del cs_del hS hL_1 (hF_cf_del.kp hkz_1) hM) ?_
 rintro _ h_1 ⟨F_1, r_2, rfl, hk, hS, _, _, hM⟩
 obtain ⟨hS, hk⟩ := hZ_1.back hk hS
 generalize (fun bz_ => F_1 bz_ ∧ ¬ (Ow.own 3 1 encI vs s1).foot bz_) = F_2 at hS hk
 replace hK := hK.trans hk
 replace hF_cf_del := hF_cf_del.kp hk
 refine oA (.int .i64 r_2) rfl rfl ?_
 refine HO.nil (tqn (?_))
 refine HW.seq ?_
 refine HW.seq ?_
 refine HW.region ?_
 refine oM (.int .i64 r_2) rfl rfl ?_
 refine oV (.bool (decide (r_2 = (-1)))) (q_eql rfl rfl) rfl ?_
 refine HO.nil (tqn (?_))
 refine HW.cond (decide (r_2 = (-1))) rfl (fun c_1 => ?_) (fun c_1 => ?_)
 ·
  replace hM := hM.1 (of_decide_eq_true c_1)
  refine HW.seq ?_
  refine HW.region ?_
  refine oM (vs) rfl rfl ?_
  refine oA (vs) rfl rfl ?_
  refine HO.nil (tqn (?_))
  refine HW.ret (thenQ_ret (?_))
  refine ⟨.inr rfl, vs, res1 rfl (rt rfl), ?_⟩
  exact ⟨F_2, s1, vs, rfl, hK, hS, hF_cf_del, hM⟩
 ·
  replace hM := hM.2 (of_decide_eq_false c_1)
  refine HW.skip (tqn (?_))
  refine HW.seq ?_
  refine HW.seq ?_
  refine HW.region ?_
  refine oM (.int .i64 r_2) rfl rfl ?_
  obtain ⟨ho_1, hM⟩ := hM
  refine oV (.int .i64 (r_2 + 1)) (q_addN _ rfl rfl rfl ho_1.1 ho_1.2) rfl ?_
  refine oA (.int .i64 (r_2 + 1)) rfl rfl ?_
  refine HO.nil (tqn (?_))
  refine HW.block ?_
  obtain ⟨I_1, m_1, hI_1, hR_1⟩ := hM
  refine HW.loop (S := List Int × Int × Int) (fun s f h => match s with | (l_1, i_1, j_1) => ∃ (F' : Fz), f 0 = vs ∧ f 1 = .func (.func g_del) fs_del cs_del ∧ f 4 = .slice none 0 0 ∧ f 5 = .int .i64 i_1 ∧ f 6 = .int .i64 j_1 ∧ Kp F h0 F' h ∧ St F' (Ow.own 3 1 encI vs l_1 :: fr) h ∧ (FnP Tryz.prog F' h g_del fs_del cs_del (fun x : Int => [.int .i64 x]) (fun x => .bool (cf_del x))) ∧ I_1 (l_1, i_1, j_1)) m_1 (s1, r_2, r_2 + 1) ⟨F_2, rfl, rfl, rfl, rfl, rfl, hK, hS, hF_cf_del, hI_1⟩ ?_
  rintro ⟨l_1, i_1, j_1⟩ f_1 h_2 ⟨F_3, e0, e1, e4, e5, e6, hK, hS, hF_cf_del, hI0⟩
  obtain ⟨K_1, hKe_1⟩ : ∃ K : (List Int) → Int → Int → Prop, K = fun l_1' i_1' j_1' => I_1 (l_1', i_1', j_1') ∧ m_1 (l_1', i_1', j_1') < m_1 (l_1, i_1, j_1) := ⟨_, rfl⟩
  have hM : slices_DeleteFunc_s_int_int_l2 cf_del Q K_1 l_1 i_1 j_1 := by rw [hKe_1]; exact hR_1 (l_1, i_1, j_1) hI0
  unfold slices_DeleteFunc_s_int_int_l2 at hM
  refine HW.fr [(0, vs), (1, .func (.func g_del) fs_del cs_del), (4, .slice none 0 0), (5, .int .i64 i_1), (6, .int .i64 j_1)] ⟨e0, e1, e4, e5, e6, trivial⟩ ?_
  refine HW.seq ?_
  refine HW.seq ?_
  refine HW.region ?_
  refine oM (.int .i64 j_1) rfl rfl ?_
  refine oM (vs) rfl rfl ?_
  refine oV (.int .i64 (l_1.length : Int)) (q_len ts_22 (shp (hS.own 0 rfl).slice) rfl rfl) rfl ?_
  refine oV (.bool (decide (j_1 < (l_1.length : Int)))) (q_lss rfl rfl) rfl ?_
  refine HO.nil (tqn (?_))
  refine HW.cond (decide (j_1 < (l_1.length : Int))) rfl (fun c_2 => ?_) (fun c_2 => ?_)
  ·
   replace hM := hM.1 (of_decide_eq_true c_2)
   refine HW.skip (tqn (?_))
   refine HW.seq ?_
   refine HW.block ?_
   refine HW.seq ?_
   refine HW.region ?_
   refine oM (vs) rfl rfl ?_
   refine oM (.int .i64 j_1) rfl rfl ?_
   obtain ⟨ho_2, hM⟩ := hM
   refine oV (elemPtr 1 vs (j_1).toNat) (q_idx ts_22 (hS.own 0 rfl).slice rfl rfl ho_2) rfl ?_
   refine oV (.int .i64 (gi l_1 j_1)) (q_ldElem to_3 (hS.own 0 rfl).slice rfl ho_2 rfl) rfl ?_
   refine oA (.int .i64 (gi l_1 j_1)) rfl rfl ?_
   refine HO.nil (tqn (?_))
   refine HW.seq ?_
   refine HW.region ?_
   refine oM (.func (.func g_del) fs_del cs_del) rfl rfl ?_
   refine oM (.int .i64 (gi l_1 j_1)) rfl rfl ?_
   refine HO.call (wn) rfl (hF_cf_del.ec (gi l_1 j_1) rfl rfl) (hF_cf_del.hc (gi l_1 j_1) hS) ?_
   rintro _ h_3 ⟨rfl, hS, hk⟩
   replace hK := hK.trans hk
   replace hF_cf_del := hF_cf_del.kp hk
   refine oV (.bool (!(cf_del (gi l_1 j_1)))) (q_not rfl) rfl ?_
   refine HO.nil (tqn (?_))
   refine HW.cond (!(cf_del (gi l_1 j_1))) rfl (fun c_3 => ?_) (fun c_3 => ?_)
   ·
    replace hM := hM.1 c_3
    refine HW.seq ?_
    refine HW.region ?_
    refine oM (vs) rfl rfl ?_
    refine oM (.int .i64 i_1) rfl rfl ?_
    refine oM (.int .i64 (gi l_1 j_1)) rfl rfl ?_
    obtain ⟨ho_3, hM⟩ := hM
    refine oV (elemPtr 1 vs (i_1).toNat) (q_idx ts_22 (hS.own 0 rfl).slice rfl rfl ho_3) rfl ?_
    refine HO.sto (wn) rfl (st_storeField (a := (gi l_1 j_1)) (n := (i_1).toNat) (j := 0) hS (i := 0) rfl to_3 (elem_field _ _ _) (by omega) (by decide) rfl (by rw [← gi_lt ho_3.1 ho_3.2]; rfl) rfl rfl) ?_
    rintro h_4 ⟨hS, hk⟩
    replace hK := hK.trans hk
    replace hF_cf_del := hF_cf_del.kp hk
    refine HO.nil (tqn (?_))
    refine HW.region ?_
    refine oM (.int .i64 i_1) rfl rfl ?_
    obtain ⟨ho_4, hM⟩ := hM
    refine oV (.int .i64 (i_1 + 1)) (q_addN _ rfl rfl rfl ho_4.1 ho_4.2) rfl ?_
    refine oA (.int .i64 (i_1 + 1)) rfl rfl ?_
    refine HO.nil (blockQ_normal (tqn (?_)))
    refine HW.region ?_
    refine oM (.int .i64 j_1) rfl rfl ?_
    obtain ⟨ho_5, hM⟩ := hM
    refine oV (.int .i64 (j_1 + 1)) (q_addN _ rfl rfl rfl ho_5.1 ho_5.2) rfl ?_
    refine oA (.int .i64 (j_1 + 1)) rfl rfl ?_
    refine HO.nil (tqn (?_))
    rw [hKe_1] at hM
    exact ⟨(l_1.set (i_1).toNat (gi l_1 j_1), i_1 + 1, j_1 + 1), ⟨F_3, rfl, rfl, rfl, rfl, rfl, hK, hS, hF_cf_del, hM.1⟩, hM.2⟩
   ·
    replace hM := hM.2 c_3
    refine HW.skip (blockQ_normal (tqn (?_)))
    refine HW.region ?_
    refine oM (.int .i64 j_1) rfl rfl ?_
    obtain ⟨ho_6, hM⟩ := hM
    refine oV (.int .i64 (j_1 + 1)) (q_addN _ rfl rfl rfl ho_6.1 ho_6.2) rfl ?_
    refine oA (.int .i64 (j_1 + 1)) rfl rfl ?_
    refine HO.nil (tqn (?_))
    rw [hKe_1] at hM
    exact ⟨(l_1, i_1, j_1 + 1), ⟨F_3, rfl, rfl, rfl, rfl, rfl, hK, hS, hF_cf_del, hM.1⟩, hM.2⟩
  ·
   replace hM := hM.2 (of_decide_eq_false c_2)
   refine HW.exit (thenQ_exit (thenQ_exit (blockQ_exit (tqn (?_)))))
   refine HW.seq ?_
   refine HW.region ?_
   refine oM (vs) rfl rfl ?_
   refine oM (.int .i64 i_1) rfl rfl ?_
   obtain ⟨ho_7, hM⟩ := hM
   refine oV (cutV 1 vs (i_1).toNat ((l_1.length : Int)).toNat) (q_slL ts_22 (hS.own 0 rfl).slice rfl rfl ho_7) rfl ?_
   obtain ⟨ho_8, hM⟩ := hM
   refine HO.eff (wn) rfl (st_clearS (lo := i_1) (hi := (l_1.length : Int)) (z := .int .i64 0) hS (i := 0) rfl te_22 tz_3 rfl (by intro u hu; simp [encI, encI, encN, encB, encT, default] at hu; subst hu; rfl) rfl ho_8 rfl) ?_
   rintro _ h_5 ⟨rfl, hS, hk⟩
   replace hK := hK.trans hk
   replace hF_cf_del := hF_cf_del.kp hk
   refine HO.nil (tqn (?_))
   refine HW.seq ?_
   refine HW.region ?_
   refine oM (vs) rfl rfl ?_
   refine oM (.int .i64 i_1) rfl rfl ?_
   obtain ⟨ho_9, hM⟩ := hM
   refine oV (cutV 1 vs (0 : Int).toNat (i_1).toNat) (q_slH ts_22 (hS.own 0 rfl).slice rfl rfl ho_9) rfl ?_
   refine oA (cutV 1 vs (0 : Int).toNat (i_1).toNat) rfl rfl ?_
   refine HO.nil (tqn (?_))
   refine HW.ret (?_)
   refine ⟨.inr rfl, cutV 1 vs (0 : Int).toNat (i_1).toNat, res1 rfl (rt rfl), ?_⟩
   replace hS := hS.shrink 0 rfl i_1 ho_9.1 ho_9.2
   exact ⟨F_3, cut (clr l_1 i_1 (l_1.length : Int)) 0 i_1, cutV 1 vs (0 : Int).toNat (i_1).toNat, rfl, hK, hS, hF_cf_del, hM⟩
def tree_rising_W (l : List Int) (Q : (List Int) → Prop) : Prop :=
 ((l).length < 4611686018427387904) ∧ (Q (isort l))
theorem tree_rising_walk {F : Fz} {fr : List Ow} {h0 : Heap} (l : List Int) (vl : Value) (hS : St F (Ow.own 3 1 encI vl l :: fr) h0)  {Q : (List Int) → Prop} (hM : tree_rising_W l Q) :
  HC Tryz.prog 76 #[vl] h0 fun u h' => ∃ (F' : Fz) (r_1 : List Int) (vr_1 : Value), u = vr_1 ∧ Kp F h0 F' h' ∧ St F' (Ow.own 3 1 encI vr_1 r_1 :: fr) h' ∧ Q r_1 := by
 unfold tree_rising_W at hM
 have hK := Kp.refl F h0
 refine HC.of_HW (n := 6) Tryz.func76 rfl rfl (Nat.le_of_ble_eq_true rfl) ?_
 refine HW.seq ?_
 refine HW.region ?_
 refine oA (.slice none 0 0) rfl rfl ?_
 refine HO.nil (tqn (?_))
 refine HW.seq ?_
 refine HW.region ?_
 refine oM (vl) rfl rfl ?_
 obtain ⟨ho_1, hM⟩ := hM
 refine HO.call (wn) rfl (ec en_94 rfl rfl) (sortInt_own Tryz.sortI hS ho_1) ?_
 rintro _ h_1 ⟨rfl, hk, hS⟩
 replace hK := hK.trans hk
 refine HO.nil (tqn (?_))
 refine HW.seq ?_
 refine HW.region ?_
 refine oM (vl) rfl rfl ?_
 refine oA (vl) rfl rfl ?_
 refine HO.nil (tqn (?_))
 refine HW.ret (?_)
 refine ⟨.inr rfl, vl, res1 rfl (rt rfl), ?_⟩
 exact ⟨F, isort l, vl, rfl, hK, hS, hM⟩
def tree_Leaves_W (tR : Int) (tL : List TB) (Q : (List Int) → Prop) : Prop :=
 tree_nexts_W tR tL (fun r_2 => tree_walk_W tR tL tR (fun r_4 => ∃ cf_1 : Int → Bool, (∀ x0, tree_Leaves_1_W x0 tR tL r_2 (fun r => r = cf_1 x0)) ∧ (slices_DeleteFunc_s_int_int_W r_4 cf_1 (fun r_5 => tree_rising_W r_5 (fun r_6 => Q r_6)))))
theorem tree_Leaves_walk {F : Fz} {fr : List Ow} {h0 : Heap} (tR : Int) (tL : List TB) (vT : Value) (hS : St F (fr) h0) (hLT : SliceF F h0 2 eB vT tL) {Q : (List Int) → Prop} (hM : tree_Leaves_W tR tL Q) :
  HC Tryz.prog 47 #[.agg #[.int .i64 tR, vT]] h0 fun u h' => ∃ (F' : Fz) (r_1 : List Int) (vr_1 : Value), u = vr_1 ∧ Kp F h0 F' h' ∧ St F' (Ow.own 3 1 encI vr_1 r_1 :: fr) h' ∧ (SliceF F' h' 2 eB vT tL) ∧ Q r_1 := by
 unfold tree_Leaves_W at hM
 have hK := Kp.refl F h0
 refine HC.of_HW (n := 13) Tryz.func47 rfl rfl (Nat.le_of_ble_eq_true rfl) ?_
 refine HW.seq ?_
 refine HW.region ?_
 refine HO.eff (wn) rfl (st_box (c := #[.int .i64 tR, vT]) (k' := 2) hS rfl rfl) ?_
 rintro _ h_1 ⟨b_1, rfl, hS, hk⟩
 replace hK := hK.trans hk
 replace hLT := hLT.kp hk
 refine oA (.slice none 0 0) rfl rfl ?_
 refine HO.nil (tqn (?_))
 refine HW.seq ?_
 refine HW.region ?_
 refine oV (.agg #[.int .i64 tR, vT]) (q_loadAgg (cs := [.int .i64 tR, vT]) ta_31 rfl rfl (Blk.cells (k := 2) (hS.box 0 rfl) rfl)) rfl ?_
 refine HO.call (wn) rfl (ec en_75 rfl rfl) (tree_nexts_walk (fr := (Ow.box b_1 31 #[.int .i64 tR, vT] :: fr)) tR tL vT hS hLT hM) ?_
 rintro _ h_2 ⟨F_1, r_2, r_3, rfl, hk, hS, _, hM⟩
 replace hK := hK.trans hk
 replace hLT := hLT.kp hk
 obtain ⟨F_2, hS, hk, hN_1⟩ := hS.bagOpen
 replace hK := hK.trans hk
 replace hLT := hLT.kp hk
 refine HO.eff (wn) rfl (st_alloc (c := #[.map none]) hS tz_79 rfl) ?_
 rintro _ h_3 ⟨b_2, rfl, hS, hk⟩
 replace hK := hK.trans hk
 replace hLT := hLT.kp hk
 replace hN_1 := hN_1.kp hk
 refine HO.sto (wn) rfl (st_store (c' := #[.map (some r_3)]) hS (i := 0) rfl to_79 rfl rfl rfl rfl (Nat.le_of_ble_eq_true rfl) rfl) ?_
 rintro h_4 ⟨hS, hk⟩
 replace hK := hK.trans hk
 replace hLT := hLT.kp hk
 replace hN_1 := hN_1.kp hk
 refine HO.nil (tqn (?_))
 refine HW.seq ?_
 refine HW.region ?_
 refine oV (.agg #[.int .i64 tR, vT]) (q_loadAgg (cs := [.int .i64 tR, vT]) ta_31 rfl rfl (Blk.cells (k := 2) (hS.box 2 rfl) rfl)) rfl ?_
 refine oV (.pointer (some ⟨b_1, 0, none⟩)) (qfA fa_31_0 rfl rfl) rfl ?_
 refine oV (.int .i64 tR) (q_load to_3 rfl (Blk.cell (hS.box 2 rfl) rfl)) rfl ?_
 refine HO.call (wn) rfl (ec en_78 rfl rfl) (tree_walk_walk (fr := (Ow.box b_2 79 #[.map (some r_3)] :: Ow.map r_3 kI bagV r_2 :: Ow.box b_1 31 #[.int .i64 tR, vT] :: fr)) tR tL tR vT hS hLT hM) ?_
 rintro vr_2 h_5 ⟨F_3, r_4, _, rfl, hk, hS, _, hM⟩
 replace hK := hK.trans hk
 replace hLT := hLT.kp hk
 replace hN_1 := hN_1.kp hk
 refine oV (.func (.func 79) #[] #[.pointer (some ⟨b_1, 0, none⟩), .pointer (some ⟨b_2, 0, none⟩)]) (q_makeFunc rfl rfl) rfl ?_
 replace hS : St F_3 (Ow.box b_1 31 #[.int .i64 tR, vT] :: Ow.own 3 1 encI vr_2 r_4 :: Ow.box b_2 79 #[.map (some r_3)] :: Ow.map r_3 kI bagV r_2 :: fr) h_5 := hS.perm2 [3, 0, 1, 2] 4 rfl rfl
 have hZ_1 := hS
 have hkz_1 := (hS.freeze).2
 replace hS := hS.freeze.1
 have hL_1 := hZ_1.lent
 replace hS : St (fun bz_ => F_3 bz_ ∨ (Ow.box b_1 31 #[.int .i64 tR, vT]).foot bz_) (Ow.box b_2 79 #[.map (some r_3)] :: Ow.own 3 1 encI vr_2 r_4 :: Ow.map r_3 kI bagV r_2 :: fr) h_5 := hS.perm2 [1, 0, 2] 3 rfl rfl
 have hZ_2 := hS
 have hkz_2 := (hS.freeze).2
 replace hS := hS.freeze.1
 have hL_2 := hZ_2.lent
 replace hL_1 := hL_1.kp hkz_2
 replace hS : St (fun bz_ => (fun bz_ => F_3 bz_ ∨ (Ow.box b_1 31 #[.int .i64 tR, vT]).foot bz_) bz_ ∨ (Ow.box b_2 79 #[.map (some r_3)]).foot bz_) (Ow.map r_3 kI bagV r_2 :: Ow.own 3 1 encI vr_2 r_4 :: fr) h_5 := hS.perm2 [1, 0] 2 rfl rfl
 have hZ_3 := hS
 have hkz_3 := (hS.freeze).2
 replace hS := hS.freeze.1
 have hL_3 := hZ_3.lent
 replace hL_1 := hL_1.kp hkz_3
 replace hL_2 := hL_2.kp hkz_3
 obtain ⟨cf_1, hc_1, hM⟩ := hM
 have hF_1 : FnP Tryz.prog (fun bz_ => (fun bz_ => (fun bz_ => F_3 bz_ ∨ (Ow.box b_1 31 #[.int .i64 tR, vT]).foot bz_) bz_ ∨ (Ow.box b_2 79 #[.map (some r_3)]).foot bz_) bz_ ∨ (Ow.map r_3 kI bagV r_2).foot bz_) h_5 79 #[] #[.pointer (some ⟨b_1, 0, none⟩), .pointer (some ⟨b_2, 0, none⟩)] (fun x : Int => [.int .i64 x]) (fun x => .bool (cf_1 x)) := FnP.of en_79 (fun x h' hk_ => @HC.mono ⟨true⟩ _ _ _ _ _ _ (@tree_Leaves_1_walk ⟨true⟩ (allF h') [] h' x tR tL r_2 b_1 vT b_2 r_3 (St.init h') ((((hLT.kp hkz_1).kp hkz_2).kp hkz_3).kp hk_) (hL_1.kp hk_) (hL_3.kp hk_) ((((hN_1.kp hkz_1).kp hkz_2).kp hkz_3).kp hk_) (hL_2.kp hk_) (fun r => r = cf_1 x) (hc_1 x)) (fun u h'' ⟨F', r, hu, k_, _, _, _, _, _, _, hr⟩ => ⟨by rw [hu, hr], F', k_⟩))
 refine HO.call (wn) rfl (ec en_77 rfl rfl) (slices_DeleteFunc_s_int_int_walk (fr := (fr)) r_4 cf_1 vr_2 79 (#[]) (#[.pointer (some ⟨b_1, 0, none⟩), .pointer (some ⟨b_2, 0, none⟩)]) hS hF_1 hM) ?_
 rintro vr_3 h_6 ⟨F_4, r_5, _, rfl, hk, hS, _, hM⟩
 obtain ⟨hS, hk⟩ := hZ_3.back hk hS
 obtain ⟨hS, hk⟩ := hZ_2.back hk hS
 obtain ⟨hS, hk⟩ := hZ_1.back hk hS
 generalize (fun bz_ => (fun bz_ => (fun bz_ => F_4 bz_ ∧ ¬ (Ow.map r_3 kI bagV r_2).foot bz_) bz_ ∧ ¬ (Ow.box b_2 79 #[.map (some r_3)]).foot bz_) bz_ ∧ ¬ (Ow.box b_1 31 #[.int .i64 tR, vT]).foot bz_) = F_5 at hS hk
 replace hK := hK.trans hk
 replace hLT := hLT.kp hk
 replace hS : St F_5 (Ow.own 3 1 encI vr_3 r_5 :: Ow.box b_1 31 #[.int .i64 tR, vT] :: Ow.box b_2 79 #[.map (some r_3)] :: Ow.map r_3 kI bagV r_2 :: fr) h_6 := hS.perm2 [3, 0, 1, 2] 4 rfl rfl
 refine HO.call (wn) rfl (ec en_76 rfl rfl) (tree_rising_walk (fr := (Ow.box b_1 31 #[.int .i64 tR, vT] :: Ow.box b_2 79 #[.map (some r_3)] :: Ow.map r_3 kI bagV r_2 :: fr)) r_5 vr_3 hS hM) ?_
 rintro vr_4 h_7 ⟨F_6, r_6, _, rfl, hk, hS, hM⟩
 replace hK := hK.trans hk
 replace hLT := hLT.kp hk
 refine oA (vr_4) rfl rfl ?_
 refine HO.nil (tqn (?_))
 refine HW.ret (?_)
 refine ⟨.inr rfl, vr_4, res1 rfl (rt rfl), ?_⟩
 replace hS : St F_6 (Ow.own 3 1 encI vr_4 r_6 :: fr) h_7 := hS.perm2 [0] 4 rfl rfl
 exact ⟨F_6, r_6, vr_4, rfl, hK, hS, hLT, hM⟩
def cmp_isNaN_int_W (x : Int) (Q : Bool → Prop) : Prop :=
 Q (!decide (x = x))
theorem cmp_isNaN_int_walk {F : Fz} {fr : List Ow} {h0 : Heap} (x : Int) (hS : St F (fr) h0)  {Q : Bool → Prop} (hM : cmp_isNaN_int_W x Q) :
  HC Tryz.prog 109 #[.int .i64 x] h0 fun u h' => ∃ (F' : Fz) (r_1 : Bool), u = .bool r_1 ∧ Kp F h0 F' h' ∧ St F' (fr) h' ∧ Q r_1 := by
 unfold cmp_isNaN_int_W at hM
 have hK := Kp.refl F h0
 refine HC.of_HW (n := 6) Tryz.func109 rfl rfl (Nat.le_of_ble_eq_true rfl) ?_
 refine HW.seq ?_
 refine HW.region ?_
 refine oA (.bool false) rfl rfl ?_
 refine HO.nil (tqn (?_))
 refine HW.seq ?_
 refine HW.region ?_
 refine oM (.int .i64 x) rfl rfl ?_
 refine oM (.int .i64 x) rfl rfl ?_
 refine oV (.bool (!decide (x = x))) (q_neq rfl rfl) rfl ?_
 refine oA (.bool (!decide (x = x))) rfl rfl ?_
 refine HO.nil (tqn (?_))
 refine HW.ret (?_)
 refine ⟨.inr rfl, .bool (!decide (x = x)), res1 rfl (rt rfl), ?_⟩
 exact ⟨F, !decide (x = x), rfl, hK, hS, hM⟩
def cmp_Less_int_W (x : Int) (y : Int) (Q : Bool → Prop) : Prop :=
 cmp_isNaN_int_W x (fun r_2 => (r_2 = true → cmp_isNaN_int_W y (fun r_3 => ((!r_3) = true → Q true) ∧ ((!r_3) = false → Q (decide (x < y))))) ∧ (r_2 = false → Q (decide (x < y))))
theorem cmp_Less_int_walk {F : Fz} {fr : List Ow} {h0 : Heap} (x : Int) (y : Int) (hS : St F (fr) h0)  {Q : Bool → Prop} (hM : cmp_Less_int_W x y Q) :
  HC Tryz.prog 97 #[.int .i64 x, .int .i64 y] h0 fun u h' => ∃ (F' : Fz) (r_1 : Bool), u = .bool r_1 ∧ Kp F h0 F' h' ∧ St F' (fr) h' ∧ Q r_1 := by
 unfold cmp_Less_int_W at hM
 have hK := Kp.refl F h0
 refine HC.of_HW (n := 17) Tryz.func97 rfl rfl (Nat.le_of_ble_eq_true rfl) ?_
 refine HW.seq ?_
 refine HW.region ?_
 refine oA (.bool false) rfl rfl ?_
 refine HO.nil (tqn (?_))
 refine HW.seq ?_
 refine HW.region ?_
 refine oM (.int .i64 x) rfl rfl ?_
 refine HO.call (wn) rfl (ec en_109 rfl rfl) (cmp_isNaN_int_walk (fr := (fr)) x hS hM) ?_
 rintro _ h_1 ⟨F_1, r_2, rfl, hk, hS, hM⟩
 replace hK := hK.trans hk
 refine oM (.bool r_2) rfl rfl ?_
 rcases Bool.eq_false_or_eq_true r_2 with c_1 | c_1
 ·
  replace hM := hM.1 c_1
  refine HO.val (v := .int .i64 y) (wby rfl rfl c_1) rfl (q_move rfl) ?_
  refine HO.call (wby rfl rfl c_1) rfl (ec en_109 rfl rfl) (cmp_isNaN_int_walk (fr := (fr)) y hS hM) ?_
  rintro _ h_2 ⟨F_2, r_3, rfl, hk, hS, hM⟩
  replace hK := hK.trans hk
  refine HO.val (v := .bool (!r_3)) (wby rfl rfl c_1) rfl (q_not rfl) ?_
  refine oV (.bool (!r_3)) (q_pickK true rfl c_1 rfl) rfl ?_
  refine oM (.bool (!r_3)) rfl rfl ?_
  rcases Bool.eq_false_or_eq_true (!r_3) with c_2 | c_2
  ·
   replace hM := hM.1 c_2
   refine HO.past (pby rfl rfl c_2) rfl ?_
   refine HO.past (pby rfl rfl c_2) rfl ?_
   refine HO.past (pby rfl rfl c_2) rfl ?_
   refine oV (.bool true) (q_pickK true rfl c_2 rfl) rfl ?_
   refine oA (.bool true) rfl rfl ?_
   refine HO.nil (tqn (?_))
   refine HW.ret (?_)
   refine ⟨.inr rfl, .bool true, res1 rfl (rt rfl), ?_⟩
   exact ⟨F_2, true, rfl, hK, hS, hM⟩
  ·
   replace hM := hM.2 c_2
   refine HO.val (v := .int .i64 x) (wby rfl rfl c_2) rfl (q_move rfl) ?_
   refine HO.val (v := .int .i64 y) (wby rfl rfl c_2) rfl (q_move rfl) ?_
   refine HO.val (v := .bool (decide (x < y))) (wby rfl rfl c_2) rfl (q_lss rfl rfl) ?_
   refine oV (.bool (decide (x < y))) (q_pickK false rfl c_2 rfl) rfl ?_
   refine oA (.bool (decide (x < y))) rfl rfl ?_
   refine HO.nil (tqn (?_))
   refine HW.ret (?_)
   refine ⟨.inr rfl, .bool (decide (x < y)), res1 rfl (rt rfl), ?_⟩
   exact ⟨F_2, decide (x < y), rfl, hK, hS, hM⟩
 ·
  replace hM := hM.2 c_1
  refine HO.past (pby rfl rfl c_1) rfl ?_
  refine HO.past (pby rfl rfl c_1) rfl ?_
  refine HO.past (pby rfl rfl c_1) rfl ?_
  refine oV (.bool false) (q_pickK false rfl c_1 rfl) rfl ?_
  refine oM (.bool false) rfl rfl ?_
  refine HO.val (v := .int .i64 x) (want_some rfl rfl) rfl (q_move rfl) ?_
  refine HO.val (v := .int .i64 y) (want_some rfl rfl) rfl (q_move rfl) ?_
  refine HO.val (v := .bool (decide (x < y))) (want_some rfl rfl) rfl (q_lss rfl rfl) ?_
  refine oV (.bool (decide (x < y))) (q_pick rfl rfl) rfl ?_
  refine oA (.bool (decide (x < y))) rfl rfl ?_
  refine HO.nil (tqn (?_))
  refine HW.ret (?_)
  refine ⟨.inr rfl, .bool (decide (x < y)), res1 rfl (rt rfl), ?_⟩
  exact ⟨F_1, decide (x < y), rfl, hK, hS, hM⟩
def slices_isNaN_int_W (x : Int) (Q : Bool → Prop) : Prop :=
 Q (!decide (x = x))
theorem slices_isNaN_int_walk {F : Fz} {fr : List Ow} {h0 : Heap} (x : Int) (hS : St F (fr) h0)  {Q : Bool → Prop} (hM : slices_isNaN_int_W x Q) :
  HC Tryz.prog 98 #[.int .i64 x] h0 fun u h' => ∃ (F' : Fz) (r_1 : Bool), u = .bool r_1 ∧ Kp F h0 F' h' ∧ St F' (fr) h' ∧ Q r_1 := by
 unfold slices_isNaN_int_W at hM
 have hK := Kp.refl F h0
 refine HC.of_HW (n := 6) Tryz.func98 rfl rfl (Nat.le_of_ble_eq_true rfl) ?_
 refine HW.seq ?_
 refine HW.region ?_
 refine oA (.bool false) rfl rfl ?_
 refine HO.nil (tqn (?_))
 refine HW.seq ?_
 refine HW.region ?_
 refine oM (.int .i64 x) rfl rfl ?_
 refine oM (.int .i64 x) rfl rfl ?_
 refine oV (.bool (!decide (x = x))) (q_neq rfl rfl) rfl ?_
 refine oA (.bool (!decide (x = x))) rfl rfl ?_
 refine HO.nil (tqn (?_))
 refine HW.ret (?_)
 refine ⟨.inr rfl, .bool (!decide (x = x)), res1 rfl (rt rfl), ?_⟩
 exact ⟨F, !decide (x = x), rfl, hK, hS, hM⟩
def slices_BinarySearch_s_int_int_l1 (x : List Int) (target : Int) (Q : Int → Bool → Prop) (K_1 : Int → Int → Prop) (i_1 : Int) (j_1 : Int) : Prop :=
 (i_1 < j_1 → (I64 (i_1 + j_1)) ∧ ((I64 ((IntKind.u64.wrap (i_1 + j_1)).fdiv (2 ^ (min (1 : Int).toNat IntKind.u64.bits)))) ∧ (((0 : Int) ≤ (IntKind.u64.wrap (i_1 + j_1)).fdiv (2 ^ (min (1 : Int).toNat IntKind.u64.bits)) ∧ (IntKind.u64.wrap (i_1 + j_1)).fdiv (2 ^ (min (1 : Int).toNat IntKind.u64.bits)) < (x.length : Int)) ∧ (cmp_Less_int_W (gi x ((IntKind.u64.wrap (i_1 + j_1)).fdiv (2 ^ (min (1 : Int).toNat IntKind.u64.bits)))) target (fun r_1 => (r_1 = true → (I64 (((IntKind.u64.wrap (i_1 + j_1)).fdiv (2 ^ (min (1 : Int).toNat IntKind.u64.bits))) + 1)) ∧ (K_1 (((IntKind.u64.wrap (i_1 + j_1)).fdiv (2 ^ (min (1 : Int).toNat IntKind.u64.bits))) + 1) j_1)) ∧ (r_1 = false → K_1 i_1 ((IntKind.u64.wrap (i_1 + j_1)).fdiv (2 ^ (min (1 : Int).toNat IntKind.u64.bits))))))))) ∧ (¬ (i_1 < j_1) → (i_1 < (x.length : Int) → ((0 : Int) ≤ i_1 ∧ i_1 < (x.length : Int)) ∧ (((gi x i_1) = target → Q i_1 true) ∧ (¬ ((gi x i_1) = target) → slices_isNaN_int_W (gi x i_1) (fun r_2 => (r_2 = true → slices_isNaN_int_W target (fun r_3 => Q i_1 r_3)) ∧ (r_2 = false → Q i_1 false))))) ∧ (¬ (i_1 < (x.length : Int)) → Q i_1 false))
def slices_BinarySearch_s_int_int_W (x : List Int) (target : Int) (Q : Int → Bool → Prop) : Prop :=
 loopW (fun (K_1 : (Int × Int) → Prop) (s : Int × Int) => slices_BinarySearch_s_int_int_l1 x target Q (fun i_1 j_1 => K_1 (i_1, j_1)) s.1 s.2) (0, (x.length : Int))
theorem slices_BinarySearch_s_int_int_walk {F : Fz} {fr : List Ow} {h0 : Heap} (x : List Int) (target : Int) (vx : Value) (hS : St F (fr) h0) (hL_x : SliceF F h0 1 encI vx x) {Q : Int → Bool → Prop} (hM : slices_BinarySearch_s_int_int_W x target Q) :
  HC Tryz.prog 86 #[vx, .int .i64 target] h0 fun u h' => ∃ (F' : Fz) (r0_1 : Int) (r1_1 : Bool), u = .tuple #[.int .i64 r0_1, .bool r1_1] ∧ Kp F h0 F' h' ∧ St F' (fr) h' ∧ (SliceF F' h' 1 encI vx x) ∧ Q r0_1 r1_1 := by
 unfold slices_BinarySearch_s_int_int_W at hM
 have hK := Kp.refl F h0
 refine HC.of_HW (n := 54) Tryz.func86 rfl rfl (Nat.le_of_ble_eq_true rfl) ?_
 refine HW.seq ?_
 refine HW.region ?_
 refine oA (.int .i64 0) rfl rfl ?_
 refine oA (.bool false) rfl rfl ?_
 refine HO.nil (tqn (?_))
 refine HW.seq ?_
 refine HW.region ?_
 refine oM (vx) rfl rfl ?_
 refine oV (.int .i64 (x.length : Int)) (q_len ts_22 (shp hL_x.is) rfl rfl) rfl ?_
 refine oA (.int .i64 (x.length : Int)) rfl rfl ?_
 refine HO.nil (tqn (?_))
 refine HW.seq ?_
 refine HW.region ?_
 refine oM (.int .i64 (x.length : Int)) rfl rfl ?_
 refine oA (.int .i64 0) rfl rfl ?_
 refine oA (.int .i64 (x.length : Int)) rfl rfl ?_
 refine HO.nil (tqn (?_))
 refine HW.seq ?_
 refine HW.block ?_
 obtain ⟨I_1, m_1, hI_1, hR_1⟩ := hM
 refine HW.loop (S := Int × Int) (fun s f h => match s with | (i_1, j_1) => ∃ (F' : Fz), f 0 = vx ∧ f 1 = .int .i64 target ∧ f 4 = .int .i64 0 ∧ f 5 = .bool false ∧ f 6 = .int .i64 (x.length : Int) ∧ f 7 = .int .i64 i_1 ∧ f 8 = .int .i64 j_1 ∧ Kp F h0 F' h ∧ St F' (fr) h ∧ (SliceF F' h 1 encI vx x) ∧ I_1 (i_1, j_1)) m_1 (0, (x.length : Int)) ⟨F, rfl, rfl, rfl, rfl, rfl, rfl, rfl, hK, hS, hL_x, hI_1⟩ ?_
 rintro ⟨i_1, j_1⟩ f_1 h_1 ⟨F_1, e0, e1, e4, e5, e6, e7, e8, hK, hS, hL_x, hI0⟩
 obtain ⟨K_1, hKe_1⟩ : ∃ K : Int → Int → Prop, K = fun i_1' j_1' => I_1 (i_1', j_1') ∧ m_1 (i_1', j_1') < m_1 (i_1, j_1) := ⟨_, rfl⟩
 have hM : slices_BinarySearch_s_int_int_l1 x target Q K_1 i_1 j_1 := by rw [hKe_1]; exact hR_1 (i_1, j_1) hI0
 unfold slices_BinarySearch_s_int_int_l1 at hM
 refine HW.fr [(0, vx), (1, .int .i64 target), (4, .int .i64 0), (5, .bool false), (6, .int .i64 (x.length : Int)), (7, .int .i64 i_1), (8, .int .i64 j_1)] ⟨e0, e1, e4, e5, e6, e7, e8, trivial⟩ ?_
 refine HW.seq ?_
 refine HW.seq ?_
 refine HW.region ?_
 refine oM (.int .i64 i_1) rfl rfl ?_
 refine oM (.int .i64 j_1) rfl rfl ?_
 refine oV (.bool (decide (i_1 < j_1))) (q_lss rfl rfl) rfl ?_
 refine HO.nil (tqn (?_))
 refine HW.cond (decide (i_1 < j_1)) rfl (fun c_1 => ?_) (fun c_1 => ?_)
 ·
  replace hM := hM.1 (of_decide_eq_true c_1)
  refine HW.skip (tqn (?_))
  refine HW.block ?_
  refine HW.seq ?_
  refine HW.region ?_
  refine oM (.int .i64 i_1) rfl rfl ?_
  refine oM (.int .i64 j_1) rfl rfl ?_
  obtain ⟨ho_1, hM⟩ := hM
  refine oV (.int .i64 (i_1 + j_1)) (q_addN _ rfl rfl rfl ho_1.1 ho_1.2) rfl ?_
  refine oV (.int .u64 (IntKind.u64.wrap (i_1 + j_1))) (q_convInt (n := i_1 + j_1) Tryz.underlying3 Tryz.underlying95 rfl rfl) rfl ?_
  refine oV (.int .u64 ((IntKind.u64.wrap (i_1 + j_1)).fdiv (2 ^ (min (1 : Int).toNat IntKind.u64.bits)))) (q_shr rfl rfl (by decide) rfl) rfl ?_
  obtain ⟨ho_2, hM⟩ := hM
  refine oV (.int .i64 ((IntKind.u64.wrap (i_1 + j_1)).fdiv (2 ^ (min (1 : Int).toNat IntKind.u64.bits)))) (q_convInt Tryz.underlying95 Tryz.underlying3 rfl (wrap_i64 ho_2.1 ho_2.2)) rfl ?_
  refine oA (.int .i64 ((IntKind.u64.wrap (i_1 + j_1)).fdiv (2 ^ (min (1 : Int).toNat IntKind.u64.bits)))) rfl rfl ?_
  refine HO.nil (tqn (?_))
  refine HW.seq ?_
  refine HW.region ?_
  refine oM (vx) rfl rfl ?_
  refine oM (.int .i64 ((IntKind.u64.wrap (i_1 + j_1)).fdiv (2 ^ (min (1 : Int).toNat IntKind.u64.bits)))) rfl rfl ?_
  obtain ⟨ho_3, hM⟩ := hM
  refine oV (elemPtr 1 vx ((IntKind.u64.wrap (i_1 + j_1)).fdiv (2 ^ (min (1 : Int).toNat IntKind.u64.bits))).toNat) (q_idx ts_22 hL_x.is rfl rfl ho_3) rfl ?_
  refine oV (.int .i64 (gi x ((IntKind.u64.wrap (i_1 + j_1)).fdiv (2 ^ (min (1 : Int).toNat IntKind.u64.bits))))) (q_ldElem to_3 hL_x.is rfl ho_3 rfl) rfl ?_
  refine oM (.int .i64 target) rfl rfl ?_
  refine HO.call (wn) rfl (ec en_97 rfl rfl) (cmp_Less_int_walk (fr := (fr)) (gi x ((IntKind.u64.wrap (i_1 + j_1)).fdiv (2 ^ (min (1 : Int).toNat IntKind.u64.bits)))) target hS hM) ?_
  rintro _ h_2 ⟨F_2, r_1, rfl, hk, hS, hM⟩
  replace hK := hK.trans hk
  replace hL_x := hL_x.kp hk
  refine HO.nil (tqn (?_))
  refine HW.cond r_1 rfl (fun c_2 => ?_) (fun c_2 => ?_)
  ·
   replace hM := hM.1 c_2
   refine HW.region ?_
   refine oM (.int .i64 ((IntKind.u64.wrap (i_1 + j_1)).fdiv (2 ^ (min (1 : Int).toNat IntKind.u64.bits)))) rfl rfl ?_
   obtain ⟨ho_4, hM⟩ := hM
   refine oV (.int .i64 (((IntKind.u64.wrap (i_1 + j_1)).fdiv (2 ^ (min (1 : Int).toNat IntKind.u64.bits))) + 1)) (q_addN _ rfl rfl rfl ho_4.1 ho_4.2) rfl ?_
   refine oA (.int .i64 (((IntKind.u64.wrap (i_1 + j_1)).fdiv (2 ^ (min (1 : Int).toNat IntKind.u64.bits))) + 1)) rfl rfl ?_
   refine HO.nil (blockQ_normal (tqn (?_)))
   rw [hKe_1] at hM
   exact ⟨(((IntKind.u64.wrap (i_1 + j_1)).fdiv (2 ^ (min (1 : Int).toNat IntKind.u64.bits))) + 1, j_1), ⟨F_2, rfl, rfl, rfl, rfl, rfl, rfl, rfl, hK, hS, hL_x, hM.1⟩, hM.2⟩
  ·
   replace hM := hM.2 c_2
   refine HW.region ?_
   refine oM (.int .i64 ((IntKind.u64.wrap (i_1 + j_1)).fdiv (2 ^ (min (1 : Int).toNat IntKind.u64.bits)))) rfl rfl ?_
   refine oA (.int .i64 ((IntKind.u64.wrap (i_1 + j_1)).fdiv (2 ^ (min (1 : Int).toNat IntKind.u64.bits)))) rfl rfl ?_
   refine HO.nil (blockQ_normal (tqn (?_)))
   rw [hKe_1] at hM
   exact ⟨(i_1, (IntKind.u64.wrap (i_1 + j_1)).fdiv (2 ^ (min (1 : Int).toNat IntKind.u64.bits))), ⟨F_2, rfl, rfl, rfl, rfl, rfl, rfl, rfl, hK, hS, hL_x, hM.1⟩, hM.2⟩
 ·
  replace hM := hM.2 (of_decide_eq_false c_1)
  refine HW.exit (thenQ_exit (thenQ_exit (blockQ_exit (tqn (?_)))))
  refine HW.seq ?_
  refine HW.region ?_
  refine oM (.int .i64 i_1) rfl rfl ?_
  refine oM (.int .i64 i_1) rfl rfl ?_
  refine oM (.int .i64 (x.length : Int)) rfl rfl ?_
  refine oV (.bool (decide (i_1 < (x.length : Int)))) (q_lss rfl rfl) rfl ?_
  refine oM (.bool (decide (i_1 < (x.length : Int)))) rfl rfl ?_
  rcases Bool.eq_false_or_eq_true (decide (i_1 < (x.length : Int))) with c_3 | c_3
  ·
   replace hM := hM.1 (of_decide_eq_true c_3)
   refine HO.val (v := vx) (wby rfl rfl c_3) rfl (q_move rfl) ?_
   refine HO.val (v := .int .i64 i_1) (wby rfl rfl c_3) rfl (q_move rfl) ?_
   obtain ⟨ho_5, hM⟩ := hM
   refine HO.val (v := elemPtr 1 vx (i_1).toNat) (wby rfl rfl c_3) rfl (q_idx ts_22 hL_x.is rfl rfl ho_5) ?_
   refine HO.val (v := .int .i64 (gi x i_1)) (wby rfl rfl c_3) rfl (q_ldElem to_3 hL_x.is rfl ho_5 rfl) ?_
   refine HO.val (v := .int .i64 target) (wby rfl rfl c_3) rfl (q_move rfl) ?_
   refine HO.val (v := .bool (decide ((gi x i_1) = target))) (wby rfl rfl c_3) rfl (q_eql rfl rfl) ?_
   refine HO.val (v := .bool (decide ((gi x i_1) = target))) (wby rfl rfl c_3) rfl (q_move rfl) ?_
   rcases Bool.eq_false_or_eq_true (decide ((gi x i_1) = target)) with c_4 | c_4
   ·
    replace hM := hM.1 (of_decide_eq_true c_4)
    refine HO.past (pby rfl rfl c_4) rfl ?_
    refine HO.past (pby rfl rfl c_4) rfl ?_
    refine HO.past (pby rfl rfl c_4) rfl ?_
    refine HO.past (pby rfl rfl c_4) rfl ?_
    refine HO.past (pby rfl rfl c_4) rfl ?_
    refine HO.past (pby rfl rfl c_4) rfl ?_
    refine HO.past (past_undef rfl rfl) rfl ?_
    refine HO.past (past_undef rfl rfl) rfl ?_
    refine HO.past (pby rfl rfl c_4) rfl ?_
    refine HO.val (v := .bool true) (wby rfl rfl c_3) rfl (q_pickK true rfl c_4 rfl) ?_
    refine oV (.bool true) (q_pickK true rfl c_3 rfl) rfl ?_
    refine oA (.int .i64 i_1) rfl rfl ?_
    refine oA (.bool true) rfl rfl ?_
    refine HO.nil (tqn (?_))
    refine HW.ret (?_)
    refine ⟨.inr rfl, .tuple #[.int .i64 i_1, .bool true], res2 rfl (rt rfl) (rt rfl), ?_⟩
    exact ⟨F_1, i_1, true, rfl, hK, hS, hL_x, hM⟩
   ·
    replace hM := hM.2 (of_decide_eq_false c_4)
    refine HO.val (v := vx) (wby rfl rfl c_4) rfl (q_move rfl) ?_
    refine HO.val (v := .int .i64 i_1) (wby rfl rfl c_4) rfl (q_move rfl) ?_
    refine HO.val (v := elemPtr 1 vx (i_1).toNat) (wby rfl rfl c_4) rfl (q_idx ts_22 hL_x.is rfl rfl ho_5) ?_
    refine HO.val (v := .int .i64 (gi x i_1)) (wby rfl rfl c_4) rfl (q_ldElem to_3 hL_x.is rfl ho_5 rfl) ?_
    refine HO.call (wby rfl rfl c_4) rfl (ec en_98 rfl rfl) (slices_isNaN_int_walk (fr := (fr)) (gi x i_1) hS hM) ?_
    rintro _ h_3 ⟨F_3, r_2, rfl, hk, hS, hM⟩
    replace hK := hK.trans hk
    replace hL_x := hL_x.kp hk
    refine HO.val (v := .bool r_2) (wby rfl rfl c_4) rfl (q_move rfl) ?_
    rcases Bool.eq_false_or_eq_true r_2 with c_5 | c_5
    ·
     replace hM := hM.1 c_5
     refine HO.val (v := .int .i64 target) (wby rfl rfl c_5) rfl (q_move rfl) ?_
     refine HO.call (wby rfl rfl c_5) rfl (ec en_98 rfl rfl) (slices_isNaN_int_walk (fr := (fr)) target hS hM) ?_
     rintro _ h_4 ⟨F_4, r_3, rfl, hk, hS, hM⟩
     replace hK := hK.trans hk
     replace hL_x := hL_x.kp hk
     refine HO.val (v := .bool r_3) (wby rfl rfl c_4) rfl (q_pickK true rfl c_5 rfl) ?_
     refine HO.val (v := .bool r_3) (wby rfl rfl c_3) rfl (q_pickK false rfl c_4 rfl) ?_
     refine oV (.bool r_3) (q_pickK true rfl c_3 rfl) rfl ?_
     refine oA (.int .i64 i_1) rfl rfl ?_
     refine oA (.bool r_3) rfl rfl ?_
     refine HO.nil (tqn (?_))
     refine HW.ret (?_)
     refine ⟨.inr rfl, .tuple #[.int .i64 i_1, .bool r_3], res2 rfl (rt rfl) (rt rfl), ?_⟩
     exact ⟨F_4, i_1, r_3, rfl, hK, hS, hL_x, hM⟩
    ·
     replace hM := hM.2 c_5
     refine HO.past (pby rfl rfl c_5) rfl ?_
     refine HO.past (pby rfl rfl c_5) rfl ?_
     refine HO.val (v := .bool false) (wby rfl rfl c_4) rfl (q_pickK false rfl c_5 rfl) ?_
     refine HO.val (v := .bool false) (wby rfl rfl c_3) rfl (q_pickK false rfl c_4 rfl) ?_
     refine oV (.bool false) (q_pickK true rfl c_3 rfl) rfl ?_
     refine oA (.int .i64 i_1) rfl rfl ?_
     refine oA (.bool false) rfl rfl ?_
     refine HO.nil (tqn (?_))
     refine HW.ret (?_)
     refine ⟨.inr rfl, .tuple #[.int .i64 i_1, .bool false], res2 rfl (rt rfl) (rt rfl), ?_⟩
     exact ⟨F_3, i_1, false, rfl, hK, hS, hL_x, hM⟩
  ·
   replace hM := hM.2 (of_decide_eq_false c_3)
   refine HO.past (pby rfl rfl c_3) rfl ?_
   refine HO.past (pby rfl rfl c_3) rfl ?_
   refine HO.past (pby rfl rfl c_3) rfl ?_
   refine HO.past (pby rfl rfl c_3) rfl ?_
   refine HO.past (pby rfl rfl c_3) rfl ?_
   refine HO.past (pby rfl rfl c_3) rfl ?_
   refine HO.past (pby rfl rfl c_3) rfl ?_
   refine HO.past (past_undef rfl rfl) rfl ?_
   refine HO.past (past_undef rfl rfl) rfl ?_
   refine HO.past (past_undef rfl rfl) rfl ?_
   refine HO.past (past_undef rfl rfl) rfl ?_
   refine HO.past (past_undef rfl rfl) rfl ?_
   refine HO.past (past_undef rfl rfl) rfl ?_
   refine HO.past (past_undef rfl rfl) rfl ?_
   refine HO.past (past_undef rfl rfl) rfl ?_
   refine HO.past (past_undef rfl rfl) rfl ?_
   refine HO.past (pby rfl rfl c_3) rfl ?_
   refine oV (.bool false) (q_pickK false rfl c_3 rfl) rfl ?_
   refine oA (.int .i64 i_1) rfl rfl ?_
   refine oA (.bool false) rfl rfl ?_
   refine HO.nil (tqn (?_))
   refine HW.ret (?_)
   refine ⟨.inr rfl, .tuple #[.int .i64 i_1, .bool false], res2 rfl (rt rfl) (rt rfl), ?_⟩
   exact ⟨F_1, i_1, false, rfl, hK, hS, hL_x, hM⟩
def slices_Clone_s_int_int_W (s1 : List Int) (Q : (List Int) → Prop) : Prop :=
 (s1 = [] → Q []) ∧ (True → ((([] : List Int).length + s1.length) * 8 ≤ 140737488355328) ∧ (Q (([] : List Int) ++ s1)))
theorem slices_Clone_s_int_int_walk {F : Fz} {fr : List Ow} {h0 : Heap} (s1 : List Int) (vs : Value) (hS : St F (fr) h0) (hL_s1 : SliceF F h0 1 encI vs s1) {Q : (List Int) → Prop} (hM : slices_Clone_s_int_int_W s1 Q) :
  HC Tryz.prog 82 #[vs] h0 fun u h' => ∃ (F' : Fz) (r_1 : List Int) (vr_1 : Value), u = vr_1 ∧ Kp F h0 F' h' ∧ St F' (Ow.own 3 1 encI vr_1 r_1 :: fr) h' ∧ (SliceF F' h' 1 encI vs s1) ∧ Q r_1 := by
 unfold slices_Clone_s_int_int_W at hM
 have hK := Kp.refl F h0
 refine HC.of_HW (n := 8) Tryz.func82 rfl rfl (Nat.le_of_ble_eq_true rfl) ?_
 refine HW.seq ?_
 refine HW.region ?_
 refine oA (.slice none 0 0) rfl rfl ?_
 refine HO.nil (tqn (?_))
 refine HW.seq ?_
 refine HW.seq ?_
 refine HW.region ?_
 refine oM (vs) rfl rfl ?_
 refine oV (.bool (isNil vs)) (q_eqlSnil Tryz.underlying22 (shp hL_s1.is) rfl rfl) rfl ?_
 refine HO.nil (tqn (?_))
 refine HW.cond (isNil vs) rfl (fun c_1 => ?_) (fun c_1 => ?_)
 ·
  replace hM := hM.1 (isNil_nil hL_s1.is c_1)
  refine HW.seq ?_
  refine HW.region ?_
  refine oA (.slice none 0 0) rfl rfl ?_
  refine HO.nil (tqn (?_))
  refine HW.ret (thenQ_ret (?_))
  refine ⟨.inr rfl, .slice none 0 0, res1 rfl (rt rfl), ?_⟩
  replace hS := hS.nilOwn 3 1 encI
  exact ⟨F, [], .slice none 0 0, rfl, hK, hS, hL_s1, hM⟩
 ·
  replace hM := hM.2 trivial
  refine HW.skip (tqn (?_))
  refine HW.seq ?_
  refine HW.region ?_
  refine HO.eff (wn) rfl (st_litEmpty (α := Int) encI hS tl_22) ?_
  rintro _ h_1 ⟨b_1, rfl, hS, hk⟩
  replace hK := hK.trans hk
  replace hL_s1 := hL_s1.kp hk
  refine oM (vs) rfl rfl ?_
  obtain ⟨ho_1, hM⟩ := hM
  refine HO.eff (wn) rfl (st_append te_22 hS (i := 0) rfl hL_s1.is rfl rfl rfl (by intro a _ u hu; simp [encI, encI, encN, encB, encT] at hu; subst hu; rfl) ho_1 (by omega)) ?_
  rintro v_1 h_2 ⟨hS, hk⟩
  replace hK := hK.trans hk
  replace hL_s1 := hL_s1.kp hk
  refine oA (v_1) rfl rfl ?_
  refine HO.nil (tqn (?_))
  refine HW.ret (?_)
  refine ⟨.inr rfl, v_1, res1 rfl (rt rfl), ?_⟩
  exact ⟨F, ([] : List Int) ++ s1, v_1, rfl, hK, hS, hL_s1, hM⟩
def repair_with_W (l : List Int) (n : Int) (Q : (List Int) → Prop) : Prop :=
 slices_BinarySearch_s_int_int_W l n (fun r0_1 r1_1 => slices_Clone_s_int_int_W l (fun r_2 => ((0 : Int) ≤ r0_1 ∧ r0_1 ≤ ((r_2).length : Int) ∧ ((r_2).length + 1) * 8 ≤ 140737488355328) ∧ (Q (r_2.take (r0_1).toNat ++ (([n] : List Int) ++ r_2.drop (r0_1).toNat)))))
theorem repair_with_walk {F : Fz} {fr : List Ow} {h0 : Heap} (l : List Int) (n : Int) (vl : Value) (hS : St F (fr) h0) (hL_l : SliceF F h0 1 encI vl l) (hD : DM.on = false) {Q : (List Int) → Prop} (hM : repair_with_W l n Q) :
  HC Tryz.prog 59 #[vl, .int .i64 n] h0 fun u h' => ∃ (F' : Fz) (r_1 : List Int) (vr_1 : Value), u = vr_1 ∧ Kp F h0 F' h' ∧ St F' (Ow.own 3 1 encI vr_1 r_1 :: fr) h' ∧ (SliceF F' h' 1 encI vl l) ∧ Q r_1 := by
 unfold repair_with_W at hM
 have hK := Kp.refl F h0
 refine HC.of_HW (n := 19) Tryz.func59 rfl rfl (Nat.le_of_ble_eq_true rfl) ?_
 refine HW.seq ?_
 refine HW.region ?_
 refine oA (.slice none 0 0) rfl rfl ?_
 refine HO.nil (tqn (?_))
 refine HW.seq ?_
 refine HW.region ?_
 refine oM (vl) rfl rfl ?_
 refine oM (.int .i64 n) rfl rfl ?_
 refine HO.call (wn) rfl (ec en_86 rfl rfl) (slices_BinarySearch_s_int_int_walk (fr := (fr)) l n vl hS hL_l hM) ?_
 rintro _ h_1 ⟨F_1, r0_1, r1_1, rfl, hk, hS, _, hM⟩
 replace hK := hK.trans hk
 replace hL_l := hL_l.kp hk
 refine oM (.tuple #[.int .i64 r0_1, .bool r1_1]) rfl rfl ?_
 refine oV (.int .i64 r0_1) (q_extract rfl rfl) rfl ?_
 refine oV (.bool r1_1) (q_extract rfl rfl) rfl ?_
 refine oA (.int .i64 r0_1) rfl rfl ?_
 refine oA (.bool r1_1) rfl rfl ?_
 refine HO.nil (tqn (?_))
 refine HW.seq ?_
 refine HW.region ?_
 refine oM (vl) rfl rfl ?_
 refine HO.call (wn) rfl (ec en_82 rfl rfl) (slices_Clone_s_int_int_walk (fr := (fr)) l vl hS hL_l hM) ?_
 rintro vr_2 h_2 ⟨F_2, r_2, _, rfl, hk, hS, _, hM⟩
 replace hK := hK.trans hk
 replace hL_l := hL_l.kp hk
 refine oM (.int .i64 r0_1) rfl rfl ?_
 refine oM (.int .i64 n) rfl rfl ?_
 refine HO.eff (wn) rfl (st_lit (enc := encI) (cells := #[.int .i64 n]) #[.int .i64 0] ([n] : List Int) hS tl_22 (by decide) (by decide) (by kernel_rfl) (by kernel_rfl) rfl (by intro x hx; rfl) rfl) ?_
 rintro _ h_3 ⟨b_1, rfl, hS, hk⟩
 replace hK := hK.trans hk
 replace hL_l := hL_l.kp hk
 replace hS : St F_2 (Ow.own 3 1 encI vr_2 r_2 :: Ow.own 3 1 encI (.slice (some ⟨b_1, 0, none⟩) 1 1) ([n] : List Int) :: fr) h_3 := hS.perm2 [1, 0] 2 rfl rfl
 obtain ⟨ho_1, hM⟩ := hM
 refine HO.call (wn) rfl (ec en_87 rfl rfl) (insertI_hc hD Tryz.insI rfl ho_1.1 ho_1.2.1 ho_1.2.2 hS) ?_
 rintro v_1 h_4 ⟨hS, hk⟩
 replace hK := hK.trans hk
 replace hL_l := hL_l.kp hk
 refine oA (v_1) rfl rfl ?_
 refine HO.nil (tqn (?_))
 refine HW.ret (?_)
 refine ⟨.inr rfl, v_1, res1 rfl (rt rfl), ?_⟩
 exact ⟨F_2, r_2.take (r0_1).toNat ++ (([n] : List Int) ++ r_2.drop (r0_1).toNat), v_1, rfl, hK, hS, hL_l, hM⟩
def tree_Fan_l1 (Q : Int → Prop) (K_1 : Int → (List (Int × Value × List Int)) → Prop) (most_1 : Int) (rem_1 : List (Int × Value × List Int)) : Prop :=
 (rem_1 = [] → Q most_1) ∧ (∀ (p_1 : Int × Value × List Int) (rem_2 : List (Int × Value × List Int)), List.Perm rem_1 (p_1 :: rem_2) → K_1 (max most_1 (p_1.2.2.length : Int)) rem_2)
def tree_Fan_W (tR : Int) (tL : List TB) (Q : Int → Prop) : Prop :=
 tree_nexts_W tR tL (fun r_2 => loopW (fun (K_1 : (Int × List (Int × Value × List Int)) → Prop) (s : Int × List (Int × Value × List Int)) => tree_Fan_l1 Q (fun most_1 rem_1 => K_1 (most_1, rem_1)) s.1 s.2) (0, r_2))
theorem tree_Fan_walk {F : Fz} {fr : List Ow} {h0 : Heap} (tR : Int) (tL : List TB) (vT : Value) (hS : St F (fr) h0) (hLT : SliceF F h0 2 eB vT tL) {Q : Int → Prop} (hM : tree_Fan_W tR tL Q) :
  HC Tryz.prog 67 #[.agg #[.int .i64 tR, vT]] h0 fun u h' => ∃ (F' : Fz) (r_1 : Int), u = .int .i64 r_1 ∧ Kp F h0 F' h' ∧ St F' (fr) h' ∧ (SliceF F' h' 2 eB vT tL) ∧ Q r_1 := by
 unfold tree_Fan_W at hM
 have hK := Kp.refl F h0
 refine HC.of_HW (n := 18) Tryz.func67 rfl rfl (Nat.le_of_ble_eq_true rfl) ?_
 refine HW.seq ?_
 refine HW.region ?_
 refine HO.eff (wn) rfl (st_box (c := #[.int .i64 tR, vT]) (k' := 2) hS rfl rfl) ?_
 rintro _ h_1 ⟨b_1, rfl, hS, hk⟩
 replace hK := hK.trans hk
 replace hLT := hLT.kp hk
 refine oA (.int .i64 0) rfl rfl ?_
 refine HO.nil (tqn (?_))
 refine HW.seq ?_
 refine HW.region ?_
 refine oA (.int .i64 0) rfl rfl ?_
 refine HO.nil (tqn (?_))
 refine HW.seq ?_
 refine HW.seq ?_
 refine HW.region ?_
 refine oV (.agg #[.int .i64 tR, vT]) (q_loadAgg (cs := [.int .i64 tR, vT]) ta_31 rfl rfl (Blk.cells (k := 2) (hS.box 0 rfl) rfl)) rfl ?_
 refine HO.call (wn) rfl (ec en_75 rfl rfl) (tree_nexts_walk (fr := (Ow.box b_1 31 #[.int .i64 tR, vT] :: fr)) tR tL vT hS hLT hM) ?_
 rintro _ h_2 ⟨F_1, r_2, r_3, rfl, hk, hS, _, hM⟩
 replace hK := hK.trans hk
 replace hLT := hLT.kp hk
 obtain ⟨F_2, hS, hk, hN_1⟩ := hS.bagOpen
 replace hK := hK.trans hk
 replace hLT := hLT.kp hk
 refine HO.eff (wn) rfl (st_range hS (i := 0) rfl Tryz.underlying79 rfl) ?_
 rintro _ h_3 ⟨it_1, rfl, hS, hk⟩
 replace hK := hK.trans hk
 replace hLT := hLT.kp hk
 replace hN_1 := hN_1.kp hk
 refine HO.nil (tqn (?_))
 refine HW.block ?_
 obtain ⟨I_1, m_1, hI_1, hR_1⟩ := hM
 replace hS : St F_2 (Ow.iter it_1 r_3 kI bagV r_2 r_2 :: fr) h_3 := hS.perm2 [0] 2 rfl rfl
 refine HW.loop (S := Int × List (Int × Value × List Int)) (fun s f h => match s with | (most_1, rem_1) => ∃ (F' : Fz), f 2 = .int .i64 0 ∧ f 3 = .int .i64 most_1 ∧ f 8 = .pointer (some ⟨it_1, 0, none⟩) ∧ Kp F h0 F' h ∧ St F' (Ow.iter it_1 r_3 kI bagV r_2 rem_1 :: fr) h ∧ (SliceF F' h 2 eB vT tL) ∧ (NfB 1 encI F' h r_2) ∧ (NfB 1 encI F' h rem_1) ∧ I_1 (most_1, rem_1)) m_1 (0, r_2) ⟨F_2, rfl, rfl, rfl, hK, hS, hLT, hN_1, hN_1, hI_1⟩ ?_
 rintro ⟨most_1, rem_1⟩ f_1 h_4 ⟨F_3, e2, e3, e8, hK, hS, hLT, hN_1, hN_2, hI0⟩
 obtain ⟨K_1, hKe_1⟩ : ∃ K : Int → (List (Int × Value × List Int)) → Prop, K = fun most_1' rem_1' => I_1 (most_1', rem_1') ∧ m_1 (most_1', rem_1') < m_1 (most_1, rem_1) := ⟨_, rfl⟩
 have hM : tree_Fan_l1 Q K_1 most_1 rem_1 := by rw [hKe_1]; exact hR_1 (most_1, rem_1) hI0
 unfold tree_Fan_l1 at hM
 refine HW.fr [(2, .int .i64 0), (3, .int .i64 most_1), (8, .pointer (some ⟨it_1, 0, none⟩))] ⟨e2, e3, e8, trivial⟩ ?_
 refine HW.seq ?_
 refine HW.region ?_
 refine HO.eff (wn) rfl (st_next hS (i := 0) rfl rfl) ?_
 rintro _ h_5 (⟨hrem, rfl, hEq⟩ | ⟨p_1, rem_2, hperm, rfl, hS, hk⟩)
 ·
  rw [hEq]
  replace hM := hM.1 hrem
  replace hS := hS.done 0 rfl
  refine oV (.bool false) (q_extract rfl rfl) rfl ?_
  refine HO.nil (tqn (?_))
  refine HW.seq ?_
  refine HW.condF rfl ?_
  refine HW.exit (thenQ_exit (thenQ_exit (blockQ_exit (tqn (?_)))))
  refine HW.seq ?_
  refine HW.region ?_
  refine oM (.int .i64 most_1) rfl rfl ?_
  refine oA (.int .i64 most_1) rfl rfl ?_
  refine HO.nil (tqn (?_))
  refine HW.ret (?_)
  refine ⟨.inr rfl, .int .i64 most_1, res1 rfl (rt rfl), ?_⟩
  replace hS : St F_3 (fr) h_4 := hS.perm2 [] 1 rfl rfl
  exact ⟨F_3, most_1, rfl, hK, hS, hLT, hM⟩
 ·
  replace hM := hM.2 p_1 rem_2 hperm
  replace hK := hK.trans hk
  replace hLT := hLT.kp hk
  replace hN_1 := hN_1.kp hk
  replace hN_2 := hN_2.kp hk
  have hN_3 : NfB 1 encI F_3 h_5 rem_2 := ⟨fun p_ hp_ => hN_2.all p_ (hperm.mem_iff.2 (List.mem_cons_of_mem _ hp_))⟩
  have hL_1 : SliceF F_3 h_5 1 encI p_1.2.1 p_1.2.2 := hN_2.all p_1 (hperm.mem_iff.2 (List.mem_cons_self ..))
  refine oV (.bool true) (q_extract rfl rfl) rfl ?_
  refine HO.nil (tqn (?_))
  refine HW.seq ?_
  refine HW.condT rfl ?_
  refine HW.skip (tqn (?_))
  refine HW.block ?_
  refine HW.seq ?_
  refine HW.region ?_
  refine oV (.tuple #[.int .i64 p_1.1, p_1.2.1]) (q_entry (hS.cu 0 rfl) rfl) rfl ?_
  refine oV (p_1.2.1) (q_extract rfl rfl) rfl ?_
  refine oA (p_1.2.1) rfl rfl ?_
  refine HO.nil (tqn (?_))
  refine HW.region ?_
  refine oM (.int .i64 most_1) rfl rfl ?_
  refine oM (p_1.2.1) rfl rfl ?_
  refine oV (.int .i64 (p_1.2.2.length : Int)) (q_len ts_22 (shp hL_1.is) rfl rfl) rfl ?_
  refine oV (.int .i64 (max most_1 (p_1.2.2.length : Int))) (q_max rfl rfl) rfl ?_
  refine oA (.int .i64 (max most_1 (p_1.2.2.length : Int))) rfl rfl ?_
  refine HO.nil (blockQ_normal (tqn (?_)))
  replace hS := hS.again 0 rfl
  rw [hKe_1] at hM
  exact ⟨(max most_1 (p_1.2.2.length : Int), rem_2), ⟨F_3, rfl, rfl, rfl, hK, hS, hLT, hN_1, hN_3, hM.1⟩, hM.2⟩
def repair_star_W (tR : Int) (tL : List TB) (fan : Int) (Q : Bool → Prop) : Prop :=
 tree_Fan_W tR tL (fun r_2 => Q (decide (fan < r_2)))
theorem repair_star_walk {F : Fz} {fr : List Ow} {h0 : Heap} (tR : Int) (tL : List TB) (fan : Int) (vT : Value) (hS : St F (fr) h0) (hLT : SliceF F h0 2 eB vT tL) {Q : Bool → Prop} (hM : repair_star_W tR tL fan Q) :
  HC Tryz.prog 43 #[.agg #[.int .i64 tR, vT], .int .i64 fan] h0 fun u h' => ∃ (F' : Fz) (r_1 : Bool), u = .bool r_1 ∧ Kp F h0 F' h' ∧ St F' (fr) h' ∧ (SliceF F' h' 2 eB vT tL) ∧ Q r_1 := by
 unfold repair_star_W at hM
 have hK := Kp.refl F h0
 refine HC.of_HW (n := 9) Tryz.func43 rfl rfl (Nat.le_of_ble_eq_true rfl) ?_
 refine HW.seq ?_
 refine HW.region ?_
 refine HO.eff (wn) rfl (st_box (c := #[.int .i64 tR, vT]) (k' := 2) hS rfl rfl) ?_
 rintro _ h_1 ⟨b_1, rfl, hS, hk⟩
 replace hK := hK.trans hk
 replace hLT := hLT.kp hk
 refine oA (.bool false) rfl rfl ?_
 refine HO.nil (tqn (?_))
 refine HW.seq ?_
 refine HW.region ?_
 refine oV (.agg #[.int .i64 tR, vT]) (q_loadAgg (cs := [.int .i64 tR, vT]) ta_31 rfl rfl (Blk.cells (k := 2) (hS.box 0 rfl) rfl)) rfl ?_
 refine HO.call (wn) rfl (ec en_67 rfl rfl) (tree_Fan_walk (fr := (Ow.box b_1 31 #[.int .i64 tR, vT] :: fr)) tR tL vT hS hLT hM) ?_
 rintro _ h_2 ⟨F_1, r_2, rfl, hk, hS, _, hM⟩
 replace hK := hK.trans hk
 replace hLT := hLT.kp hk
 refine oM (.int .i64 fan) rfl rfl ?_
 refine oV (.bool (decide (fan < r_2))) (q_gtr rfl rfl) rfl ?_
 refine oA (.bool (decide (fan < r_2))) rfl rfl ?_
 refine HO.nil (tqn (?_))
 refine HW.ret (?_)
 refine ⟨.inr rfl, .bool (decide (fan < r_2)), res1 rfl (rt rfl), ?_⟩
 replace hS : St F_1 (fr) h_2 := hS.perm2 [] 1 rfl rfl
 exact ⟨F_1, decide (fan < r_2), rfl, hK, hS, hLT, hM⟩
def plan_need_W (members : Int) (fan : Int) (Q : Int → Bool → Prop) : Prop :=
 (members ≤ fan → Q 0 true) ∧ (¬ (members ≤ fan) → (fan ≤ 1 → Q 0 false) ∧ (¬ (fan ≤ 1) → (I64 (members - fan)) ∧ ((I64 ((members - fan) + fan)) ∧ ((I64 (((members - fan) + fan) - 2)) ∧ ((I64 (fan - 1)) ∧ ((fan - 1 ≠ 0) ∧ ((I64 ((((members - fan) + fan) - 2).tdiv (fan - 1))) ∧ (Q ((((members - fan) + fan) - 2).tdiv (fan - 1)) true))))))))
theorem plan_need_walk {F : Fz} {fr : List Ow} {h0 : Heap} (members : Int) (fan : Int) (hS : St F (fr) h0)  {Q : Int → Bool → Prop} (hM : plan_need_W members fan Q) :
  HC Tryz.prog 72 #[.int .i64 members, .int .i64 fan] h0 fun u h' => ∃ (F' : Fz) (r0_1 : Int) (r1_1 : Bool), u = .tuple #[.int .i64 r0_1, .bool r1_1] ∧ Kp F h0 F' h' ∧ St F' (fr) h' ∧ Q r0_1 r1_1 := by
 unfold plan_need_W at hM
 have hK := Kp.refl F h0
 refine HC.of_HW (n := 22) Tryz.func72 rfl rfl (Nat.le_of_ble_eq_true rfl) ?_
 refine HW.seq ?_
 refine HW.region ?_
 refine oA (.int .i64 0) rfl rfl ?_
 refine oA (.bool false) rfl rfl ?_
 refine HO.nil (tqn (?_))
 refine HW.seq ?_
 refine HW.block ?_
 refine HW.seq ?_
 refine HW.region ?_
 refine oM (.int .i64 members) rfl rfl ?_
 refine oM (.int .i64 fan) rfl rfl ?_
 refine oV (.bool (decide (members ≤ fan))) (q_leq rfl rfl) rfl ?_
 refine oA (.bool (decide (members ≤ fan))) rfl rfl ?_
 refine HO.nil (tqn (?_))
 refine HW.cond (decide (members ≤ fan)) rfl (fun c_1 => ?_) (fun c_1 => ?_)
 ·
  replace hM := hM.1 (of_decide_eq_true c_1)
  refine HW.seq ?_
  refine HW.region ?_
  refine oA (.int .i64 0) rfl rfl ?_
  refine oA (.bool true) rfl rfl ?_
  refine HO.nil (tqn (?_))
  refine HW.ret (blockQ_ret (thenQ_ret (?_)))
  refine ⟨.inr rfl, .tuple #[.int .i64 0, .bool true], res2 rfl (rt rfl) (rt rfl), ?_⟩
  exact ⟨F, 0, true, rfl, hK, hS, hM⟩
 ·
  replace hM := hM.2 (of_decide_eq_false c_1)
  refine HW.seq ?_
  refine HW.region ?_
  refine oM (.int .i64 fan) rfl rfl ?_
  refine oV (.bool (decide (fan ≤ 1))) (q_leq rfl rfl) rfl ?_
  refine oA (.bool (decide (fan ≤ 1))) rfl rfl ?_
  refine HO.nil (tqn (?_))
  refine HW.cond (decide (fan ≤ 1)) rfl (fun c_2 => ?_) (fun c_2 => ?_)
  ·
   replace hM := hM.1 (of_decide_eq_true c_2)
   refine HW.seq ?_
   refine HW.region ?_
   refine oA (.int .i64 0) rfl rfl ?_
   refine oA (.bool false) rfl rfl ?_
   refine HO.nil (tqn (?_))
   refine HW.ret (blockQ_ret (thenQ_ret (?_)))
   refine ⟨.inr rfl, .tuple #[.int .i64 0, .bool false], res2 rfl (rt rfl) (rt rfl), ?_⟩
   exact ⟨F, 0, false, rfl, hK, hS, hM⟩
  ·
   replace hM := hM.2 (of_decide_eq_false c_2)
   refine HW.skip (blockQ_normal (tqn (?_)))
   refine HW.seq ?_
   refine HW.region ?_
   refine oM (.int .i64 members) rfl rfl ?_
   refine oM (.int .i64 fan) rfl rfl ?_
   obtain ⟨ho_1, hM⟩ := hM
   refine oV (.int .i64 (members - fan)) (q_subN _ rfl rfl rfl ho_1.1 ho_1.2) rfl ?_
   refine oM (.int .i64 fan) rfl rfl ?_
   obtain ⟨ho_2, hM⟩ := hM
   refine oV (.int .i64 ((members - fan) + fan)) (q_addN _ rfl rfl rfl ho_2.1 ho_2.2) rfl ?_
   obtain ⟨ho_3, hM⟩ := hM
   refine oV (.int .i64 (((members - fan) + fan) - 2)) (q_subN _ rfl rfl rfl ho_3.1 ho_3.2) rfl ?_
   refine oM (.int .i64 fan) rfl rfl ?_
   obtain ⟨ho_4, hM⟩ := hM
   refine oV (.int .i64 (fan - 1)) (q_subN _ rfl rfl rfl ho_4.1 ho_4.2) rfl ?_
   obtain ⟨ho_5, hM⟩ := hM
   obtain ⟨ho_6, hM⟩ := hM
   refine oV (.int .i64 ((((members - fan) + fan) - 2).tdiv (fan - 1))) (q_quoN _ rfl rfl ho_5 rfl ho_6.1 ho_6.2) rfl ?_
   refine oA (.int .i64 ((((members - fan) + fan) - 2).tdiv (fan - 1))) rfl rfl ?_
   refine oA (.bool true) rfl rfl ?_
   refine HO.nil (tqn (?_))
   refine HW.ret (?_)
   refine ⟨.inr rfl, .tuple #[.int .i64 ((((members - fan) + fan) - 2).tdiv (fan - 1)), .bool true], res2 rfl (rt rfl) (rt rfl), ?_⟩
   exact ⟨F, (((members - fan) + fan) - 2).tdiv (fan - 1), true, rfl, hK, hS, hM⟩
def plan_fits_W (members : Int) (services : Int) (fan : Int) (Q : Bool → Prop) : Prop :=
 plan_need_W members fan (fun r0_1 r1_1 => (r1_1 = true → Q (decide (r0_1 ≤ services))) ∧ (r1_1 = false → Q false))
theorem plan_fits_walk {F : Fz} {fr : List Ow} {h0 : Heap} (members : Int) (services : Int) (fan : Int) (hS : St F (fr) h0)  {Q : Bool → Prop} (hM : plan_fits_W members services fan Q) :
  HC Tryz.prog 70 #[.int .i64 members, .int .i64 services, .int .i64 fan] h0 fun u h' => ∃ (F' : Fz) (r_1 : Bool), u = .bool r_1 ∧ Kp F h0 F' h' ∧ St F' (fr) h' ∧ Q r_1 := by
 unfold plan_fits_W at hM
 have hK := Kp.refl F h0
 refine HC.of_HW (n := 21) Tryz.func70 rfl rfl (Nat.le_of_ble_eq_true rfl) ?_
 refine HW.seq ?_
 refine HW.region ?_
 refine oA (.bool false) rfl rfl ?_
 refine HO.nil (tqn (?_))
 refine HW.seq ?_
 refine HW.region ?_
 refine oM (.int .i64 members) rfl rfl ?_
 refine oM (.int .i64 fan) rfl rfl ?_
 refine HO.call (wn) rfl (ec en_72 rfl rfl) (plan_need_walk (fr := (fr)) members fan hS hM) ?_
 rintro _ h_1 ⟨F_1, r0_1, r1_1, rfl, hk, hS, hM⟩
 replace hK := hK.trans hk
 refine oM (.tuple #[.int .i64 r0_1, .bool r1_1]) rfl rfl ?_
 refine oV (.int .i64 r0_1) (q_extract rfl rfl) rfl ?_
 refine oV (.bool r1_1) (q_extract rfl rfl) rfl ?_
 refine oA (.int .i64 r0_1) rfl rfl ?_
 refine oA (.bool r1_1) rfl rfl ?_
 refine HO.nil (tqn (?_))
 refine HW.seq ?_
 refine HW.region ?_
 refine oM (.bool r1_1) rfl rfl ?_
 refine oM (.bool r1_1) rfl rfl ?_
 rcases Bool.eq_false_or_eq_true r1_1 with c_1 | c_1
 ·
  replace hM := hM.1 c_1
  refine HO.val (v := .int .i64 r0_1) (wby rfl rfl c_1) rfl (q_move rfl) ?_
  refine HO.val (v := .int .i64 services) (wby rfl rfl c_1) rfl (q_move rfl) ?_
  refine HO.val (v := .bool (decide (r0_1 ≤ services))) (wby rfl rfl c_1) rfl (q_leq rfl rfl) ?_
  refine oV (.bool (decide (r0_1 ≤ services))) (q_pickK true rfl c_1 rfl) rfl ?_
  refine oA (.bool (decide (r0_1 ≤ services))) rfl rfl ?_
  refine HO.nil (tqn (?_))
  refine HW.ret (?_)
  refine ⟨.inr rfl, .bool (decide (r0_1 ≤ services)), res1 rfl (rt rfl), ?_⟩
  exact ⟨F_1, decide (r0_1 ≤ services), rfl, hK, hS, hM⟩
 ·
  replace hM := hM.2 c_1
  refine HO.past (pby rfl rfl c_1) rfl ?_
  refine HO.past (pby rfl rfl c_1) rfl ?_
  refine HO.past (pby rfl rfl c_1) rfl ?_
  refine oV (.bool false) (q_pickK false rfl c_1 rfl) rfl ?_
  refine oA (.bool false) rfl rfl ?_
  refine HO.nil (tqn (?_))
  refine HW.ret (?_)
  refine ⟨.inr rfl, .bool false, res1 rfl (rt rfl), ?_⟩
  exact ⟨F_1, false, rfl, hK, hS, hM⟩
def plan_star_l1 (root : Int) (members : List Int) (Q : Int → (List TB) → Prop) (K_1 : (List TB) → Int → Prop) (t_1_1 : List TB) (n_1 : Int) : Prop :=
 (n_1 < (members.length : Int) → ((0 : Int) ≤ n_1 ∧ n_1 < (members.length : Int)) ∧ (((t_1_1.length + ([(root, (gi members n_1))] : List TB).length) * 16 ≤ 140737488355328) ∧ ((I64 (n_1 + 1)) ∧ (K_1 (t_1_1 ++ ([(root, (gi members n_1))] : List TB)) (n_1 + 1))))) ∧ (¬ (n_1 < (members.length : Int)) → Q root t_1_1)
def plan_star_W (root : Int) (members : List Int) (Q : Int → (List TB) → Prop) : Prop :=
 loopW (fun (K_1 : (List TB × Int) → Prop) (s : List TB × Int) => plan_star_l1 root members Q (fun t_1_1 n_1 => K_1 (t_1_1, n_1)) s.1 s.2) ([], 0)
theorem plan_star_walk {F : Fz} {fr : List Ow} {h0 : Heap} (root : Int) (members : List Int) (vmembers : Value) (hS : St F (fr) h0) (hLm : SliceF F h0 1 encI vmembers members) {Q : Int → (List TB) → Prop} (hM : plan_star_W root members Q) :
  HC Tryz.prog 71 #[.int .i64 root, vmembers] h0 fun u h' => ∃ (F' : Fz) (r_0_1 : Int) (r_1_1 : List TB) (vr_1_1 : Value), u = .agg #[.int .i64 r_0_1, vr_1_1] ∧ Kp F h0 F' h' ∧ St F' (Ow.own 52 2 eB vr_1_1 r_1_1 :: fr) h' ∧ (SliceF F' h' 1 encI vmembers members) ∧ Q r_0_1 r_1_1 := by
 unfold plan_star_W at hM
 have hK := Kp.refl F h0
 refine HC.of_HW (n := 26) Tryz.func71 rfl rfl (Nat.le_of_ble_eq_true rfl) ?_
 refine HW.seq ?_
 refine HW.region ?_
 refine HO.eff (wn) rfl (st_alloc (c := #[.int .i64 0, .slice none 0 0]) hS tz_31 rfl) ?_
 rintro _ h_1 ⟨b_1, rfl, hS, hk⟩
 replace hK := hK.trans hk
 replace hLm := hLm.kp hk
 refine HO.nil (tqn (?_))
 refine HW.seq ?_
 refine HW.region ?_
 refine oM (.int .i64 root) rfl rfl ?_
 refine oV (.agg #[.int .i64 root, .slice none 0 0]) (q_build tp_31 rfl) rfl ?_
 refine HO.eff (wn) rfl (st_alloc (c := #[.int .i64 0, .slice none 0 0]) hS tz_31 rfl) ?_
 rintro _ h_2 ⟨b_2, rfl, hS, hk⟩
 replace hK := hK.trans hk
 replace hLm := hLm.kp hk
 refine HO.sto (wn) rfl (st_storeAgg (c' := #[.int .i64 root, .slice none 0 0]) hS (i := 0) rfl ta_31 rfl rfl rfl (by simp [Value.oneCell']) (Nat.le_of_ble_eq_true rfl) rfl) ?_
 rintro h_3 ⟨hS, hk⟩
 replace hK := hK.trans hk
 replace hLm := hLm.kp hk
 refine HO.nil (tqn (?_))
 refine HW.seq ?_
 refine HW.seq ?_
 refine HW.region ?_
 refine oM (vmembers) rfl rfl ?_
 refine oV (.int .i64 (members.length : Int)) (q_len ts_22 (shp hLm.is) rfl rfl) rfl ?_
 refine oM (.int .i64 0) rfl rfl ?_
 refine HO.nil (tqn (?_))
 refine HW.block ?_
 obtain ⟨I_1, m_1, hI_1, hR_1⟩ := hM
 replace hS := hS.nilOwn 52 2 eB
 replace hS : St F (Ow.box b_1 31 #[.int .i64 0, .slice none 0 0] :: Ow.box b_2 31 #[.int .i64 root, .slice none 0 0] :: Ow.own 52 2 eB (.slice none 0 0) ([] : List TB) :: fr) h_3 := hS.perm2 [2, 1, 0] 3 rfl rfl
 refine HW.loop (S := List TB × Int) (fun s f h => match s with | (t_1_1, n_1) => ∃ (F' : Fz) (vt_1_1 : Value), f 0 = .int .i64 root ∧ f 4 = .pointer (some ⟨b_1, 0, none⟩) ∧ f 5 = .pointer (some ⟨b_2, 0, none⟩) ∧ f 10 = vmembers ∧ f 11 = .int .i64 (members.length : Int) ∧ f 12 = .int .i64 n_1 ∧ Kp F h0 F' h ∧ St F' (Ow.box b_1 31 #[.int .i64 0, .slice none 0 0] :: Ow.box b_2 31 #[.int .i64 root, vt_1_1] :: Ow.own 52 2 eB vt_1_1 t_1_1 :: fr) h ∧ (SliceF F' h 1 encI vmembers members) ∧ I_1 (t_1_1, n_1)) m_1 ([], 0) ⟨F, .slice none 0 0, rfl, rfl, rfl, rfl, rfl, rfl, hK, hS, hLm, hI_1⟩ ?_
 rintro ⟨t_1_1, n_1⟩ f_1 h_4 ⟨F_1, vt_1_1, e0, e4, e5, e10, e11, e12, hK, hS, hLm, hI0⟩
 obtain ⟨K_1, hKe_1⟩ : ∃ K : (List TB) → Int → Prop, K = fun t_1_1' n_1' => I_1 (t_1_1', n_1') ∧ m_1 (t_1_1', n_1') < m_1 (t_1_1, n_1) := ⟨_, rfl⟩
 have hM : plan_star_l1 root members Q K_1 t_1_1 n_1 := by rw [hKe_1]; exact hR_1 (t_1_1, n_1) hI0
 unfold plan_star_l1 at hM
 refine HW.fr [(0, .int .i64 root), (4, .pointer (some ⟨b_1, 0, none⟩)), (5, .pointer (some ⟨b_2, 0, none⟩)), (10, vmembers), (11, .int .i64 (members.length : Int)), (12, .int .i64 n_1)] ⟨e0, e4, e5, e10, e11, e12, trivial⟩ ?_
 refine HW.seq ?_
 refine HW.region ?_
 refine oV (.bool (decide (n_1 < (members.length : Int)))) (q_lss rfl rfl) rfl ?_
 refine HO.nil (tqn (?_))
 refine HW.seq ?_
 refine HW.cond (decide (n_1 < (members.length : Int))) rfl (fun c_1 => ?_) (fun c_1 => ?_)
 ·
  replace hM := hM.1 (of_decide_eq_true c_1)
  refine HW.skip (tqn (?_))
  refine HW.seq ?_
  refine HW.block ?_
  refine HW.seq ?_
  refine HW.region ?_
  obtain ⟨ho_1, hM⟩ := hM
  refine oV (elemPtr 1 vmembers (n_1).toNat) (q_idx ts_22 hLm.is rfl rfl ho_1) rfl ?_
  refine oV (.int .i64 (gi members n_1)) (q_ldElem to_3 hLm.is rfl ho_1 rfl) rfl ?_
  refine oA (.int .i64 (gi members n_1)) rfl rfl ?_
  refine HO.nil (tqn (?_))
  refine HW.region ?_
  refine oV (.pointer (some ⟨b_2, 1, none⟩)) (qfA fa_31_1 rfl rfl) rfl ?_
  refine oV (vt_1_1) (q_load to_29 rfl (Blk.cell (hS.box 1 rfl) rfl)) rfl ?_
  refine oM (.int .i64 root) rfl rfl ?_
  refine oM (.int .i64 (gi members n_1)) rfl rfl ?_
  refine oV (.agg #[.int .i64 root, .int .i64 (gi members n_1)]) (q_build tp_52 rfl) rfl ?_
  refine HO.eff (wn) rfl (st_lit (enc := eB) (cells := #[.int .i64 root, .int .i64 (gi members n_1)]) #[.int .i64 0, .int .i64 0] ([(root, (gi members n_1))] : List TB) hS tl_29 (by decide) (by decide) (by kernel_rfl) (by kernel_rfl) rfl (by intro x hx; rfl) rfl) ?_
  rintro _ h_5 ⟨b_3, rfl, hS, hk⟩
  replace hK := hK.trans hk
  replace hLm := hLm.kp hk
  obtain ⟨ho_2, hM⟩ := hM
  refine HO.eff (wn) rfl (st_append te_29 hS (i := 3) rfl (hS.own 0 rfl).slice rfl rfl rfl (by intro a _ u hu; simp [eB, encI, encN, encB, encT] at hu; rcases hu with rfl | rfl <;> rfl) ho_2 (by omega)) ?_
  rintro v_1 h_6 ⟨hS, hk⟩
  replace hK := hK.trans hk
  replace hLm := hLm.kp hk
  refine oV (.pointer (some ⟨b_2, 1, none⟩)) (qfA fa_31_1 rfl rfl) rfl ?_
  refine HO.sto (wn) rfl (st_store (c' := #[.int .i64 root, v_1]) hS (i := 2) rfl to_29 rfl rfl (shp (hS.own 3 rfl).slice).cells (shp (hS.own 3 rfl).slice).one (Nat.le_of_ble_eq_true rfl) rfl) ?_
  rintro h_7 ⟨hS, hk⟩
  replace hK := hK.trans hk
  replace hLm := hLm.kp hk
  refine HO.nil (blockQ_normal (tqn (?_)))
  refine HW.region ?_
  obtain ⟨ho_3, hM⟩ := hM
  refine oV (.int .i64 (n_1 + 1)) (q_addN _ rfl rfl rfl ho_3.1 ho_3.2) rfl ?_
  refine oM (.int .i64 (n_1 + 1)) rfl rfl ?_
  refine HO.nil (tqn (?_))
  replace hS : St F_1 (Ow.box b_1 31 #[.int .i64 0, .slice none 0 0] :: Ow.box b_2 31 #[.int .i64 root, v_1] :: Ow.own 52 2 eB v_1 (t_1_1 ++ ([(root, (gi members n_1))] : List TB)) :: fr) h_7 := hS.perm2 [1, 2, 3] 4 rfl rfl
  rw [hKe_1] at hM
  exact ⟨(t_1_1 ++ ([(root, (gi members n_1))] : List TB), n_1 + 1), ⟨F_1, v_1, rfl, rfl, rfl, rfl, rfl, rfl, hK, hS, hLm, hM.1⟩, hM.2⟩
 ·
  replace hM := hM.2 (of_decide_eq_false c_1)
  refine HW.exit (thenQ_exit (thenQ_exit (blockQ_exit (tqn (?_)))))
  refine HW.seq ?_
  refine HW.region ?_
  refine oV (.agg #[.int .i64 root, vt_1_1]) (q_loadAgg (cs := [.int .i64 root, vt_1_1]) ta_31 rfl rfl (Blk.cells (k := 2) (hS.box 1 rfl) rfl)) rfl ?_
  refine HO.sto (wn) rfl (st_storeAgg (c' := #[.int .i64 root, vt_1_1]) hS (i := 0) rfl ta_31 rfl rfl rfl (List.forall_mem_cons.2 ⟨rfl, (List.forall_mem_cons.2 ⟨(shp (hS.own 2 rfl).slice).one, (fun _ h => by cases h)⟩)⟩) (Nat.le_of_ble_eq_true rfl) rfl) ?_
  rintro h_8 ⟨hS, hk⟩
  replace hK := hK.trans hk
  replace hLm := hLm.kp hk
  refine HO.nil (tqn (?_))
  refine HW.ret (?_)
  refine ⟨.inr rfl, .agg #[.int .i64 root, vt_1_1], res1 rfl (rca (cs := [.int .i64 root, vt_1_1]) ta_31 rfl rfl (Blk.cells (k := 2) (hS.box 0 rfl) rfl)), ?_⟩
  replace hS : St F_1 (Ow.own 52 2 eB vt_1_1 t_1_1 :: fr) h_8 := hS.perm2 [2] 3 rfl rfl
  exact ⟨F_1, root, t_1_1, vt_1_1, rfl, hK, hS, hLm, hM⟩
def slices_Concat_s_int_int_l2 (slices : List T_s_int) (Q : (List Int) → Prop) (K_2 : (List Int) → Int → Prop) (newslice_1 : List Int) (n_2 : Int) : Prop :=
 (n_2 < (slices.length : Int) → ((0 : Int) ≤ n_2 ∧ n_2 < (slices.length : Int)) ∧ (((newslice_1.length + ((gi slices n_2).2).length) * 8 ≤ 140737488355328) ∧ ((I64 (n_2 + 1)) ∧ (K_2 (newslice_1 ++ ((gi slices n_2).2)) (n_2 + 1))))) ∧ (¬ (n_2 < (slices.length : Int)) → Q newslice_1)
def slices_Concat_s_int_int_l1 (slices : List T_s_int) (Q : (List Int) → Prop) (K_1 : Int → Int → Prop) (size_1 : Int) (n_1 : Int) : Prop :=
 (n_1 < (slices.length : Int) → ((0 : Int) ≤ n_1 ∧ n_1 < (slices.length : Int)) ∧ ((I64 (size_1 + (((gi slices n_1).2).length : Int))) ∧ (((size_1 + (((gi slices n_1).2).length : Int)) < 0 → False) ∧ (¬ ((size_1 + (((gi slices n_1).2).length : Int)) < 0) → (I64 (n_1 + 1)) ∧ (K_1 (size_1 + (((gi slices n_1).2).length : Int)) (n_1 + 1)))))) ∧ (¬ (n_1 < (slices.length : Int)) → ((0 : Int) ≤ size_1 ∧ (size_1 : Int).toNat * 8 ≤ 140737488355328 ∧ size_1 ≤ 4611686018427387904) ∧ (loopW (fun (K_2 : (List Int × Int) → Prop) (s : List Int × Int) => slices_Concat_s_int_int_l2 slices Q (fun newslice_1 n_2 => K_2 (newslice_1, n_2)) s.1 s.2) ([], 0)))
def slices_Concat_s_int_int_W (slices : List T_s_int) (Q : (List Int) → Prop) : Prop :=
 loopW (fun (K_1 : (Int × Int) → Prop) (s : Int × Int) => slices_Concat_s_int_int_l1 slices Q (fun size_1 n_1 => K_1 (size_1, n_1)) s.1 s.2) (0, 0)
theorem slices_Concat_s_int_int_walk {F : Fz} {fr : List Ow} {h0 : Heap} (slices : List T_s_int) (vslices : Value) (hS : St F (fr) h0) (hN_slices : NfL nf_s_int F h0 slices) (hL_slices : SliceF F h0 1 e_s_int vslices slices) (hD : DM.on = false) {Q : (List Int) → Prop} (hM : slices_Concat_s_int_int_W slices Q) :
  HC Tryz.prog 73 #[vslices] h0 fun u h' => ∃ (F' : Fz) (r_1 : List Int) (vr_1 : Value), u = vr_1 ∧ Kp F h0 F' h' ∧ St F' (Ow.own 3 1 encI vr_1 r_1 :: fr) h' ∧ (NfL nf_s_int F' h' slices) ∧ (SliceF F' h' 1 e_s_int vslices slices) ∧ Q r_1 := by
 unfold slices_Concat_s_int_int_W at hM
 have hK := Kp.refl F h0
 refine HC.of_HW (n := 36) Tryz.func73 rfl rfl (Nat.le_of_ble_eq_true rfl) ?_
 refine HW.seq ?_
 refine HW.region ?_
 refine oA (.slice none 0 0) rfl rfl ?_
 refine HO.nil (tqn (?_))
 refine HW.seq ?_
 refine HW.region ?_
 refine oA (.int .i64 0) rfl rfl ?_
 refine HO.nil (tqn (?_))
 refine HW.seq ?_
 refine HW.seq ?_
 refine HW.region ?_
 refine oM (vslices) rfl rfl ?_
 refine oV (.int .i64 (slices.length : Int)) (q_len ts_87 (shp hL_slices.is) rfl rfl) rfl ?_
 refine oM (.int .i64 0) rfl rfl ?_
 refine HO.nil (tqn (?_))
 refine HW.block ?_
 obtain ⟨I_1, m_1, hI_1, hR_1⟩ := hM
 refine HW.loop (S := Int × Int) (fun s f h => match s with | (size_1, n_1) => ∃ (F' : Fz), f 0 = vslices ∧ f 2 = .slice none 0 0 ∧ f 3 = .int .i64 size_1 ∧ f 9 = vslices ∧ f 10 = .int .i64 (slices.length : Int) ∧ f 11 = .int .i64 n_1 ∧ Kp F h0 F' h ∧ St F' (fr) h ∧ (NfL nf_s_int F' h slices) ∧ (SliceF F' h 1 e_s_int vslices slices) ∧ I_1 (size_1, n_1)) m_1 (0, 0) ⟨F, rfl, rfl, rfl, rfl, rfl, rfl, hK, hS, hN_slices, hL_slices, hI_1⟩ ?_
 rintro ⟨size_1, n_1⟩ f_1 h_1 ⟨F_1, e0, e2, e3, e9, e10, e11, hK, hS, hN_slices, hL_slices, hI0⟩
 obtain ⟨K_1, hKe_1⟩ : ∃ K : Int → Int → Prop, K = fun size_1' n_1' => I_1 (size_1', n_1') ∧ m_1 (size_1', n_1') < m_1 (size_1, n_1) := ⟨_, rfl⟩
 have hM : slices_Concat_s_int_int_l1 slices Q K_1 size_1 n_1 := by rw [hKe_1]; exact hR_1 (size_1, n_1) hI0
 unfold slices_Concat_s_int_int_l1 at hM
 refine HW.fr [(0, vslices), (2, .slice none 0 0), (3, .int .i64 size_1), (9, vslices), (10, .int .i64 (slices.length : Int)), (11, .int .i64 n_1)] ⟨e0, e2, e3, e9, e10, e11, trivial⟩ ?_
 refine HW.seq ?_
 refine HW.region ?_
 refine oV (.bool (decide (n_1 < (slices.length : Int)))) (q_lss rfl rfl) rfl ?_
 refine HO.nil (tqn (?_))
 refine HW.seq ?_
 refine HW.cond (decide (n_1 < (slices.length : Int))) rfl (fun c_1 => ?_) (fun c_1 => ?_)
 ·
  replace hM := hM.1 (of_decide_eq_true c_1)
  refine HW.skip (tqn (?_))
  refine HW.seq ?_
  refine HW.block ?_
  refine HW.seq ?_
  refine HW.region ?_
  obtain ⟨ho_1, hM⟩ := hM
  refine oV (elemPtr 1 vslices (n_1).toNat) (q_idx ts_87 hL_slices.is rfl rfl ho_1) rfl ?_
  refine oV ((gi slices n_1).1) (q_ldElem to_22 hL_slices.is rfl ho_1 rfl) rfl ?_
  refine oA ((gi slices n_1).1) rfl rfl ?_
  refine HO.nil (tqn (?_))
  refine HW.seq ?_
  refine HW.region ?_
  refine oM (.int .i64 size_1) rfl rfl ?_
  refine oM ((gi slices n_1).1) rfl rfl ?_
  refine oV (.int .i64 (((gi slices n_1).2).length : Int)) (q_len ts_22 (shp (nfi_s_int_0 (NfI.at hN_slices.is ho_1))) rfl rfl) rfl ?_
  obtain ⟨ho_2, hM⟩ := hM
  refine oV (.int .i64 (size_1 + (((gi slices n_1).2).length : Int))) (q_addN _ rfl rfl rfl ho_2.1 ho_2.2) rfl ?_
  refine oA (.int .i64 (size_1 + (((gi slices n_1).2).length : Int))) rfl rfl ?_
  refine HO.nil (tqn (?_))
  refine HW.seq ?_
  refine HW.region ?_
  refine oM (.int .i64 (size_1 + (((gi slices n_1).2).length : Int))) rfl rfl ?_
  refine oV (.bool (decide ((size_1 + (((gi slices n_1).2).length : Int)) < 0))) (q_lss rfl rfl) rfl ?_
  refine HO.nil (tqn (?_))
  refine HW.cond (decide ((size_1 + (((gi slices n_1).2).length : Int)) < 0)) rfl (fun c_2 => ?_) (fun c_2 => ?_)
  ·
   replace hM := hM.1 (of_decide_eq_true c_2)
   refine HW.region ?_
   refine oV (.iface 9 (.string (bs [108, 101, 110, 32, 111, 117, 116, 32, 111, 102, 32, 114, 97, 110, 103, 101]))) (q_mkIfaceS Tryz.underlying9 rfl) rfl ?_
   exact hM.elim
  ·
   replace hM := hM.2 (of_decide_eq_false c_2)
   refine HW.skip (blockQ_normal (tqn (?_)))
   refine HW.region ?_
   obtain ⟨ho_3, hM⟩ := hM
   refine oV (.int .i64 (n_1 + 1)) (q_addN _ rfl rfl rfl ho_3.1 ho_3.2) rfl ?_
   refine oM (.int .i64 (n_1 + 1)) rfl rfl ?_
   refine HO.nil (tqn (?_))
   rw [hKe_1] at hM
   exact ⟨(size_1 + (((gi slices n_1).2).length : Int), n_1 + 1), ⟨F_1, rfl, rfl, rfl, rfl, rfl, rfl, hK, hS, hN_slices, hL_slices, hM.1⟩, hM.2⟩
 ·
  replace hM := hM.2 (of_decide_eq_false c_1)
  refine HW.exit (thenQ_exit (thenQ_exit (blockQ_exit (tqn (?_)))))
  refine HW.seq ?_
  refine HW.region ?_
  refine oM (.int .i64 size_1) rfl rfl ?_
  obtain ⟨ho_4, hM⟩ := hM
  refine HO.call (wn) rfl (ec en_89 rfl rfl) (growNil_hc (enc := encI) hD Tryz.growI te_22 rfl ho_4.1 ho_4.2.1 ho_4.2.2 hS) ?_
  rintro v_1 h_2 ⟨hS, hk⟩
  replace hK := hK.trans hk
  replace hN_slices := hN_slices.kp hk
  replace hL_slices := hL_slices.kp hk
  refine oA (v_1) rfl rfl ?_
  refine HO.nil (tqn (?_))
  refine HW.seq ?_
  refine HW.seq ?_
  refine HW.region ?_
  refine oM (vslices) rfl rfl ?_
  refine oV (.int .i64 (slices.length : Int)) (q_len ts_87 (shp hL_slices.is) rfl rfl) rfl ?_
  refine oM (.int .i64 0) rfl rfl ?_
  refine HO.nil (tqn (?_))
  refine HW.block ?_
  obtain ⟨I_2, m_2, hI_2, hR_2⟩ := hM
  refine HW.loop (S := List Int × Int) (fun s f h => match s with | (newslice_1, n_2) => ∃ (F' : Fz) (vnewslice_1 : Value), f 2 = .slice none 0 0 ∧ f 6 = vnewslice_1 ∧ f 25 = vslices ∧ f 26 = .int .i64 (slices.length : Int) ∧ f 27 = .int .i64 n_2 ∧ Kp F h0 F' h ∧ St F' (Ow.own 3 1 encI vnewslice_1 newslice_1 :: fr) h ∧ (NfL nf_s_int F' h slices) ∧ (SliceF F' h 1 e_s_int vslices slices) ∧ I_2 (newslice_1, n_2)) m_2 ([], 0) ⟨F_1, v_1, rfl, rfl, rfl, rfl, rfl, hK, hS, hN_slices, hL_slices, hI_2⟩ ?_
  rintro ⟨newslice_1, n_2⟩ f_2 h_3 ⟨F_2, vnewslice_1, e2, e6, e25, e26, e27, hK, hS, hN_slices, hL_slices, hI0⟩
  obtain ⟨K_2, hKe_2⟩ : ∃ K : (List Int) → Int → Prop, K = fun newslice_1' n_2' => I_2 (newslice_1', n_2') ∧ m_2 (newslice_1', n_2') < m_2 (newslice_1, n_2) := ⟨_, rfl⟩
  have hM : slices_Concat_s_int_int_l2 slices Q K_2 newslice_1 n_2 := by rw [hKe_2]; exact hR_2 (newslice_1, n_2) hI0
  unfold slices_Concat_s_int_int_l2 at hM
  refine HW.fr [(2, .slice none 0 0), (6, vnewslice_1), (25, vslices), (26, .int .i64 (slices.length : Int)), (27, .int .i64 n_2)] ⟨e2, e6, e25, e26, e27, trivial⟩ ?_
  refine HW.seq ?_
  refine HW.region ?_
  refine oV (.bool (decide (n_2 < (slices.length : Int)))) (q_lss rfl rfl) rfl ?_
  refine HO.nil (tqn (?_))
  refine HW.seq ?_
  refine HW.cond (decide (n_2 < (slices.length : Int))) rfl (fun c_3 => ?_) (fun c_3 => ?_)
  ·
   replace hM := hM.1 (of_decide_eq_true c_3)
   refine HW.skip (tqn (?_))
   refine HW.seq ?_
   refine HW.block ?_
   refine HW.seq ?_
   refine HW.region ?_
   obtain ⟨ho_5, hM⟩ := hM
   refine oV (elemPtr 1 vslices (n_2).toNat) (q_idx ts_87 hL_slices.is rfl rfl ho_5) rfl ?_
   refine oV ((gi slices n_2).1) (q_ldElem to_22 hL_slices.is rfl ho_5 rfl) rfl ?_
   refine oA ((gi slices n_2).1) rfl rfl ?_
   refine HO.nil (tqn (?_))
   refine HW.region ?_
   refine oM (vnewslice_1) rfl rfl ?_
   refine oM ((gi slices n_2).1) rfl rfl ?_
   obtain ⟨ho_6, hM⟩ := hM
   refine HO.eff (wn) rfl (st_append te_22 hS (i := 0) rfl (nfi_s_int_0 (NfI.at hN_slices.is ho_5)) rfl rfl rfl (by intro a _ u hu; simp [encI, encI, encN, encB, encT] at hu; subst hu; rfl) ho_6 (by omega)) ?_
   rintro v_2 h_4 ⟨hS, hk⟩
   replace hK := hK.trans hk
   replace hN_slices := hN_slices.kp hk
   replace hL_slices := hL_slices.kp hk
   refine oA (v_2) rfl rfl ?_
   refine HO.nil (blockQ_normal (tqn (?_)))
   refine HW.region ?_
   obtain ⟨ho_7, hM⟩ := hM
   refine oV (.int .i64 (n_2 + 1)) (q_addN _ rfl rfl rfl ho_7.1 ho_7.2) rfl ?_
   refine oM (.int .i64 (n_2 + 1)) rfl rfl ?_
   refine HO.nil (tqn (?_))
   rw [hKe_2] at hM
   exact ⟨(newslice_1 ++ ((gi slices n_2).2), n_2 + 1), ⟨F_2, v_2, rfl, rfl, rfl, rfl, rfl, hK, hS, hN_slices, hL_slices, hM.1⟩, hM.2⟩
  ·
   replace hM := hM.2 (of_decide_eq_false c_3)
   refine HW.exit (thenQ_exit (thenQ_exit (blockQ_exit (tqn (?_)))))
   refine HW.seq ?_
   refine HW.region ?_
   refine oM (vnewslice_1) rfl rfl ?_
   refine oA (vnewslice_1) rfl rfl ?_
   refine HO.nil (tqn (?_))
   refine HW.ret (?_)
   refine ⟨.inr rfl, vnewslice_1, res1 rfl (rt rfl), ?_⟩
   exact ⟨F_2, newslice_1, vnewslice_1, rfl, hK, hS, hN_slices, hL_slices, hM⟩
def slices_Collect_api_Branch_W (seq : List TB) (Q : (List TB) → Prop) : Prop :=
 ((seq).length * 16 ≤ 140737488355328) ∧ (Q seq)
theorem slices_Collect_api_Branch_walk {F : Fz} {fr : List Ow} {h0 : Heap} (seq : List TB) (bseq : Nat) (vseq : Value) (hS : St F (fr) h0) (hL_seq : SliceF F h0 2 eB vseq seq) (hB_bseq : RoF (Ow.box bseq 29 #[vseq]) F h0) {Q : (List TB) → Prop} (hM : slices_Collect_api_Branch_W seq Q) :
  HC Tryz.prog 102 #[.func (.func 104) #[] #[.pointer (some ⟨bseq, 0, none⟩)]] h0 fun u h' => ∃ (F' : Fz) (r_1 : List TB) (vr_1 : Value), u = vr_1 ∧ Kp F h0 F' h' ∧ St F' (Ow.own 52 2 eB vr_1 r_1 :: fr) h' ∧ (SliceF F' h' 2 eB vseq seq) ∧ (RoF (Ow.box bseq 29 #[vseq]) F' h') ∧ Q r_1 := by
 unfold slices_Collect_api_Branch_W at hM
 have hK := Kp.refl F h0
 refine HC.of_HW (n := 5) Tryz.func102 rfl rfl (Nat.le_of_ble_eq_true rfl) ?_
 refine HW.seq ?_
 refine HW.region ?_
 refine oA (.slice none 0 0) rfl rfl ?_
 refine HO.nil (tqn (?_))
 refine HW.seq ?_
 refine HW.region ?_
 refine oM (.func (.func 104) #[] #[.pointer (some ⟨bseq, 0, none⟩)]) rfl rfl ?_
 obtain ⟨ho_1, hM⟩ := hM
 refine HO.call (wn) rfl (ec en_111 rfl rfl) (apv_111 hS hB_bseq.box hL_seq.is ho_1) ?_
 rintro v_1 h_1 ⟨hS, hk⟩
 replace hK := hK.trans hk
 replace hL_seq := hL_seq.kp hk
 replace hB_bseq := hB_bseq.kp hk
 refine oA (v_1) rfl rfl ?_
 refine HO.nil (tqn (?_))
 refine HW.ret (?_)
 refine ⟨.inr rfl, v_1, res1 rfl (rt rfl), ?_⟩
 exact ⟨F, seq, v_1, rfl, hK, hS, hL_seq, hB_bseq, hM⟩
def slices_SortedFunc_api_Branch_W (seq : List TB) (cf_cmp : TB → TB → Int) (Q : (List TB) → Prop) : Prop :=
 slices_Collect_api_Branch_W seq (fun r_2 => Swo cf_cmp ∧ (r_2).length < 4611686018427387904 ∧ ∀ l_1 : List TB, List.Perm l_1 r_2 → List.Pairwise (fun x y => ¬ cf_cmp y x < 0) l_1 → (Q l_1))
theorem slices_SortedFunc_api_Branch_walk {F : Fz} {fr : List Ow} {h0 : Heap} (seq : List TB) (cf_cmp : TB → TB → Int) (bseq : Nat) (vseq : Value) (g_cmp : Nat) (cs_cmp : Array Value) (hS : St F (fr) h0) (hL_seq : SliceF F h0 2 eB vseq seq) (hB_bseq : RoF (Ow.box bseq 29 #[vseq]) F h0) (hF_cf_cmp : FnP Tryz.prog F h0 g_cmp #[] cs_cmp (fun x : TB × TB => [.agg #[.int .i64 x.1.1, .int .i64 x.1.2], .agg #[.int .i64 x.2.1, .int .i64 x.2.2]]) (fun x => .int .i64 (cf_cmp x.1 x.2))) {Q : (List TB) → Prop} (hM : slices_SortedFunc_api_Branch_W seq cf_cmp Q) :
  HC Tryz.prog 90 #[.func (.func 104) #[] #[.pointer (some ⟨bseq, 0, none⟩)], .func (.func g_cmp) #[] cs_cmp] h0 fun u h' => ∃ (F' : Fz) (r_1 : List TB) (vr_1 : Value), u = vr_1 ∧ Kp F h0 F' h' ∧ St F' (Ow.own 52 2 eB vr_1 r_1 :: fr) h' ∧ (SliceF F' h' 2 eB vseq seq) ∧ (RoF (Ow.box bseq 29 #[vseq]) F' h') ∧ (FnP Tryz.prog F' h' g_cmp #[] cs_cmp (fun x : TB × TB => [.agg #[.int .i64 x.1.1, .int .i64 x.1.2], .agg #[.int .i64 x.2.1, .int .i64 x.2.2]]) (fun x => .int .i64 (cf_cmp x.1 x.2))) ∧ Q r_1 := by
 unfold slices_SortedFunc_api_Branch_W at hM
 have hK := Kp.refl F h0
 refine HC.of_HW (n := 12) Tryz.func90 rfl rfl (Nat.le_of_ble_eq_true rfl) ?_
 refine HW.seq ?_
 refine HW.region ?_
 refine oA (.slice none 0 0) rfl rfl ?_
 refine HO.nil (tqn (?_))
 refine HW.seq ?_
 refine HW.region ?_
 refine oM (.func (.func 104) #[] #[.pointer (some ⟨bseq, 0, none⟩)]) rfl rfl ?_
 refine HO.call (wn) rfl (ec en_102 rfl rfl) (slices_Collect_api_Branch_walk (fr := (fr)) seq bseq vseq hS hL_seq hB_bseq hM) ?_
 rintro vr_2 h_1 ⟨F_1, r_2, _, rfl, hk, hS, _, _, hM⟩
 replace hK := hK.trans hk
 replace hL_seq := hL_seq.kp hk
 replace hB_bseq := hB_bseq.kp hk
 replace hF_cf_cmp := hF_cf_cmp.kp hk
 refine oA (vr_2) rfl rfl ?_
 refine HO.nil (tqn (?_))
 refine HW.seq ?_
 refine HW.region ?_
 refine oM (vr_2) rfl rfl ?_
 refine oM (.func (.func g_cmp) #[] cs_cmp) rfl rfl ?_
 obtain ⟨ho_1, ho_2, hM⟩ := hM
 refine HO.call (wn) rfl (ec en_103 rfl rfl) (sortFunc_own Tryz.sortBr (by decide) (fun w => by kernel_rfl) (fun w => by kernel_rfl) (enc := eB) (fun _ => rfl) (by intro a u hu; simp [eB, encI, encN, encB, encT] at hu; rcases hu with rfl | rfl <;> rfl) ho_1 hS hF_cf_cmp ho_2) ?_
 rintro _ h_2 ⟨l_1, rfl, hk, hS, hp_1, hs_1⟩
 replace hM := hM l_1 hp_1 hs_1
 replace hK := hK.trans hk
 replace hL_seq := hL_seq.kp hk
 replace hB_bseq := hB_bseq.kp hk
 replace hF_cf_cmp := hF_cf_cmp.kp hk
 refine HO.nil (tqn (?_))
 refine HW.seq ?_
 refine HW.region ?_
 refine oM (vr_2) rfl rfl ?_
 refine oA (vr_2) rfl rfl ?_
 refine HO.nil (tqn (?_))
 refine HW.ret (?_)
 refine ⟨.inr rfl, vr_2, res1 rfl (rt rfl), ?_⟩
 exact ⟨F_1, l_1, vr_2, rfl, hK, hS, hL_seq, hB_bseq, hF_cf_cmp, hM⟩
def cmp_Compare_int_W (x : Int) (y : Int) (Q : Int → Prop) : Prop :=
 cmp_isNaN_int_W x (fun r_2 => cmp_isNaN_int_W y (fun r_3 => (r_2 = true → (r_3 = true → Q 0) ∧ (r_3 = false → Q (-1))) ∧ (r_2 = false → (r_3 = true → Q 1) ∧ (r_3 = false → (x < y → Q (-1)) ∧ (¬ (x < y) → (y < x → Q 1) ∧ (¬ (y < x) → Q 0))))))
theorem cmp_Compare_int_walk {F : Fz} {fr : List Ow} {h0 : Heap} (x : Int) (y : Int) (hS : St F (fr) h0)  {Q : Int → Prop} (hM : cmp_Compare_int_W x y Q) :
  HC Tryz.prog 106 #[.int .i64 x, .int .i64 y] h0 fun u h' => ∃ (F' : Fz) (r_1 : Int), u = .int .i64 r_1 ∧ Kp F h0 F' h' ∧ St F' (fr) h' ∧ Q r_1 := by
 unfold cmp_Compare_int_W at hM
 have hK := Kp.refl F h0
 refine HC.of_HW (n := 20) Tryz.func106 rfl rfl (Nat.le_of_ble_eq_true rfl) ?_
 refine HW.seq ?_
 refine HW.region ?_
 refine oA (.int .i64 0) rfl rfl ?_
 refine HO.nil (tqn (?_))
 refine HW.seq ?_
 refine HW.region ?_
 refine oM (.int .i64 x) rfl rfl ?_
 refine HO.call (wn) rfl (ec en_109 rfl rfl) (cmp_isNaN_int_walk (fr := (fr)) x hS hM) ?_
 rintro _ h_1 ⟨F_1, r_2, rfl, hk, hS, hM⟩
 replace hK := hK.trans hk
 refine oA (.bool r_2) rfl rfl ?_
 refine HO.nil (tqn (?_))
 refine HW.seq ?_
 refine HW.region ?_
 refine oM (.int .i64 y) rfl rfl ?_
 refine HO.call (wn) rfl (ec en_109 rfl rfl) (cmp_isNaN_int_walk (fr := (fr)) y hS hM) ?_
 rintro _ h_2 ⟨F_2, r_3, rfl, hk, hS, hM⟩
 replace hK := hK.trans hk
 refine oA (.bool r_3) rfl rfl ?_
 refine HO.nil (tqn (?_))
 refine HW.seq ?_
 refine HW.seq ?_
 refine HW.region ?_
 refine oM (.bool r_2) rfl rfl ?_
 refine HO.nil (tqn (?_))
 refine HW.cond r_2 rfl (fun c_1 => ?_) (fun c_1 => ?_)
 ·
  replace hM := hM.1 c_1
  refine HW.seq ?_
  refine HW.seq ?_
  refine HW.region ?_
  refine oM (.bool r_3) rfl rfl ?_
  refine HO.nil (tqn (?_))
  refine HW.cond r_3 rfl (fun c_2 => ?_) (fun c_2 => ?_)
  ·
   replace hM := hM.1 c_2
   refine HW.seq ?_
   refine HW.region ?_
   refine oA (.int .i64 0) rfl rfl ?_
   refine HO.nil (tqn (?_))
   refine HW.ret (thenQ_ret (thenQ_ret (?_)))
   refine ⟨.inr rfl, .int .i64 0, res1 rfl (rt rfl), ?_⟩
   exact ⟨F_2, 0, rfl, hK, hS, hM⟩
  ·
   replace hM := hM.2 c_2
   refine HW.skip (tqn (?_))
   refine HW.seq ?_
   refine HW.region ?_
   refine oA (.int .i64 (-1)) rfl rfl ?_
   refine HO.nil (tqn (?_))
   refine HW.ret (thenQ_ret (?_))
   refine ⟨.inr rfl, .int .i64 (-1), res1 rfl (rt rfl), ?_⟩
   exact ⟨F_2, (-1), rfl, hK, hS, hM⟩
 ·
  replace hM := hM.2 c_1
  refine HW.skip (tqn (?_))
  refine HW.seq ?_
  refine HW.seq ?_
  refine HW.region ?_
  refine oM (.bool r_3) rfl rfl ?_
  refine HO.nil (tqn (?_))
  refine HW.cond r_3 rfl (fun c_3 => ?_) (fun c_3 => ?_)
  ·
   replace hM := hM.1 c_3
   refine HW.seq ?_
   refine HW.region ?_
   refine oA (.int .i64 1) rfl rfl ?_
   refine HO.nil (tqn (?_))
   refine HW.ret (thenQ_ret (?_))
   refine ⟨.inr rfl, .int .i64 1, res1 rfl (rt rfl), ?_⟩
   exact ⟨F_2, 1, rfl, hK, hS, hM⟩
  ·
   replace hM := hM.2 c_3
   refine HW.skip (tqn (?_))
   refine HW.seq ?_
   refine HW.seq ?_
   refine HW.region ?_
   refine oM (.int .i64 x) rfl rfl ?_
   refine oM (.int .i64 y) rfl rfl ?_
   refine oV (.bool (decide (x < y))) (q_lss rfl rfl) rfl ?_
   refine HO.nil (tqn (?_))
   refine HW.cond (decide (x < y)) rfl (fun c_4 => ?_) (fun c_4 => ?_)
   ·
    replace hM := hM.1 (of_decide_eq_true c_4)
    refine HW.seq ?_
    refine HW.region ?_
    refine oA (.int .i64 (-1)) rfl rfl ?_
    refine HO.nil (tqn (?_))
    refine HW.ret (thenQ_ret (?_))
    refine ⟨.inr rfl, .int .i64 (-1), res1 rfl (rt rfl), ?_⟩
    exact ⟨F_2, (-1), rfl, hK, hS, hM⟩
   ·
    replace hM := hM.2 (of_decide_eq_false c_4)
    refine HW.skip (tqn (?_))
    refine HW.seq ?_
    refine HW.seq ?_
    refine HW.region ?_
    refine oM (.int .i64 x) rfl rfl ?_
    refine oM (.int .i64 y) rfl rfl ?_
    refine oV (.bool (decide (y < x))) (q_gtr rfl rfl) rfl ?_
    refine HO.nil (tqn (?_))
    refine HW.cond (decide (y < x)) rfl (fun c_5 => ?_) (fun c_5 => ?_)
    ·
     replace hM := hM.1 (of_decide_eq_true c_5)
     refine HW.seq ?_
     refine HW.region ?_
     refine oA (.int .i64 1) rfl rfl ?_
     refine HO.nil (tqn (?_))
     refine HW.ret (thenQ_ret (?_))
     refine ⟨.inr rfl, .int .i64 1, res1 rfl (rt rfl), ?_⟩
     exact ⟨F_2, 1, rfl, hK, hS, hM⟩
    ·
     replace hM := hM.2 (of_decide_eq_false c_5)
     refine HW.skip (tqn (?_))
     refine HW.seq ?_
     refine HW.region ?_
     refine oA (.int .i64 0) rfl rfl ?_
     refine HO.nil (tqn (?_))
     refine HW.ret (?_)
     refine ⟨.inr rfl, .int .i64 0, res1 rfl (rt rfl), ?_⟩
     exact ⟨F_2, 0, rfl, hK, hS, hM⟩
def cmp_Or_int_l1 (vals : List Int) (Q : Int → Prop) (K_1 : Int → Prop) (n_1 : Int) : Prop :=
 (n_1 < (vals.length : Int) → ((0 : Int) ≤ n_1 ∧ n_1 < (vals.length : Int)) ∧ ((¬ ((gi vals n_1) = 0) → Q (gi vals n_1)) ∧ ((gi vals n_1) = 0 → (I64 (n_1 + 1)) ∧ (K_1 (n_1 + 1))))) ∧ (¬ (n_1 < (vals.length : Int)) → Q 0)
def cmp_Or_int_W (vals : List Int) (Q : Int → Prop) : Prop :=
 loopW (fun (K_1 : Int → Prop) (s : Int) => cmp_Or_int_l1 vals Q K_1 s) 0
theorem cmp_Or_int_walk {F : Fz} {fr : List Ow} {h0 : Heap} (vals : List Int) (vvals : Value) (hS : St F (fr) h0) (hL_vals : SliceF F h0 1 encI vvals vals) {Q : Int → Prop} (hM : cmp_Or_int_W vals Q) :
  HC Tryz.prog 105 #[vvals] h0 fun u h' => ∃ (F' : Fz) (r_1 : Int), u = .int .i64 r_1 ∧ Kp F h0 F' h' ∧ St F' (fr) h' ∧ (SliceF F' h' 1 encI vvals vals) ∧ Q r_1 := by
 unfold cmp_Or_int_W at hM
 have hK := Kp.refl F h0
 refine HC.of_HW (n := 18) Tryz.func105 rfl rfl (Nat.le_of_ble_eq_true rfl) ?_
 refine HW.seq ?_
 refine HW.region ?_
 refine oA (.int .i64 0) rfl rfl ?_
 refine HO.nil (tqn (?_))
 refine HW.seq ?_
 refine HW.region ?_
 refine oA (.int .i64 0) rfl rfl ?_
 refine HO.nil (tqn (?_))
 refine HW.seq ?_
 refine HW.seq ?_
 refine HW.region ?_
 refine oM (vvals) rfl rfl ?_
 refine oV (.int .i64 (vals.length : Int)) (q_len ts_22 (shp hL_vals.is) rfl rfl) rfl ?_
 refine oM (.int .i64 0) rfl rfl ?_
 refine HO.nil (tqn (?_))
 refine HW.block ?_
 obtain ⟨I_1, m_1, hI_1, hR_1⟩ := hM
 refine HW.loop (S := Int) (fun n_1 f h => ∃ (F' : Fz), f 2 = .int .i64 0 ∧ f 3 = .int .i64 0 ∧ f 6 = vvals ∧ f 7 = .int .i64 (vals.length : Int) ∧ f 8 = .int .i64 n_1 ∧ Kp F h0 F' h ∧ St F' (fr) h ∧ (SliceF F' h 1 encI vvals vals) ∧ I_1 n_1) m_1 0 ⟨F, rfl, rfl, rfl, rfl, rfl, hK, hS, hL_vals, hI_1⟩ ?_
 rintro n_1 f_1 h_1 ⟨F_1, e2, e3, e6, e7, e8, hK, hS, hL_vals, hI0⟩
 obtain ⟨K_1, hKe_1⟩ : ∃ K : Int → Prop, K = fun n_1' => I_1 n_1' ∧ m_1 n_1' < m_1 n_1 := ⟨_, rfl⟩
 have hM : cmp_Or_int_l1 vals Q K_1 n_1 := by rw [hKe_1]; exact hR_1 n_1 hI0
 unfold cmp_Or_int_l1 at hM
 refine HW.fr [(2, .int .i64 0), (3, .int .i64 0), (6, vvals), (7, .int .i64 (vals.length : Int)), (8, .int .i64 n_1)] ⟨e2, e3, e6, e7, e8, trivial⟩ ?_
 refine HW.seq ?_
 refine HW.region ?_
 refine oV (.bool (decide (n_1 < (vals.length : Int)))) (q_lss rfl rfl) rfl ?_
 refine HO.nil (tqn (?_))
 refine HW.seq ?_
 refine HW.cond (decide (n_1 < (vals.length : Int))) rfl (fun c_1 => ?_) (fun c_1 => ?_)
 ·
  replace hM := hM.1 (of_decide_eq_true c_1)
  refine HW.skip (tqn (?_))
  refine HW.seq ?_
  refine HW.block ?_
  refine HW.seq ?_
  refine HW.region ?_
  obtain ⟨ho_1, hM⟩ := hM
  refine oV (elemPtr 1 vvals (n_1).toNat) (q_idx ts_22 hL_vals.is rfl rfl ho_1) rfl ?_
  refine oV (.int .i64 (gi vals n_1)) (q_ldElem to_3 hL_vals.is rfl ho_1 rfl) rfl ?_
  refine oA (.int .i64 (gi vals n_1)) rfl rfl ?_
  refine HO.nil (tqn (?_))
  refine HW.seq ?_
  refine HW.region ?_
  refine oM (.int .i64 (gi vals n_1)) rfl rfl ?_
  refine oM (.int .i64 0) rfl rfl ?_
  refine oV (.bool (!decide ((gi vals n_1) = 0))) (q_neq rfl rfl) rfl ?_
  refine HO.nil (tqn (?_))
  refine HW.cond (!decide ((gi vals n_1) = 0)) rfl (fun c_2 => ?_) (fun c_2 => ?_)
  ·
   replace hM := hM.1 (nd_true c_2)
   refine HW.seq ?_
   refine HW.region ?_
   refine oM (.int .i64 (gi vals n_1)) rfl rfl ?_
   refine oA (.int .i64 (gi vals n_1)) rfl rfl ?_
   refine HO.nil (tqn (?_))
   refine HW.ret (blockQ_ret (thenQ_ret (thenQ_ret (blockQ_ret (thenQ_ret (?_))))))
   refine ⟨.inr rfl, .int .i64 (gi vals n_1), res1 rfl (rt rfl), ?_⟩
   exact ⟨F_1, (gi vals n_1), rfl, hK, hS, hL_vals, hM⟩
  ·
   replace hM := hM.2 (nd_false c_2)
   refine HW.skip (blockQ_normal (tqn (?_)))
   refine HW.region ?_
   obtain ⟨ho_2, hM⟩ := hM
   refine oV (.int .i64 (n_1 + 1)) (q_addN _ rfl rfl rfl ho_2.1 ho_2.2) rfl ?_
   refine oM (.int .i64 (n_1 + 1)) rfl rfl ?_
   refine HO.nil (tqn (?_))
   rw [hKe_1] at hM
   exact ⟨n_1 + 1, ⟨F_1, rfl, rfl, rfl, rfl, rfl, hK, hS, hL_vals, hM.1⟩, hM.2⟩
 ·
  replace hM := hM.2 (of_decide_eq_false c_1)
  refine HW.exit (thenQ_exit (thenQ_exit (blockQ_exit (tqn (?_)))))
  refine HW.seq ?_
  refine HW.region ?_
  refine oM (.int .i64 0) rfl rfl ?_
  refine oA (.int .i64 0) rfl rfl ?_
  refine HO.nil (tqn (?_))
  refine HW.ret (?_)
  refine ⟨.inr rfl, .int .i64 0, res1 rfl (rt rfl), ?_⟩
  exact ⟨F_1, 0, rfl, hK, hS, hL_vals, hM⟩
def tree_order_W (a : TB) (b : TB) (Q : Int → Prop) : Prop :=
 cmp_Compare_int_W a.1 b.1 (fun r_2 => cmp_Compare_int_W a.2 b.2 (fun r_3 => cmp_Or_int_W ([r_2, r_3] : List Int) (fun r_4 => Q r_4)))
theorem tree_order_walk {F : Fz} {fr : List Ow} {h0 : Heap} (a : TB) (b : TB) (hS : St F (fr) h0)  {Q : Int → Prop} (hM : tree_order_W a b Q) :
  HC Tryz.prog 92 #[.agg #[.int .i64 a.1, .int .i64 a.2], .agg #[.int .i64 b.1, .int .i64 b.2]] h0 fun u h' => ∃ (F' : Fz) (r_1 : Int), u = .int .i64 r_1 ∧ Kp F h0 F' h' ∧ St F' (fr) h' ∧ Q r_1 := by
 unfold tree_order_W at hM
 have hK := Kp.refl F h0
 refine HC.of_HW (n := 17) Tryz.func92 rfl rfl (Nat.le_of_ble_eq_true rfl) ?_
 refine HW.seq ?_
 refine HW.region ?_
 refine HO.eff (wn) rfl (st_box (c := #[.int .i64 a.1, .int .i64 a.2]) (k' := 2) hS rfl rfl) ?_
 rintro _ h_1 ⟨b_1, rfl, hS, hk⟩
 replace hK := hK.trans hk
 refine HO.eff (wn) rfl (st_box (c := #[.int .i64 b.1, .int .i64 b.2]) (k' := 2) hS rfl rfl) ?_
 rintro _ h_2 ⟨b_2, rfl, hS, hk⟩
 replace hK := hK.trans hk
 refine oA (.int .i64 0) rfl rfl ?_
 refine HO.nil (tqn (?_))
 refine HW.seq ?_
 refine HW.regionA 13 mixed (fun h => (Blk h b_2 (.cells #[.int .i64 b.1, .int .i64 b.2] 52 (0, 0))) ∧ (Blk h b_1 (.cells #[.int .i64 a.1, .int .i64 a.2] 52 (0, 0)))) [] (by kernel_rfl) ?_
 refine HA.val (k := 0) (v := .pointer (some ⟨b_1, 0, none⟩)) rfl rfl (by kernel_rfl) (by kernel_rfl) (wn) rfl (fun _ ⟨c202, c201⟩ => qfA fa_52_0 rfl rfl) ?_
 refine HA.val (k := 1) (v := .int .i64 a.1) rfl rfl (by kernel_rfl) (by kernel_rfl) (wn) rfl (fun _ ⟨c202, c201⟩ => q_load to_3 rfl (Blk.cell c201 rfl)) ?_
 refine HA.val (k := 2) (v := .pointer (some ⟨b_2, 0, none⟩)) rfl rfl (by kernel_rfl) (by kernel_rfl) (wn) rfl (fun _ ⟨c202, c201⟩ => qfA fa_52_0 rfl rfl) ?_
 refine HA.val (k := 3) (v := .int .i64 b.1) rfl rfl (by kernel_rfl) (by kernel_rfl) (wn) rfl (fun _ ⟨c202, c201⟩ => q_load to_3 rfl (Blk.cell c202 rfl)) ?_
 refine HA.val (k := 5) (v := .pointer (some ⟨b_1, 1, none⟩)) rfl rfl (by kernel_rfl) (by kernel_rfl) (wn) rfl (fun _ ⟨c202, c201⟩ => qfA fa_52_1 rfl rfl) ?_
 refine HA.val (k := 6) (v := .int .i64 a.2) rfl rfl (by kernel_rfl) (by kernel_rfl) (wn) rfl (fun _ ⟨c202, c201⟩ => q_load to_3 rfl (Blk.cell c201 rfl)) ?_
 refine HA.val (k := 7) (v := .pointer (some ⟨b_2, 1, none⟩)) rfl rfl (by kernel_rfl) (by kernel_rfl) (wn) rfl (fun _ ⟨c202, c201⟩ => qfA fa_52_1 rfl rfl) ?_
 refine HA.val (k := 8) (v := .int .i64 b.2) rfl rfl (by kernel_rfl) (by kernel_rfl) (wn) rfl (fun _ ⟨c202, c201⟩ => q_load to_3 rfl (Blk.cell c202 rfl)) ?_
 refine HA.one (k := 4) ⟨⟨(hS.box 0 rfl), (hS.box 1 rfl)⟩, (Go.Wk.at_nil _ _)⟩ (by kernel_rfl) ?_
 refine HS.call rfl (wn) rfl (ec en_106 rfl rfl) (cmp_Compare_int_walk (fr := (Ow.box b_2 52 #[.int .i64 b.1, .int .i64 b.2] :: Ow.box b_1 52 #[.int .i64 a.1, .int .i64 a.2] :: fr)) a.1 b.1 hS hM) ?_
 rintro _ h_3 ⟨F_1, r_2, rfl, hk, hS, hM⟩
 replace hK := hK.trans hk
 refine HA.one (k := 9) ⟨⟨(hS.box 0 rfl), (hS.box 1 rfl)⟩, (Go.Wk.at_nil _ _)⟩ (by kernel_rfl) ?_
 refine HS.call rfl (wn) rfl (ec en_106 rfl rfl) (cmp_Compare_int_walk (fr := (Ow.box b_2 52 #[.int .i64 b.1, .int .i64 b.2] :: Ow.box b_1 52 #[.int .i64 a.1, .int .i64 a.2] :: fr)) a.2 b.2 hS hM) ?_
 rintro _ h_4 ⟨F_2, r_3, rfl, hk, hS, hM⟩
 replace hK := hK.trans hk
 refine HA.one (k := 10) ⟨⟨(hS.box 0 rfl), (hS.box 1 rfl)⟩, (Go.Wk.at_nil _ _)⟩ (by kernel_rfl) ?_
 refine HS.eff rfl (wn) rfl (st_lit (enc := encI) (cells := #[.int .i64 r_2, .int .i64 r_3]) #[.int .i64 0, .int .i64 0] ([r_2, r_3] : List Int) hS tl_22 (by decide) (by decide) (by kernel_rfl) (by kernel_rfl) rfl (by intro x hx; rfl) rfl) ?_
 rintro _ h_5 ⟨b_3, rfl, hS, hk⟩
 replace hK := hK.trans hk
 refine HA.one (k := 11) ⟨⟨(hS.box 1 rfl), (hS.box 2 rfl)⟩, (Go.Wk.at_nil _ _)⟩ (by kernel_rfl) ?_
 replace hS : St F_2 (Ow.own 3 1 encI (.slice (some ⟨b_3, 0, none⟩) 2 2) ([r_2, r_3] : List Int) :: Ow.box b_2 52 #[.int .i64 b.1, .int .i64 b.2] :: Ow.box b_1 52 #[.int .i64 a.1, .int .i64 a.2] :: fr) h_5 := hS
 have hZ_1 := hS
 have hkz_1 := (hS.freeze).2
 replace hS := hS.freeze.1
 have hL_1 : SliceF (fun bz_ => F_2 bz_ ∨ (Ow.own 3 1 encI (.slice (some ⟨b_3, 0, none⟩) 2 2) ([r_2, r_3] : List Int)).foot bz_) h_5 1 encI (.slice (some ⟨b_3, 0, none⟩) 2 2) ([r_2, r_3] : List Int) := ⟨(hZ_1.own 0 rfl).slice, fun _ b hb => .inr hb⟩
 refine HS.call rfl (wn) rfl (ec en_105 rfl rfl) (cmp_Or_int_walk (fr := (Ow.box b_2 52 #[.int .i64 b.1, .int .i64 b.2] :: Ow.box b_1 52 #[.int .i64 a.1, .int .i64 a.2] :: fr)) ([r_2, r_3] : List Int) (.slice (some ⟨b_3, 0, none⟩) 2 2) hS hL_1 hM) ?_
 rintro _ h_6 ⟨F_3, r_4, rfl, hk, hS, _, hM⟩
 obtain ⟨hS, hk⟩ := hZ_1.back hk hS
 generalize (fun bz_ => F_3 bz_ ∧ ¬ (Ow.own 3 1 encI (.slice (some ⟨b_3, 0, none⟩) 2 2) ([r_2, r_3] : List Int)).foot bz_) = F_4 at hS hk
 replace hK := hK.trans hk
 refine HA.val (k := 12) (v := .int .i64 r_4) rfl rfl (by kernel_rfl) (by kernel_rfl) (wn) rfl (fun _ ⟨c202, c201⟩ => q_assign rfl) ?_
 refine HA.nil ⟨⟨(hS.box 1 rfl), (hS.box 2 rfl)⟩, (Go.Wk.at_nil _ _)⟩ (by kernel_rfl) (tqn (?_))
 refine HW.ret (?_)
 refine ⟨.inr rfl, .int .i64 r_4, res1 rfl (rt rfl), ?_⟩
 replace hS : St F_4 (fr) h_6 := hS.perm2 [] 3 rfl rfl
 exact ⟨F_4, r_4, rfl, hK, hS, hM⟩
def tree_good_j1 (tL : List TB) (Q : Bool → Prop) (into_1 : List (Int × Int)) (n_1 : Int) (K_1 : (List (Int × Int)) → Int → Prop) (b_3 : Bool) : Prop :=
 (b_3 = true → Q false) ∧ (b_3 = false → (I64 ((mget0 into_1 ((gi tL n_1).2)) + 1)) ∧ ((I64 (n_1 + 1)) ∧ (K_1 (mset into_1 ((gi tL n_1).2) ((mget0 into_1 ((gi tL n_1).2)) + 1)) (n_1 + 1))))
def tree_good_l1 (tR : Int) (tL : List TB) (Q : Bool → Prop) (K_1 : (List (Int × Int)) → Int → Prop) (into_1 : List (Int × Int)) (n_1 : Int) : Prop :=
 (n_1 < (tL.length : Int) → ((0 : Int) ≤ n_1 ∧ n_1 < (tL.length : Int)) ∧ ((((gi tL n_1).2) = tR → tree_good_j1 tL Q into_1 n_1 K_1 true) ∧ (¬ (((gi tL n_1).2) = tR) → (0 < n_1 → (I64 (n_1 - 1)) ∧ (((0 : Int) ≤ n_1 - 1 ∧ n_1 - 1 < (tL.length : Int)) ∧ (tree_order_W (gi tL (n_1 - 1)) (gi tL n_1) (fun r_3 => tree_good_j1 tL Q into_1 n_1 K_1 (decide (0 ≤ r_3)))))) ∧ (¬ (0 < n_1) → tree_good_j1 tL Q into_1 n_1 K_1 false)))) ∧ (¬ (n_1 < (tL.length : Int)) → ((tL.length : Int) < 256 → ((into_1.length : Int) = (tL.length : Int) → (I64 ((tL.length : Int) + 1)) ∧ (tree_walk_W tR tL tR (fun r_4 => Q (decide ((r_4.length : Int) = ((tL.length : Int) + 1)))))) ∧ (¬ ((into_1.length : Int) = (tL.length : Int)) → Q false)) ∧ (¬ ((tL.length : Int) < 256) → Q false))
def tree_good_W (tR : Int) (tL : List TB) (Q : Bool → Prop) : Prop :=
 loopW (fun (K_1 : ((List (Int × Int)) × Int) → Prop) (s : (List (Int × Int)) × Int) => tree_good_l1 tR tL Q (fun into_1 n_1 => K_1 (into_1, n_1)) s.1 s.2) ([], 0)
theorem tree_good_walk {F : Fz} {fr : List Ow} {h0 : Heap} (tR : Int) (tL : List TB) (vT : Value) (hS : St F (fr) h0) (hLT : SliceF F h0 2 eB vT tL) {Q : Bool → Prop} (hM : tree_good_W tR tL Q) :
  HC Tryz.prog 93 #[.agg #[.int .i64 tR, vT]] h0 fun u h' => ∃ (F' : Fz) (r_1 : Bool), u = .bool r_1 ∧ Kp F h0 F' h' ∧ St F' (fr) h' ∧ (SliceF F' h' 2 eB vT tL) ∧ Q r_1 := by
 unfold tree_good_W at hM
 have hK := Kp.refl F h0
 refine HC.of_HW (n := 65) Tryz.func93 rfl rfl (Nat.le_of_ble_eq_true rfl) ?_
 refine HW.seq ?_
 refine HW.region ?_
 refine HO.eff (wn) rfl (st_box (c := #[.int .i64 tR, vT]) (k' := 2) hS rfl rfl) ?_
 rintro _ h_1 ⟨b_1, rfl, hS, hk⟩
 replace hK := hK.trans hk
 replace hLT := hLT.kp hk
 refine oA (.bool false) rfl rfl ?_
 refine HO.nil (tqn (?_))
 refine HW.seq ?_
 refine HW.region ?_
 refine HO.eff (wn) rfl (st_makeMap (κ := Int) (ν := Int) kI kI hS) ?_
 rintro _ h_2 ⟨r_2, rfl, hS, hk⟩
 replace hK := hK.trans hk
 replace hLT := hLT.kp hk
 refine oA (.map (some r_2)) rfl rfl ?_
 refine HO.nil (tqn (?_))
 refine HW.seq ?_
 refine HW.seq ?_
 refine HW.region ?_
 refine oV (.pointer (some ⟨b_1, 1, none⟩)) (qfA fa_31_1 rfl rfl) rfl ?_
 refine oV (vT) (q_load to_29 rfl (Blk.cell (hS.box 1 rfl) rfl)) rfl ?_
 refine oV (.int .i64 (tL.length : Int)) (q_len ts_29 (shp hLT.is) rfl rfl) rfl ?_
 refine oM (.int .i64 0) rfl rfl ?_
 refine HO.nil (tqn (?_))
 refine HW.block ?_
 obtain ⟨I_1, m_1, hI_1, hR_1⟩ := hM
 replace hS : St F (Ow.box b_1 31 #[.int .i64 tR, vT] :: Ow.map r_2 kI kI ([] : List (Int × Int)) :: fr) h_2 := hS.perm2 [1, 0] 2 rfl rfl
 refine HW.loop (S := (List (Int × Int)) × Int) (fun s f h => match s with | (into_1, n_1) => ∃ (F' : Fz), f 1 = .pointer (some ⟨b_1, 0, none⟩) ∧ f 2 = .bool false ∧ f 3 = .map (some r_2) ∧ f 8 = vT ∧ f 9 = .int .i64 (tL.length : Int) ∧ f 10 = .int .i64 n_1 ∧ Kp F h0 F' h ∧ St F' (Ow.box b_1 31 #[.int .i64 tR, vT] :: Ow.map r_2 kI kI into_1 :: fr) h ∧ (SliceF F' h 2 eB vT tL) ∧ I_1 (into_1, n_1)) m_1 ([], 0) ⟨F, rfl, rfl, rfl, rfl, rfl, rfl, hK, hS, hLT, hI_1⟩ ?_
 rintro ⟨into_1, n_1⟩ f_1 h_3 ⟨F_1, e1, e2, e3, e8, e9, e10, hK, hS, hLT, hI0⟩
 obtain ⟨K_1, hKe_1⟩ : ∃ K : (List (Int × Int)) → Int → Prop, K = fun into_1' n_1' => I_1 (into_1', n_1') ∧ m_1 (into_1', n_1') < m_1 (into_1, n_1) := ⟨_, rfl⟩
 have hM : tree_good_l1 tR tL Q K_1 into_1 n_1 := by rw [hKe_1]; exact hR_1 (into_1, n_1) hI0
 unfold tree_good_l1 at hM
 refine HW.fr [(1, .pointer (some ⟨b_1, 0, none⟩)), (2, .bool false), (3, .map (some r_2)), (8, vT), (9, .int .i64 (tL.length : Int)), (10, .int .i64 n_1)] ⟨e1, e2, e3, e8, e9, e10, trivial⟩ ?_
 refine HW.seq ?_
 refine HW.region ?_
 refine oV (.bool (decide (n_1 < (tL.length : Int)))) (q_lss rfl rfl) rfl ?_
 refine HO.nil (tqn (?_))
 refine HW.seq ?_
 refine HW.cond (decide (n_1 < (tL.length : Int))) rfl (fun c_1 => ?_) (fun c_1 => ?_)
 ·
  replace hM := hM.1 (of_decide_eq_true c_1)
  refine HW.skip (tqn (?_))
  refine HW.seq ?_
  refine HW.block ?_
  refine HW.seq ?_
  refine HW.region ?_
  refine oM (.int .i64 n_1) rfl rfl ?_
  obtain ⟨ho_1, hM⟩ := hM
  refine oV (elemPtr 2 vT (n_1).toNat) (q_idx ts_29 hLT.is rfl rfl ho_1) rfl ?_
  refine oV (.agg #[.int .i64 ((gi tL n_1).1), .int .i64 ((gi tL n_1).2)]) (q_ldElemAgg (cs := [.int .i64 ((gi tL n_1).1), .int .i64 ((gi tL n_1).2)]) ta_52 hLT.is rfl ho_1 rfl) rfl ?_
  refine HO.eff (wn) rfl (st_alloc (c := #[.int .i64 0, .int .i64 0]) hS tz_52 rfl) ?_
  rintro _ h_4 ⟨b_2, rfl, hS, hk⟩
  replace hK := hK.trans hk
  replace hLT := hLT.kp hk
  refine oA (.int .i64 n_1) rfl rfl ?_
  refine HO.sto (wn) rfl (st_storeAgg (c' := #[.int .i64 ((gi tL n_1).1), .int .i64 ((gi tL n_1).2)]) hS (i := 0) rfl ta_52 rfl rfl rfl (by simp [Value.oneCell']) (Nat.le_of_ble_eq_true rfl) rfl) ?_
  rintro h_5 ⟨hS, hk⟩
  replace hK := hK.trans hk
  replace hLT := hLT.kp hk
  refine HO.nil (tqn (?_))
  refine HW.seq ?_
  refine HW.seq_mid (fun f h => ∃ (F' : Fz) (b_3 : Bool), f 1 = .pointer (some ⟨b_1, 0, none⟩) ∧ f 2 = .bool false ∧ f 3 = .map (some r_2) ∧ f 5 = .pointer (some ⟨b_2, 0, none⟩) ∧ f 8 = vT ∧ f 9 = .int .i64 (tL.length : Int) ∧ f 10 = .int .i64 n_1 ∧ f 34 = .bool b_3 ∧ Kp F h0 F' h ∧ St F' (Ow.box b_1 31 #[.int .i64 tR, vT] :: Ow.map r_2 kI kI into_1 :: Ow.box b_2 52 #[.int .i64 ((gi tL n_1).1), .int .i64 ((gi tL n_1).2)] :: fr) h ∧ (SliceF F' h 2 eB vT tL) ∧ tree_good_j1 tL Q into_1 n_1 K_1 b_3) ?_ ?_
  ·
   refine HW.regionA 20 mixed (fun h => (SliceIs h 2 eB vT tL) ∧ (Blk h b_2 (.cells #[.int .i64 ((gi tL n_1).1), .int .i64 ((gi tL n_1).2)] 52 (0, 0))) ∧ (Blk h b_1 (.cells #[.int .i64 tR, vT] 31 (0, 0)))) [] (by kernel_rfl) ?_
   refine HA.val (k := 0) (v := .pointer (some ⟨b_2, 1, none⟩)) rfl rfl (by kernel_rfl) (by kernel_rfl) (wn) rfl (fun _ ⟨hLT, c355, c353⟩ => qfA fa_52_1 rfl rfl) ?_
   refine HA.val (k := 1) (v := .int .i64 ((gi tL n_1).2)) rfl rfl (by kernel_rfl) (by kernel_rfl) (wn) rfl (fun _ ⟨hLT, c355, c353⟩ => q_load to_3 rfl (Blk.cell c355 rfl)) ?_
   refine HA.val (k := 2) (v := .pointer (some ⟨b_1, 0, none⟩)) rfl rfl (by kernel_rfl) (by kernel_rfl) (wn) rfl (fun _ ⟨hLT, c355, c353⟩ => qfA fa_31_0 rfl rfl) ?_
   refine HA.val (k := 3) (v := .int .i64 tR) rfl rfl (by kernel_rfl) (by kernel_rfl) (wn) rfl (fun _ ⟨hLT, c355, c353⟩ => q_load to_3 rfl (Blk.cell c353 rfl)) ?_
   refine HA.val (k := 4) (v := .bool (decide (((gi tL n_1).2) = tR))) rfl rfl (by kernel_rfl) (by kernel_rfl) (wn) rfl (fun _ ⟨hLT, c355, c353⟩ => q_eql rfl rfl) ?_
   refine HA.val (k := 5) (v := .bool (decide (((gi tL n_1).2) = tR))) rfl rfl (by kernel_rfl) (by kernel_rfl) (wn) rfl (fun _ ⟨hLT, c355, c353⟩ => q_move rfl) ?_
   rcases Bool.eq_false_or_eq_true (decide (((gi tL n_1).2) = tR)) with c_2 | c_2
   ·
    replace hM := hM.1 (of_decide_eq_true c_2)
    refine HA.past (k := 6) rfl rfl (by kernel_rfl) (by kernel_rfl) (pby rfl rfl c_2) rfl ?_
    refine HA.past (k := 7) rfl rfl (by kernel_rfl) (by kernel_rfl) (pby rfl rfl c_2) rfl ?_
    refine HA.past (k := 8) rfl rfl (by kernel_rfl) (by kernel_rfl) (pby rfl rfl c_2) rfl ?_
    refine HA.past (k := 9) rfl rfl (by kernel_rfl) (by kernel_rfl) (past_undef rfl rfl) rfl ?_
    refine HA.past (k := 10) rfl rfl (by kernel_rfl) (by kernel_rfl) (past_undef rfl rfl) rfl ?_
    refine HA.past (k := 11) rfl rfl (by kernel_rfl) (by kernel_rfl) (past_undef rfl rfl) rfl ?_
    refine HA.past (k := 12) rfl rfl (by kernel_rfl) (by kernel_rfl) (past_undef rfl rfl) rfl ?_
    refine HA.past (k := 13) rfl rfl (by kernel_rfl) (by kernel_rfl) (past_undef rfl rfl) rfl ?_
    refine HA.past (k := 14) rfl rfl (by kernel_rfl) (by kernel_rfl) (past_undef rfl rfl) rfl ?_
    refine HA.past (k := 15) rfl rfl (by kernel_rfl) (by kernel_rfl) (past_undef rfl rfl) rfl ?_
    refine HA.one (k := 16) ⟨⟨hLT.is, (hS.box 0 rfl), (hS.box 1 rfl)⟩, (Go.Wk.at_nil _ _)⟩ (by kernel_rfl) ?_
    refine HS.past rfl (past_undef rfl rfl) rfl ?_
    refine HA.past (k := 17) rfl rfl (by kernel_rfl) (by kernel_rfl) (past_undef rfl rfl) rfl ?_
    refine HA.past (k := 18) rfl rfl (by kernel_rfl) (by kernel_rfl) (pby rfl rfl c_2) rfl ?_
    refine HA.val (k := 19) (v := .bool true) rfl rfl (by kernel_rfl) (by kernel_rfl) (wn) rfl (fun _ ⟨hLT, c355, c353⟩ => q_pickK true rfl c_2 rfl) ?_
    refine HA.nil ⟨⟨hLT.is, (hS.box 0 rfl), (hS.box 1 rfl)⟩, (Go.Wk.at_nil _ _)⟩ (by kernel_rfl) (tqn (?_))
    replace hS : St F_1 (Ow.box b_1 31 #[.int .i64 tR, vT] :: Ow.map r_2 kI kI into_1 :: Ow.box b_2 52 #[.int .i64 ((gi tL n_1).1), .int .i64 ((gi tL n_1).2)] :: fr) h_5 := hS.perm2 [1, 2, 0] 3 rfl rfl
    exact ⟨F_1, true, rfl, rfl, rfl, rfl, rfl, rfl, rfl, rfl, hK, hS, hLT, hM⟩
   ·
    replace hM := hM.2 (of_decide_eq_false c_2)
    refine HA.val (k := 6) (v := .int .i64 n_1) rfl rfl (by kernel_rfl) (by kernel_rfl) (wby rfl rfl c_2) rfl (fun _ ⟨hLT, c355, c353⟩ => q_move rfl) ?_
    refine HA.val (k := 7) (v := .bool (decide (0 < n_1))) rfl rfl (by kernel_rfl) (by kernel_rfl) (wby rfl rfl c_2) rfl (fun _ ⟨hLT, c355, c353⟩ => q_gtr rfl rfl) ?_
    refine HA.val (k := 8) (v := .bool (decide (0 < n_1))) rfl rfl (by kernel_rfl) (by kernel_rfl) (wby rfl rfl c_2) rfl (fun _ ⟨hLT, c355, c353⟩ => q_move rfl) ?_
    rcases Bool.eq_false_or_eq_true (decide (0 < n_1)) with c_3 | c_3
    ·
     replace hM := hM.1 (of_decide_eq_true c_3)
     refine HA.val (k := 9) (v := .pointer (some ⟨b_1, 1, none⟩)) rfl rfl (by kernel_rfl) (by kernel_rfl) (wby rfl rfl c_3) rfl (fun _ ⟨hLT, c355, c353⟩ => qfA fa_31_1 rfl rfl) ?_
     refine HA.val (k := 10) (v := vT) rfl rfl (by kernel_rfl) (by kernel_rfl) (wby rfl rfl c_3) rfl (fun _ ⟨hLT, c355, c353⟩ => q_load to_29 rfl (Blk.cell c353 rfl)) ?_
     refine HA.val (k := 11) (v := .int .i64 n_1) rfl rfl (by kernel_rfl) (by kernel_rfl) (wby rfl rfl c_3) rfl (fun _ ⟨hLT, c355, c353⟩ => q_move rfl) ?_
     obtain ⟨ho_2, hM⟩ := hM
     refine HA.val (k := 12) (v := .int .i64 (n_1 - 1)) rfl rfl (by kernel_rfl) (by kernel_rfl) (wby rfl rfl c_3) rfl (fun _ ⟨hLT, c355, c353⟩ => q_subN _ rfl rfl rfl ho_2.1 ho_2.2) ?_
     obtain ⟨ho_3, hM⟩ := hM
     refine HA.val (k := 13) (v := elemPtr 2 vT (n_1 - 1).toNat) rfl rfl (by kernel_rfl) (by kernel_rfl) (wby rfl rfl c_3) rfl (fun _ ⟨hLT, c355, c353⟩ => q_idx ts_29 hLT rfl rfl ho_3) ?_
     refine HA.val (k := 14) (v := .agg #[.int .i64 ((gi tL (n_1 - 1)).1), .int .i64 ((gi tL (n_1 - 1)).2)]) rfl rfl (by kernel_rfl) (by kernel_rfl) (wby rfl rfl c_3) rfl (fun _ ⟨hLT, c355, c353⟩ => q_ldElemAgg (cs := [.int .i64 ((gi tL (n_1 - 1)).1), .int .i64 ((gi tL (n_1 - 1)).2)]) ta_52 hLT rfl ho_3 rfl) ?_
     refine HA.val (k := 15) (v := .agg #[.int .i64 ((gi tL n_1).1), .int .i64 ((gi tL n_1).2)]) rfl rfl (by kernel_rfl) (by kernel_rfl) (wby rfl rfl c_3) rfl (fun _ ⟨hLT, c355, c353⟩ => q_loadAgg (cs := [.int .i64 ((gi tL n_1).1), .int .i64 ((gi tL n_1).2)]) ta_52 rfl rfl (Blk.cells (k := 2) c355 rfl)) ?_
     refine HA.one (k := 16) ⟨⟨hLT.is, (hS.box 0 rfl), (hS.box 1 rfl)⟩, (Go.Wk.at_nil _ _)⟩ (by kernel_rfl) ?_
     refine HS.call rfl (wby rfl rfl c_3) rfl (ec en_92 rfl rfl) (tree_order_walk (fr := (Ow.box b_2 52 #[.int .i64 ((gi tL n_1).1), .int .i64 ((gi tL n_1).2)] :: Ow.box b_1 31 #[.int .i64 tR, vT] :: Ow.map r_2 kI kI into_1 :: fr)) (gi tL (n_1 - 1)) (gi tL n_1) hS hM) ?_
     rintro _ h_6 ⟨F_2, r_3, rfl, hk, hS, hM⟩
     replace hK := hK.trans hk
     replace hLT := hLT.kp hk
     refine HA.val (k := 17) (v := .bool (decide (0 ≤ r_3))) rfl rfl (by kernel_rfl) (by kernel_rfl) (wby rfl rfl c_3) rfl (fun _ ⟨hLT, c355, c353⟩ => q_geq rfl rfl) ?_
     refine HA.val (k := 18) (v := .bool (decide (0 ≤ r_3))) rfl rfl (by kernel_rfl) (by kernel_rfl) (wby rfl rfl c_2) rfl (fun _ ⟨hLT, c355, c353⟩ => q_pickK true rfl c_3 rfl) ?_
     refine HA.val (k := 19) (v := .bool (decide (0 ≤ r_3))) rfl rfl (by kernel_rfl) (by kernel_rfl) (wn) rfl (fun _ ⟨hLT, c355, c353⟩ => q_pickK false rfl c_2 rfl) ?_
     refine HA.nil ⟨⟨hLT.is, (hS.box 0 rfl), (hS.box 1 rfl)⟩, (Go.Wk.at_nil _ _)⟩ (by kernel_rfl) (tqn (?_))
     replace hS : St F_2 (Ow.box b_1 31 #[.int .i64 tR, vT] :: Ow.map r_2 kI kI into_1 :: Ow.box b_2 52 #[.int .i64 ((gi tL n_1).1), .int .i64 ((gi tL n_1).2)] :: fr) h_6 := hS.perm2 [1, 2, 0] 3 rfl rfl
     exact ⟨F_2, decide (0 ≤ r_3), rfl, rfl, rfl, rfl, rfl, rfl, rfl, rfl, hK, hS, hLT, hM⟩
    ·
     replace hM := hM.2 (of_decide_eq_false c_3)
     refine HA.past (k := 9) rfl rfl (by kernel_rfl) (by kernel_rfl) (pby rfl rfl c_3) rfl ?_
     refine HA.past (k := 10) rfl rfl (by kernel_rfl) (by kernel_rfl) (pby rfl rfl c_3) rfl ?_
     refine HA.past (k := 11) rfl rfl (by kernel_rfl) (by kernel_rfl) (pby rfl rfl c_3) rfl ?_
     refine HA.past (k := 12) rfl rfl (by kernel_rfl) (by kernel_rfl) (pby rfl rfl c_3) rfl ?_
     refine HA.past (k := 13) rfl rfl (by kernel_rfl) (by kernel_rfl) (pby rfl rfl c_3) rfl ?_
     refine HA.past (k := 14) rfl rfl (by kernel_rfl) (by kernel_rfl) (pby rfl rfl c_3) rfl ?_
     refine HA.past (k := 15) rfl rfl (by kernel_rfl) (by kernel_rfl) (pby rfl rfl c_3) rfl ?_
     refine HA.one (k := 16) ⟨⟨hLT.is, (hS.box 0 rfl), (hS.box 1 rfl)⟩, (Go.Wk.at_nil _ _)⟩ (by kernel_rfl) ?_
     refine HS.past rfl (pby rfl rfl c_3) rfl ?_
     refine HA.past (k := 17) rfl rfl (by kernel_rfl) (by kernel_rfl) (pby rfl rfl c_3) rfl ?_
     refine HA.val (k := 18) (v := .bool false) rfl rfl (by kernel_rfl) (by kernel_rfl) (wby rfl rfl c_2) rfl (fun _ ⟨hLT, c355, c353⟩ => q_pickK false rfl c_3 rfl) ?_
     refine HA.val (k := 19) (v := .bool false) rfl rfl (by kernel_rfl) (by kernel_rfl) (wn) rfl (fun _ ⟨hLT, c355, c353⟩ => q_pickK false rfl c_2 rfl) ?_
     refine HA.nil ⟨⟨hLT.is, (hS.box 0 rfl), (hS.box 1 rfl)⟩, (Go.Wk.at_nil _ _)⟩ (by kernel_rfl) (tqn (?_))
     replace hS : St F_1 (Ow.box b_1 31 #[.int .i64 tR, vT] :: Ow.map r_2 kI kI into_1 :: Ow.box b_2 52 #[.int .i64 ((gi tL n_1).1), .int .i64 ((gi tL n_1).2)] :: fr) h_5 := hS.perm2 [1, 2, 0] 3 rfl rfl
     exact ⟨F_1, false, rfl, rfl, rfl, rfl, rfl, rfl, rfl, rfl, hK, hS, hLT, hM⟩
  ·
   rintro f_2 h_7 ⟨F_3, b_3, e1, e2, e3, e5, e8, e9, e10, e34, hK, hS, hLT, hM⟩
   unfold tree_good_j1 at hM
   refine HW.fr [(1, .pointer (some ⟨b_1, 0, none⟩)), (2, .bool false), (3, .map (some r_2)), (5, .pointer (some ⟨b_2, 0, none⟩)), (8, vT), (9, .int .i64 (tL.length : Int)), (10, .int .i64 n_1), (34, .bool b_3)] ⟨e1, e2, e3, e5, e8, e9, e10, e34, trivial⟩ ?_
   refine HW.cond b_3 rfl (fun c_4 => ?_) (fun c_4 => ?_)
   ·
    replace hM := hM.1 c_4
    refine HW.seq ?_
    refine HW.region ?_
    refine oA (.bool false) rfl rfl ?_
    refine HO.nil (tqn (?_))
    refine HW.ret (thenQ_ret (blockQ_ret (thenQ_ret (thenQ_ret (blockQ_ret (thenQ_ret (?_)))))))
    refine ⟨.inr rfl, .bool false, res1 rfl (rt rfl), ?_⟩
    replace hS : St F_3 (fr) h_7 := hS.perm2 [] 3 rfl rfl
    exact ⟨F_3, false, rfl, hK, hS, hLT, hM⟩
   ·
    replace hM := hM.2 c_4
    refine HW.skip (tqn (?_))
    refine HW.region ?_
    refine oM (.map (some r_2)) rfl rfl ?_
    refine oV (.pointer (some ⟨b_2, 1, none⟩)) (qfA fa_52_1 rfl rfl) rfl ?_
    refine oV (.int .i64 ((gi tL n_1).2)) (q_load to_3 rfl (Blk.cell (hS.box 2 rfl) rfl)) rfl ?_
    refine oV (.int .i64 (mget0 into_1 ((gi tL n_1).2))) ((q_lookup (k := (gi tL n_1).2) ka_3 tmk_94 (hS.mp 1 rfl) rfl rfl).of_eq (mval0 (z := .int .i64 0) rfl)) rfl ?_
    obtain ⟨ho_4, hM⟩ := hM
    refine oV (.int .i64 ((mget0 into_1 ((gi tL n_1).2)) + 1)) (q_addN _ rfl rfl rfl ho_4.1 ho_4.2) rfl ?_
    refine HO.sto (wn) rfl (st_mapUpdateK (k := (gi tL n_1).2) (v := (mget0 into_1 ((gi tL n_1).2)) + 1) hS (i := 1) rfl ka_3 tmk_94 rfl rfl rfl) ?_
    rintro h_8 ⟨hS, hk⟩
    replace hK := hK.trans hk
    replace hLT := hLT.kp hk
    refine HO.nil (blockQ_normal (tqn (?_)))
    refine HW.region ?_
    obtain ⟨ho_5, hM⟩ := hM
    refine oV (.int .i64 (n_1 + 1)) (q_addN _ rfl rfl rfl ho_5.1 ho_5.2) rfl ?_
    refine oM (.int .i64 (n_1 + 1)) rfl rfl ?_
    refine HO.nil (tqn (?_))
    replace hS : St F_3 (Ow.box b_1 31 #[.int .i64 tR, vT] :: Ow.map r_2 kI kI (mset into_1 ((gi tL n_1).2) ((mget0 into_1 ((gi tL n_1).2)) + 1)) :: fr) h_8 := hS.perm2 [0, 1] 3 rfl rfl
    rw [hKe_1] at hM
    exact ⟨(mset into_1 ((gi tL n_1).2) ((mget0 into_1 ((gi tL n_1).2)) + 1), n_1 + 1), ⟨F_3, rfl, rfl, rfl, rfl, rfl, rfl, hK, hS, hLT, hM.1⟩, hM.2⟩
 ·
  replace hM := hM.2 (of_decide_eq_false c_1)
  refine HW.exit (thenQ_exit (thenQ_exit (blockQ_exit (tqn (?_)))))
  refine HW.seq ?_
  refine HW.regionA 25 mixed (fun h => (SliceIs h 2 eB vT tL) ∧ (Blk h b_1 (.cells #[.int .i64 tR, vT] 31 (0, 0))) ∧ (MapIs h r_2 kI kI into_1)) [] (by kernel_rfl) ?_
  refine HA.val (k := 0) (v := .pointer (some ⟨b_1, 1, none⟩)) rfl rfl (by kernel_rfl) (by kernel_rfl) (wn) rfl (fun _ ⟨hLT, c353, c354⟩ => qfA fa_31_1 rfl rfl) ?_
  refine HA.val (k := 1) (v := vT) rfl rfl (by kernel_rfl) (by kernel_rfl) (wn) rfl (fun _ ⟨hLT, c353, c354⟩ => q_load to_29 rfl (Blk.cell c353 rfl)) ?_
  refine HA.val (k := 2) (v := .int .i64 (tL.length : Int)) rfl rfl (by kernel_rfl) (by kernel_rfl) (wn) rfl (fun _ ⟨hLT, c353, c354⟩ => q_len ts_29 (shp hLT) rfl rfl) ?_
  refine HA.val (k := 3) (v := .bool (decide ((tL.length : Int) < 256))) rfl rfl (by kernel_rfl) (by kernel_rfl) (wn) rfl (fun _ ⟨hLT, c353, c354⟩ => q_lss rfl rfl) ?_
  refine HA.val (k := 4) (v := .bool (decide ((tL.length : Int) < 256))) rfl rfl (by kernel_rfl) (by kernel_rfl) (wn) rfl (fun _ ⟨hLT, c353, c354⟩ => q_move rfl) ?_
  rcases Bool.eq_false_or_eq_true (decide ((tL.length : Int) < 256)) with c_5 | c_5
  ·
   replace hM := hM.1 (of_decide_eq_true c_5)
   refine HA.val (k := 5) (v := .map (some r_2)) rfl rfl (by kernel_rfl) (by kernel_rfl) (wby rfl rfl c_5) rfl (fun _ ⟨hLT, c353, c354⟩ => q_move rfl) ?_
   refine HA.val (k := 6) (v := .int .i64 (into_1.length : Int)) rfl rfl (by kernel_rfl) (by kernel_rfl) (wby rfl rfl c_5) rfl (fun _ ⟨hLT, c353, c354⟩ => q_lenMap Tryz.underlying94 c354 rfl rfl) ?_
   refine HA.val (k := 7) (v := .pointer (some ⟨b_1, 1, none⟩)) rfl rfl (by kernel_rfl) (by kernel_rfl) (wby rfl rfl c_5) rfl (fun _ ⟨hLT, c353, c354⟩ => qfA fa_31_1 rfl rfl) ?_
   refine HA.val (k := 8) (v := vT) rfl rfl (by kernel_rfl) (by kernel_rfl) (wby rfl rfl c_5) rfl (fun _ ⟨hLT, c353, c354⟩ => q_load to_29 rfl (Blk.cell c353 rfl)) ?_
   refine HA.val (k := 9) (v := .int .i64 (tL.length : Int)) rfl rfl (by kernel_rfl) (by kernel_rfl) (wby rfl rfl c_5) rfl (fun _ ⟨hLT, c353, c354⟩ => q_len ts_29 (shp hLT) rfl rfl) ?_
   refine HA.val (k := 10) (v := .bool (decide ((into_1.length : Int) = (tL.length : Int)))) rfl rfl (by kernel_rfl) (by kernel_rfl) (wby rfl rfl c_5) rfl (fun _ ⟨hLT, c353, c354⟩ => q_eql rfl rfl) ?_
   refine HA.val (k := 11) (v := .bool (decide ((into_1.length : Int) = (tL.length : Int)))) rfl rfl (by kernel_rfl) (by kernel_rfl) (wn) rfl (fun _ ⟨hLT, c353, c354⟩ => q_pickK true rfl c_5 rfl) ?_
   refine HA.val (k := 12) (v := .bool (decide ((into_1.length : Int) = (tL.length : Int)))) rfl rfl (by kernel_rfl) (by kernel_rfl) (wn) rfl (fun _ ⟨hLT, c353, c354⟩ => q_move rfl) ?_
   rcases Bool.eq_false_or_eq_true (decide ((into_1.length : Int) = (tL.length : Int))) with c_6 | c_6
   ·
    replace hM := hM.1 (of_decide_eq_true c_6)
    refine HA.val (k := 13) (v := .agg #[.int .i64 tR, vT]) rfl rfl (by kernel_rfl) (by kernel_rfl) (wby rfl rfl c_6) rfl (fun _ ⟨hLT, c353, c354⟩ => q_loadAgg (cs := [.int .i64 tR, vT]) ta_31 rfl rfl (Blk.cells (k := 2) c353 rfl)) ?_
    refine HA.val (k := 14) (v := .pointer (some ⟨b_1, 0, none⟩)) rfl rfl (by kernel_rfl) (by kernel_rfl) (wby rfl rfl c_6) rfl (fun _ ⟨hLT, c353, c354⟩ => qfA fa_31_0 rfl rfl) ?_
    refine HA.val (k := 15) (v := .int .i64 tR) rfl rfl (by kernel_rfl) (by kernel_rfl) (wby rfl rfl c_6) rfl (fun _ ⟨hLT, c353, c354⟩ => q_load to_3 rfl (Blk.cell c353 rfl)) ?_
    refine HA.val (k := 18) (v := .pointer (some ⟨b_1, 1, none⟩)) rfl rfl (by kernel_rfl) (by kernel_rfl) (wby rfl rfl c_6) rfl (fun _ ⟨hLT, c353, c354⟩ => qfA fa_31_1 rfl rfl) ?_
    refine HA.val (k := 19) (v := vT) rfl rfl (by kernel_rfl) (by kernel_rfl) (wby rfl rfl c_6) rfl (fun _ ⟨hLT, c353, c354⟩ => q_load to_29 rfl (Blk.cell c353 rfl)) ?_
    refine HA.val (k := 20) (v := .int .i64 (tL.length : Int)) rfl rfl (by kernel_rfl) (by kernel_rfl) (wby rfl rfl c_6) rfl (fun _ ⟨hLT, c353, c354⟩ => q_len ts_29 (shp hLT) rfl rfl) ?_
    obtain ⟨ho_6, hM⟩ := hM
    refine HA.val (k := 21) (v := .int .i64 ((tL.length : Int) + 1)) rfl rfl (by kernel_rfl) (by kernel_rfl) (wby rfl rfl c_6) rfl (fun _ ⟨hLT, c353, c354⟩ => q_addN _ rfl rfl rfl ho_6.1 ho_6.2) ?_
    refine HA.one (k := 16) ⟨⟨hLT.is, (hS.box 0 rfl), (hS.mp 1 rfl)⟩, (Go.Wk.at_nil _ _)⟩ (by kernel_rfl) ?_
    refine HS.call rfl (wby rfl rfl c_6) rfl (ec en_78 rfl rfl) (tree_walk_walk (fr := (Ow.box b_1 31 #[.int .i64 tR, vT] :: Ow.map r_2 kI kI into_1 :: fr)) tR tL tR vT hS hLT hM) ?_
    rintro vr_1 h_9 ⟨F_4, r_4, _, rfl, hk, hS, _, hM⟩
    replace hK := hK.trans hk
    replace hLT := hLT.kp hk
    refine Go.Wk.HA.re (fun h => (SliceIs h 2 eB vT tL) ∧ (OwnIs h 0 3 1 encI vr_1 r_4) ∧ (Blk h b_1 (.cells #[.int .i64 tR, vT] 31 (0, 0))) ∧ (MapIs h r_2 kI kI into_1)) [] (fun L_ h_ hL_ ⟨hLT, c451, c353, c354⟩ hs_ => ⟨⟨hLT, c353, c354⟩, (Go.Wk.at_nil _ _)⟩) ?_
    refine HA.val (k := 17) (v := .int .i64 (r_4.length : Int)) rfl rfl (by kernel_rfl) (by kernel_rfl) (wby rfl rfl c_6) rfl (fun _ ⟨hLT, c451, c353, c354⟩ => q_len ts_22 (shp c451.slice) rfl rfl) ?_
    refine HA.val (k := 22) (v := .bool (decide ((r_4.length : Int) = ((tL.length : Int) + 1)))) rfl rfl (by kernel_rfl) (by kernel_rfl) (wby rfl rfl c_6) rfl (fun _ ⟨hLT, c451, c353, c354⟩ => q_eql rfl rfl) ?_
    refine HA.val (k := 23) (v := .bool (decide ((r_4.length : Int) = ((tL.length : Int) + 1)))) rfl rfl (by kernel_rfl) (by kernel_rfl) (wn) rfl (fun _ ⟨hLT, c451, c353, c354⟩ => q_pickK true rfl c_6 rfl) ?_
    refine HA.val (k := 24) (v := .bool (decide ((r_4.length : Int) = ((tL.length : Int) + 1)))) rfl rfl (by kernel_rfl) (by kernel_rfl) (wn) rfl (fun _ ⟨hLT, c451, c353, c354⟩ => q_assign rfl) ?_
    refine HA.nil ⟨⟨hLT.is, (hS.own 0 rfl), (hS.box 1 rfl), (hS.mp 2 rfl)⟩, (Go.Wk.at_nil _ _)⟩ (by kernel_rfl) (tqn (?_))
    refine HW.ret (?_)
    refine ⟨.inr rfl, .bool (decide ((r_4.length : Int) = ((tL.length : Int) + 1))), res1 rfl (rt rfl), ?_⟩
    replace hS : St F_4 (fr) h_9 := hS.perm2 [] 3 rfl rfl
    exact ⟨F_4, decide ((r_4.length : Int) = ((tL.length : Int) + 1)), rfl, hK, hS, hLT, hM⟩
   ·
    replace hM := hM.2 (of_decide_eq_false c_6)
    refine HA.past (k := 13) rfl rfl (by kernel_rfl) (by kernel_rfl) (pby rfl rfl c_6) rfl ?_
    refine HA.past (k := 14) rfl rfl (by kernel_rfl) (by kernel_rfl) (pby rfl rfl c_6) rfl ?_
    refine HA.past (k := 15) rfl rfl (by kernel_rfl) (by kernel_rfl) (pby rfl rfl c_6) rfl ?_
    refine HA.past (k := 18) rfl rfl (by kernel_rfl) (by kernel_rfl) (pby rfl rfl c_6) rfl ?_
    refine HA.past (k := 19) rfl rfl (by kernel_rfl) (by kernel_rfl) (pby rfl rfl c_6) rfl ?_
    refine HA.past (k := 20) rfl rfl (by kernel_rfl) (by kernel_rfl) (pby rfl rfl c_6) rfl ?_
    refine HA.past (k := 21) rfl rfl (by kernel_rfl) (by kernel_rfl) (pby rfl rfl c_6) rfl ?_
    refine HA.one (k := 16) ⟨⟨hLT.is, (hS.box 0 rfl), (hS.mp 1 rfl)⟩, (Go.Wk.at_nil _ _)⟩ (by kernel_rfl) ?_
    refine HS.past rfl (pby rfl rfl c_6) rfl ?_
    refine HA.past (k := 17) rfl rfl (by kernel_rfl) (by kernel_rfl) (pby rfl rfl c_6) rfl ?_
    refine HA.past (k := 22) rfl rfl (by kernel_rfl) (by kernel_rfl) (pby rfl rfl c_6) rfl ?_
    refine HA.val (k := 23) (v := .bool false) rfl rfl (by kernel_rfl) (by kernel_rfl) (wn) rfl (fun _ ⟨hLT, c353, c354⟩ => q_pickK false rfl c_6 rfl) ?_
    refine HA.val (k := 24) (v := .bool false) rfl rfl (by kernel_rfl) (by kernel_rfl) (wn) rfl (fun _ ⟨hLT, c353, c354⟩ => q_assign rfl) ?_
    refine HA.nil ⟨⟨hLT.is, (hS.box 0 rfl), (hS.mp 1 rfl)⟩, (Go.Wk.at_nil _ _)⟩ (by kernel_rfl) (tqn (?_))
    refine HW.ret (?_)
    refine ⟨.inr rfl, .bool false, res1 rfl (rt rfl), ?_⟩
    replace hS : St F_1 (fr) h_3 := hS.perm2 [] 2 rfl rfl
    exact ⟨F_1, false, rfl, hK, hS, hLT, hM⟩
  ·
   replace hM := hM.2 (of_decide_eq_false c_5)
   refine HA.past (k := 5) rfl rfl (by kernel_rfl) (by kernel_rfl) (pby rfl rfl c_5) rfl ?_
   refine HA.past (k := 6) rfl rfl (by kernel_rfl) (by kernel_rfl) (pby rfl rfl c_5) rfl ?_
   refine HA.past (k := 7) rfl rfl (by kernel_rfl) (by kernel_rfl) (pby rfl rfl c_5) rfl ?_
   refine HA.past (k := 8) rfl rfl (by kernel_rfl) (by kernel_rfl) (pby rfl rfl c_5) rfl ?_
   refine HA.past (k := 9) rfl rfl (by kernel_rfl) (by kernel_rfl) (pby rfl rfl c_5) rfl ?_
   refine HA.past (k := 10) rfl rfl (by kernel_rfl) (by kernel_rfl) (pby rfl rfl c_5) rfl ?_
   refine HA.val (k := 11) (v := .bool false) rfl rfl (by kernel_rfl) (by kernel_rfl) (wn) rfl (fun _ ⟨hLT, c353, c354⟩ => q_pickK false rfl c_5 rfl) ?_
   refine HA.val (k := 12) (v := .bool false) rfl rfl (by kernel_rfl) (by kernel_rfl) (wn) rfl (fun _ ⟨hLT, c353, c354⟩ => q_move rfl) ?_
   refine HA.past (k := 13) rfl rfl (by kernel_rfl) (by kernel_rfl) (past_some rfl rfl) rfl ?_
   refine HA.past (k := 14) rfl rfl (by kernel_rfl) (by kernel_rfl) (past_some rfl rfl) rfl ?_
   refine HA.past (k := 15) rfl rfl (by kernel_rfl) (by kernel_rfl) (past_some rfl rfl) rfl ?_
   refine HA.past (k := 18) rfl rfl (by kernel_rfl) (by kernel_rfl) (past_some rfl rfl) rfl ?_
   refine HA.past (k := 19) rfl rfl (by kernel_rfl) (by kernel_rfl) (past_some rfl rfl) rfl ?_
   refine HA.past (k := 20) rfl rfl (by kernel_rfl) (by kernel_rfl) (past_some rfl rfl) rfl ?_
   refine HA.past (k := 21) rfl rfl (by kernel_rfl) (by kernel_rfl) (past_some rfl rfl) rfl ?_
   refine HA.one (k := 16) ⟨⟨hLT.is, (hS.box 0 rfl), (hS.mp 1 rfl)⟩, (Go.Wk.at_nil _ _)⟩ (by kernel_rfl) ?_
   refine HS.past rfl (past_some rfl rfl) rfl ?_
   refine HA.past (k := 17) rfl rfl (by kernel_rfl) (by kernel_rfl) (past_some rfl rfl) rfl ?_
   refine HA.past (k := 22) rfl rfl (by kernel_rfl) (by kernel_rfl) (past_some rfl rfl) rfl ?_
   refine HA.val (k := 23) (v := .bool false) rfl rfl (by kernel_rfl) (by kernel_rfl) (wn) rfl (fun _ ⟨hLT, c353, c354⟩ => q_pick rfl rfl) ?_
   refine HA.val (k := 24) (v := .bool false) rfl rfl (by kernel_rfl) (by kernel_rfl) (wn) rfl (fun _ ⟨hLT, c353, c354⟩ => q_assign rfl) ?_
   refine HA.nil ⟨⟨hLT.is, (hS.box 0 rfl), (hS.mp 1 rfl)⟩, (Go.Wk.at_nil _ _)⟩ (by kernel_rfl) (tqn (?_))
   refine HW.ret (?_)
   refine ⟨.inr rfl, .bool false, res1 rfl (rt rfl), ?_⟩
   replace hS : St F_1 (fr) h_3 := hS.perm2 [] 2 rfl rfl
   exact ⟨F_1, false, rfl, hK, hS, hLT, hM⟩
def tree_Of_W (root : Int) (l : List TB) (Q : Int → (List TB) → Int → Prop) : Prop :=
 (256 ≤ (l.length : Int) → Q 0 [] 6) ∧ (¬ (256 ≤ (l.length : Int)) → ∃ cf_1 : TB → TB → Int, (∀ x0 x1, tree_order_W x0 x1 (fun r => r = cf_1 x0 x1)) ∧ (slices_SortedFunc_api_Branch_W l cf_1 (fun r_1 => tree_good_W root r_1 (fun r_2 => ((!r_2) = true → Q 0 [] 2) ∧ ((!r_2) = false → Q root r_1 0)))))
theorem tree_Of_walk {F : Fz} {fr : List Ow} {h0 : Heap} (root : Int) (l : List TB) (vl : Value) (hS : St F (fr) h0) (hL_l : SliceF F h0 2 eB vl l) {Q : Int → (List TB) → Int → Prop} (hM : tree_Of_W root l Q) :
  HC Tryz.prog 74 #[.int .i64 root, vl] h0 fun u h' => ∃ (F' : Fz) (r0_0_1 : Int) (r0_1_1 : List TB) (r1_1 : Int) (vr0_1_1 : Value), u = .tuple #[.agg #[.int .i64 r0_0_1, vr0_1_1], .int .i64 r1_1] ∧ Kp F h0 F' h' ∧ St F' (Ow.own 52 2 eB vr0_1_1 r0_1_1 :: fr) h' ∧ (SliceF F' h' 2 eB vl l) ∧ Q r0_0_1 r0_1_1 r1_1 := by
 unfold tree_Of_W at hM
 have hK := Kp.refl F h0
 refine HC.of_HW (n := 21) Tryz.func74 rfl rfl (Nat.le_of_ble_eq_true rfl) ?_
 refine HW.seq ?_
 refine HW.region ?_
 refine HO.eff (wn) rfl (st_alloc (c := #[.int .i64 0, .slice none 0 0]) hS tz_31 rfl) ?_
 rintro _ h_1 ⟨b_1, rfl, hS, hk⟩
 replace hK := hK.trans hk
 replace hL_l := hL_l.kp hk
 refine oA (.int .i64 0) rfl rfl ?_
 refine HO.nil (tqn (?_))
 refine HW.seq ?_
 refine HW.seq ?_
 refine HW.region ?_
 refine oM (vl) rfl rfl ?_
 refine oV (.int .i64 (l.length : Int)) (q_len ts_29 (shp hL_l.is) rfl rfl) rfl ?_
 refine oV (.bool (decide (256 ≤ (l.length : Int)))) (q_geq rfl rfl) rfl ?_
 refine HO.nil (tqn (?_))
 refine HW.cond (decide (256 ≤ (l.length : Int))) rfl (fun c_1 => ?_) (fun c_1 => ?_)
 ·
  replace hM := hM.1 (of_decide_eq_true c_1)
  refine HW.seq ?_
  refine HW.region ?_
  refine oV (.agg #[.int .i64 0, .slice none 0 0]) (q_build tp_31 rfl) rfl ?_
  refine HO.sto (wn) rfl (st_storeAgg (c' := #[.int .i64 0, .slice none 0 0]) hS (i := 0) rfl ta_31 rfl rfl rfl (by simp [Value.oneCell']) (Nat.le_of_ble_eq_true rfl) rfl) ?_
  rintro h_2 ⟨hS, hk⟩
  replace hK := hK.trans hk
  replace hL_l := hL_l.kp hk
  refine oA (.int .i64 6) rfl rfl ?_
  refine HO.nil (tqn (?_))
  refine HW.ret (thenQ_ret (?_))
  refine ⟨.inr rfl, .tuple #[.agg #[.int .i64 0, .slice none 0 0], .int .i64 6], res2 rfl (rca (cs := [.int .i64 0, .slice none 0 0]) ta_31 rfl rfl (Blk.cells (k := 2) (hS.box 0 rfl) rfl)) (rt rfl), ?_⟩
  replace hS := hS.nilOwn 52 2 eB
  replace hS : St F (Ow.own 52 2 eB (.slice none 0 0) ([] : List TB) :: fr) h_2 := hS.perm2 [0] 2 rfl rfl
  exact ⟨F, 0, [], 6, .slice none 0 0, rfl, hK, hS, hL_l, hM⟩
 ·
  replace hM := hM.2 (of_decide_eq_false c_1)
  refine HW.skip (tqn (?_))
  refine HW.seq ?_
  refine HW.region ?_
  refine oM (.int .i64 root) rfl rfl ?_
  refine oM (vl) rfl rfl ?_
  refine HO.call (wn) rfl (ec en_91 rfl rfl) (values_hc Tryz.func91 rfl rfl rfl (shp hL_l.is).cells hS) ?_
  rintro _ h_3 ⟨b_2, rfl, hS, hk⟩
  replace hK := hK.trans hk
  replace hL_l := hL_l.kp hk
  obtain ⟨cf_1, hc_1, hM⟩ := hM
  have hF_1 : FnP Tryz.prog F h_3 92 #[] #[] (fun x : TB × TB => [.agg #[.int .i64 x.1.1, .int .i64 x.1.2], .agg #[.int .i64 x.2.1, .int .i64 x.2.2]]) (fun x => .int .i64 (cf_1 x.1 x.2)) := FnP.of en_92 (fun x h' hk_ => @HC.mono ⟨true⟩ _ _ _ _ _ _ (@tree_order_walk ⟨true⟩ (allF h') [] h' x.1 x.2  (St.init h')  (fun r => r = cf_1 x.1 x.2) (hc_1 x.1 x.2)) (fun u h'' ⟨F', r, hu, k_, _, hr⟩ => ⟨by rw [hu, hr], F', k_⟩))
  replace hS : St F (Ow.box b_2 29 #[vl] :: Ow.box b_1 31 #[.int .i64 0, .slice none 0 0] :: fr) h_3 := hS
  have hZ_1 := hS
  have hkz_1 := (hS.freeze).2
  replace hS := hS.freeze.1
  have hL_1 := hZ_1.lent
  refine HO.call (wn) rfl (ec en_90 rfl rfl) (slices_SortedFunc_api_Branch_walk (fr := (Ow.box b_1 31 #[.int .i64 0, .slice none 0 0] :: fr)) l cf_1 b_2 vl 92 (#[]) hS (hL_l.kp hkz_1) hL_1 (hF_1.kp hkz_1) hM) ?_
  rintro vr_1 h_4 ⟨F_1, r_1, _, rfl, hk, hS, _, _, _, hM⟩
  obtain ⟨hS, hk⟩ := hZ_1.back hk hS
  generalize (fun bz_ => F_1 bz_ ∧ ¬ (Ow.box b_2 29 #[vl]).foot bz_) = F_2 at hS hk
  replace hK := hK.trans hk
  replace hL_l := hL_l.kp hk
  refine oV (.agg #[.int .i64 root, vr_1]) (q_build tp_31 (fill_cons (cs' := #[.int .i64 root, .slice none 0 0]) (vc := #[.int .i64 root]) rfl rfl rfl (Nat.le_of_ble_eq_true rfl) rfl (fill_cons (cs' := #[.int .i64 root, vr_1]) (vc := #[vr_1]) rfl (shp (hS.own 1 rfl).slice).cells rfl (Nat.le_of_ble_eq_true rfl) rfl rfl))) rfl ?_
  refine HO.eff (wn) rfl (st_alloc (c := #[.int .i64 0, .slice none 0 0]) hS tz_31 rfl) ?_
  rintro _ h_5 ⟨b_3, rfl, hS, hk⟩
  replace hK := hK.trans hk
  replace hL_l := hL_l.kp hk
  refine HO.sto (wn) rfl (st_storeAgg (c' := #[.int .i64 root, vr_1]) hS (i := 0) rfl ta_31 rfl rfl rfl (List.forall_mem_cons.2 ⟨rfl, (List.forall_mem_cons.2 ⟨(shp (hS.own 2 rfl).slice).one, (fun _ h => by cases h)⟩)⟩) (Nat.le_of_ble_eq_true rfl) rfl) ?_
  rintro h_6 ⟨hS, hk⟩
  replace hK := hK.trans hk
  replace hL_l := hL_l.kp hk
  refine HO.nil (tqn (?_))
  refine HW.seq ?_
  refine HW.seq ?_
  refine HW.region ?_
  refine oV (.agg #[.int .i64 root, vr_1]) (q_loadAgg (cs := [.int .i64 root, vr_1]) ta_31 rfl rfl (Blk.cells (k := 2) (hS.box 0 rfl) rfl)) rfl ?_
  replace hS : St F_2 (Ow.own 52 2 eB vr_1 r_1 :: Ow.box b_3 31 #[.int .i64 root, vr_1] :: Ow.box b_2 29 #[vl] :: Ow.box b_1 31 #[.int .i64 0, .slice none 0 0] :: fr) h_6 := hS.perm2 [2, 0, 1, 3] 4 rfl rfl
  have hZ_2 := hS
  have hkz_2 := (hS.freeze).2
  replace hS := hS.freeze.1
  have hL_2 : SliceF (fun bz_ => F_2 bz_ ∨ (Ow.own 52 2 eB vr_1 r_1).foot bz_) h_6 2 eB vr_1 r_1 := ⟨(hZ_2.own 0 rfl).slice, fun _ b hb => .inr hb⟩
  refine HO.call (wn) rfl (ec en_93 rfl rfl) (tree_good_walk (fr := (Ow.box b_3 31 #[.int .i64 root, vr_1] :: Ow.box b_2 29 #[vl] :: Ow.box b_1 31 #[.int .i64 0, .slice none 0 0] :: fr)) root r_1 vr_1 hS hL_2 hM) ?_
  rintro _ h_7 ⟨F_3, r_2, rfl, hk, hS, _, hM⟩
  obtain ⟨hS, hk⟩ := hZ_2.back hk hS
  generalize (fun bz_ => F_3 bz_ ∧ ¬ (Ow.own 52 2 eB vr_1 r_1).foot bz_) = F_4 at hS hk
  replace hK := hK.trans hk
  replace hL_l := hL_l.kp hk
  refine oV (.bool (!r_2)) (q_not rfl) rfl ?_
  refine HO.nil (tqn (?_))
  refine HW.cond (!r_2) rfl (fun c_2 => ?_) (fun c_2 => ?_)
  ·
   replace hM := hM.1 c_2
   refine HW.seq ?_
   refine HW.region ?_
   refine oV (.agg #[.int .i64 0, .slice none 0 0]) (q_build tp_31 rfl) rfl ?_
   refine HO.sto (wn) rfl (st_storeAgg (c' := #[.int .i64 0, .slice none 0 0]) hS (i := 3) rfl ta_31 rfl rfl rfl (by simp [Value.oneCell']) (Nat.le_of_ble_eq_true rfl) rfl) ?_
   rintro h_8 ⟨hS, hk⟩
   replace hK := hK.trans hk
   replace hL_l := hL_l.kp hk
   refine oA (.int .i64 2) rfl rfl ?_
   refine HO.nil (tqn (?_))
   refine HW.ret (thenQ_ret (?_))
   refine ⟨.inr rfl, .tuple #[.agg #[.int .i64 0, .slice none 0 0], .int .i64 2], res2 rfl (rca (cs := [.int .i64 0, .slice none 0 0]) ta_31 rfl rfl (Blk.cells (k := 2) (hS.box 3 rfl) rfl)) (rt rfl), ?_⟩
   replace hS := hS.nilOwn 52 2 eB
   replace hS : St F_4 (Ow.own 52 2 eB (.slice none 0 0) ([] : List TB) :: fr) h_8 := hS.perm2 [0] 5 rfl rfl
   exact ⟨F_4, 0, [], 2, .slice none 0 0, rfl, hK, hS, hL_l, hM⟩
  ·
   replace hM := hM.2 c_2
   refine HW.skip (tqn (?_))
   refine HW.seq ?_
   refine HW.region ?_
   refine oV (.agg #[.int .i64 root, vr_1]) (q_loadAgg (cs := [.int .i64 root, vr_1]) ta_31 rfl rfl (Blk.cells (k := 2) (hS.box 1 rfl) rfl)) rfl ?_
   refine HO.sto (wn) rfl (st_storeAgg (c' := #[.int .i64 root, vr_1]) hS (i := 3) rfl ta_31 rfl rfl rfl (List.forall_mem_cons.2 ⟨rfl, (List.forall_mem_cons.2 ⟨(shp (hS.own 0 rfl).slice).one, (fun _ h => by cases h)⟩)⟩) (Nat.le_of_ble_eq_true rfl) rfl) ?_
   rintro h_9 ⟨hS, hk⟩
   replace hK := hK.trans hk
   replace hL_l := hL_l.kp hk
   refine oA (.int .i64 0) rfl rfl ?_
   refine HO.nil (tqn (?_))
   refine HW.ret (?_)
   refine ⟨.inr rfl, .tuple #[.agg #[.int .i64 root, vr_1], .int .i64 0], res2 rfl (rca (cs := [.int .i64 root, vr_1]) ta_31 rfl rfl (Blk.cells (k := 2) (hS.box 3 rfl) rfl)) (rt rfl), ?_⟩
   replace hS : St F_4 (Ow.own 52 2 eB vr_1 r_1 :: fr) h_9 := hS.perm2 [0] 4 rfl rfl
   exact ⟨F_4, root, r_1, 0, vr_1, rfl, hK, hS, hL_l, hM⟩
def plan_Make_l2 (root : Int) (services : List Int) (fan : Int) (Q : Int → (List TB) → Prop) (r0_1 : Int) (r_2 : List Int) (K_1 : (List TB) → Int → Prop) (l_1 : List TB) (n_1 : Int) : Prop :=
 (n_1 < (r_2.length : Int) → ((0 : Int) ≤ n_1 ∧ n_1 < (r_2.length : Int)) ∧ ((fan ≠ 0) ∧ ((I64 (n_1.tdiv fan)) ∧ (((0 : Int) ≤ n_1.tdiv fan ∧ n_1.tdiv fan < ((([root] : List Int) ++ (cut services 0 r0_1)).length : Int)) ∧ (((l_1.length + ([((gi (([root] : List Int) ++ (cut services 0 r0_1)) (n_1.tdiv fan)), (gi r_2 n_1))] : List TB).length) * 16 ≤ 140737488355328) ∧ ((I64 (n_1 + 1)) ∧ (K_1 (l_1 ++ ([((gi (([root] : List Int) ++ (cut services 0 r0_1)) (n_1.tdiv fan)), (gi r_2 n_1))] : List TB)) (n_1 + 1)))))))) ∧ (¬ (n_1 < (r_2.length : Int)) → tree_Of_W root l_1 (fun r0_0_1 r0_1_1 r1_2 => Q r0_0_1 r0_1_1))
def plan_Make_W (root : Int) (members : List Int) (services : List Int) (fan : Int) (Q : Int → (List TB) → Prop) : Prop :=
 plan_fits_W (members.length : Int) (services.length : Int) fan (fun r_1 => ((!r_1) = true → plan_star_W root members (fun r_0_2 r_1_2 => Q r_0_2 r_1_2)) ∧ ((!r_1) = false → plan_need_W (members.length : Int) fan (fun r0_1 r1_1 => ((0 : Int) ≤ r0_1 ∧ r0_1 ≤ (services.length : Int)) ∧ (((([root] : List Int).length + (cut services 0 r0_1).length) * 8 ≤ 140737488355328) ∧ (∀ vs_ : Value, (∀ vmembers : Value, (slices_Concat_s_int_int_W ([(cutV 1 vs_ (0 : Int).toNat (r0_1).toNat, cut services 0 r0_1), (vmembers, members)] : List T_s_int) (fun r_2 => loopW (fun (K_1 : (List TB × Int) → Prop) (s : List TB × Int) => plan_Make_l2 root services fan Q r0_1 r_2 (fun l_1 n_1 => K_1 (l_1, n_1)) s.1 s.2) ([], 0)))))))))
theorem plan_Make_walk {F : Fz} {fr : List Ow} {h0 : Heap} (root : Int) (members : List Int) (services : List Int) (fan : Int) (vmembers : Value) (vs_ : Value) (hS : St F (fr) h0) (hLm : SliceF F h0 1 encI vmembers members) (hLs : SliceF F h0 1 encI vs_ services) (hD : DM.on = false) {Q : Int → (List TB) → Prop} (hM : plan_Make_W root members services fan Q) :
  HC Tryz.prog 46 #[.int .i64 root, vmembers, vs_, .int .i64 fan] h0 fun u h' => ∃ (F' : Fz) (r_0_1 : Int) (r_1_1 : List TB) (vr_1_1 : Value), u = .agg #[.int .i64 r_0_1, vr_1_1] ∧ Kp F h0 F' h' ∧ St F' (Ow.own 52 2 eB vr_1_1 r_1_1 :: fr) h' ∧ (SliceF F' h' 1 encI vmembers members) ∧ (SliceF F' h' 1 encI vs_ services) ∧ Q r_0_1 r_1_1 := by
 unfold plan_Make_W at hM
 have hK := Kp.refl F h0
 refine HC.of_HW (n := 71) Tryz.func46 rfl rfl (Nat.le_of_ble_eq_true rfl) ?_
 refine HW.seq ?_
 refine HW.region ?_
 refine HO.eff (wn) rfl (st_alloc (c := #[.int .i64 0, .slice none 0 0]) hS tz_31 rfl) ?_
 rintro _ h_1 ⟨b_1, rfl, hS, hk⟩
 replace hK := hK.trans hk
 replace hLm := hLm.kp hk
 replace hLs := hLs.kp hk
 refine HO.nil (tqn (?_))
 refine HW.seq ?_
 refine HW.seq ?_
 refine HW.region ?_
 refine oM (vmembers) rfl rfl ?_
 refine oV (.int .i64 (members.length : Int)) (q_len ts_22 (shp hLm.is) rfl rfl) rfl ?_
 refine oM (vs_) rfl rfl ?_
 refine oV (.int .i64 (services.length : Int)) (q_len ts_22 (shp hLs.is) rfl rfl) rfl ?_
 refine oM (.int .i64 fan) rfl rfl ?_
 refine HO.call (wn) rfl (ec en_70 rfl rfl) (plan_fits_walk (fr := (Ow.box b_1 31 #[.int .i64 0, .slice none 0 0] :: fr)) (members.length : Int) (services.length : Int) fan hS hM) ?_
 rintro _ h_2 ⟨F_1, r_1, rfl, hk, hS, hM⟩
 replace hK := hK.trans hk
 replace hLm := hLm.kp hk
 replace hLs := hLs.kp hk
 refine oV (.bool (!r_1)) (q_not rfl) rfl ?_
 refine HO.nil (tqn (?_))
 refine HW.cond (!r_1) rfl (fun c_1 => ?_) (fun c_1 => ?_)
 ·
  replace hM := hM.1 c_1
  refine HW.seq ?_
  refine HW.region ?_
  refine oM (.int .i64 root) rfl rfl ?_
  refine oM (vmembers) rfl rfl ?_
  refine HO.call (wn) rfl (ec en_71 rfl rfl) (plan_star_walk (fr := (Ow.box b_1 31 #[.int .i64 0, .slice none 0 0] :: fr)) root members vmembers hS hLm hM) ?_
  rintro _ h_3 ⟨F_2, r_0_2, r_1_2, vr_1_2, rfl, hk, hS, _, hM⟩
  replace hK := hK.trans hk
  replace hLm := hLm.kp hk
  replace hLs := hLs.kp hk
  refine HO.sto (wn) rfl (st_storeAgg (c' := #[.int .i64 r_0_2, vr_1_2]) hS (i := 1) rfl ta_31 rfl rfl rfl (List.forall_mem_cons.2 ⟨rfl, (List.forall_mem_cons.2 ⟨(shp (hS.own 0 rfl).slice).one, (fun _ h => by cases h)⟩)⟩) (Nat.le_of_ble_eq_true rfl) rfl) ?_
  rintro h_4 ⟨hS, hk⟩
  replace hK := hK.trans hk
  replace hLm := hLm.kp hk
  replace hLs := hLs.kp hk
  refine HO.nil (tqn (?_))
  refine HW.ret (thenQ_ret (?_))
  refine ⟨.inr rfl, .agg #[.int .i64 r_0_2, vr_1_2], res1 rfl (rca (cs := [.int .i64 r_0_2, vr_1_2]) ta_31 rfl rfl (Blk.cells (k := 2) (hS.box 1 rfl) rfl)), ?_⟩
  replace hS : St F_2 (Ow.own 52 2 eB vr_1_2 r_1_2 :: fr) h_4 := hS.perm2 [0] 2 rfl rfl
  exact ⟨F_2, r_0_2, r_1_2, vr_1_2, rfl, hK, hS, hLm, hLs, hM⟩
 ·
  replace hM := hM.2 c_1
  refine HW.skip (tqn (?_))
  refine HW.seq ?_
  refine HW.region ?_
  refine oM (vmembers) rfl rfl ?_
  refine oV (.int .i64 (members.length : Int)) (q_len ts_22 (shp hLm.is) rfl rfl) rfl ?_
  refine oM (.int .i64 fan) rfl rfl ?_
  refine HO.call (wn) rfl (ec en_72 rfl rfl) (plan_need_walk (fr := (Ow.box b_1 31 #[.int .i64 0, .slice none 0 0] :: fr)) (members.length : Int) fan hS hM) ?_
  rintro _ h_5 ⟨F_3, r0_1, r1_1, rfl, hk, hS, hM⟩
  replace hK := hK.trans hk
  replace hLm := hLm.kp hk
  replace hLs := hLs.kp hk
  refine oM (.tuple #[.int .i64 r0_1, .bool r1_1]) rfl rfl ?_
  refine oV (.int .i64 r0_1) (q_extract rfl rfl) rfl ?_
  refine oV (.bool r1_1) (q_extract rfl rfl) rfl ?_
  refine oA (.int .i64 r0_1) rfl rfl ?_
  refine oA (.bool r1_1) rfl rfl ?_
  refine HO.nil (tqn (?_))
  refine HW.seq ?_
  refine HW.region ?_
  refine oM (.int .i64 root) rfl rfl ?_
  refine HO.eff (wn) rfl (st_lit (enc := encI) (cells := #[.int .i64 root]) #[.int .i64 0] ([root] : List Int) hS tl_22 (by decide) (by decide) (by kernel_rfl) (by kernel_rfl) rfl (by intro x hx; rfl) rfl) ?_
  rintro _ h_6 ⟨b_2, rfl, hS, hk⟩
  replace hK := hK.trans hk
  replace hLm := hLm.kp hk
  replace hLs := hLs.kp hk
  refine oM (vs_) rfl rfl ?_
  refine oM (.int .i64 r0_1) rfl rfl ?_
  obtain ⟨ho_1, hM⟩ := hM
  refine oV (cutV 1 vs_ (0 : Int).toNat (r0_1).toNat) (q_slH ts_22 hLs.is rfl rfl ho_1) rfl ?_
  obtain ⟨ho_2, hM⟩ := hM
  refine HO.eff (wn) rfl (st_append te_22 hS (i := 0) rfl (cutIs hLs.is 0 r0_1 (Int.le_refl _) ho_1.1 ho_1.2) rfl rfl rfl (by intro a _ u hu; simp [encI, encI, encN, encB, encT] at hu; subst hu; rfl) ho_2 (by omega)) ?_
  rintro v_1 h_7 ⟨hS, hk⟩
  replace hK := hK.trans hk
  replace hLm := hLm.kp hk
  replace hLs := hLs.kp hk
  refine oA (v_1) rfl rfl ?_
  refine HO.nil (tqn (?_))
  refine HW.seq ?_
  refine HW.region ?_
  refine oA (.slice none 0 0) rfl rfl ?_
  refine HO.nil (tqn (?_))
  refine HW.seq ?_
  refine HW.seq ?_
  refine HW.region ?_
  refine oM (vs_) rfl rfl ?_
  refine oM (.int .i64 r0_1) rfl rfl ?_
  refine oV (cutV 1 vs_ (0 : Int).toNat (r0_1).toNat) (q_slH ts_22 hLs.is rfl rfl ho_1) rfl ?_
  refine oM (vmembers) rfl rfl ?_
  replace hM := hM vs_
  replace hM := hM vmembers
  refine HO.eff (wn) rfl (st_lit (enc := e_s_int) (cells := #[cutV 1 vs_ (0 : Int).toNat (r0_1).toNat, vmembers]) #[.slice none 0 0, .slice none 0 0] ([(cutV 1 vs_ (0 : Int).toNat (r0_1).toNat, cut services 0 r0_1), (vmembers, members)] : List T_s_int) hS tl_87 (by decide) (by decide) (by kernel_rfl) (fill_cons (cs' := #[cutV 1 vs_ (0 : Int).toNat (r0_1).toNat, .slice none 0 0]) (vc := #[cutV 1 vs_ (0 : Int).toNat (r0_1).toNat]) rfl (shp (cutIs hLs.is 0 r0_1 (Int.le_refl _) ho_1.1 ho_1.2)).cells rfl (Nat.le_of_ble_eq_true rfl) rfl (fill_cons (cs' := #[cutV 1 vs_ (0 : Int).toNat (r0_1).toNat, vmembers]) (vc := #[vmembers]) rfl (shp hLm.is).cells rfl (Nat.le_of_ble_eq_true rfl) rfl rfl)) rfl (by intro x hx; rfl) rfl) ?_
  rintro _ h_8 ⟨b_3, rfl, hS, hk⟩
  replace hK := hK.trans hk
  replace hLm := hLm.kp hk
  replace hLs := hLs.kp hk
  have hN_1 : NfL nf_s_int F_3 h_8 ([(cutV 1 vs_ (0 : Int).toNat (r0_1).toNat, cut services 0 r0_1), (vmembers, members)] : List T_s_int) := (NfL.cons (nfm_s_int (cutV 1 vs_ (0 : Int).toNat (r0_1).toNat, cut services 0 r0_1) (cutF hLs 0 r0_1 (Int.le_refl _) ho_1.1 ho_1.2)) (NfL.cons (nfm_s_int (vmembers, members) hLm) (NfL.nil _ _ _)))
  replace hS : St F_3 (Ow.own 22 1 e_s_int (.slice (some ⟨b_3, 0, none⟩) 2 2) ([(cutV 1 vs_ (0 : Int).toNat (r0_1).toNat, cut services 0 r0_1), (vmembers, members)] : List T_s_int) :: Ow.own 3 1 encI v_1 (([root] : List Int) ++ (cut services 0 r0_1)) :: Ow.box b_1 31 #[.int .i64 0, .slice none 0 0] :: fr) h_8 := hS
  have hZ_1 := hS
  have hkz_1 := (hS.freeze).2
  replace hS := hS.freeze.1
  have hL_1 : SliceF (fun bz_ => F_3 bz_ ∨ (Ow.own 22 1 e_s_int (.slice (some ⟨b_3, 0, none⟩) 2 2) ([(cutV 1 vs_ (0 : Int).toNat (r0_1).toNat, cut services 0 r0_1), (vmembers, members)] : List T_s_int)).foot bz_) h_8 1 e_s_int (.slice (some ⟨b_3, 0, none⟩) 2 2) ([(cutV 1 vs_ (0 : Int).toNat (r0_1).toNat, cut services 0 r0_1), (vmembers, members)] : List T_s_int) := ⟨(hZ_1.own 0 rfl).slice, fun _ b hb => .inr hb⟩
  refine HO.call (wn) rfl (ec en_73 rfl rfl) (slices_Concat_s_int_int_walk (fr := (Ow.own 3 1 encI v_1 (([root] : List Int) ++ (cut services 0 r0_1)) :: Ow.box b_1 31 #[.int .i64 0, .slice none 0 0] :: fr)) ([(cutV 1 vs_ (0 : Int).toNat (r0_1).toNat, cut services 0 r0_1), (vmembers, members)] : List T_s_int) (.slice (some ⟨b_3, 0, none⟩) 2 2) hS (NfL.kp hN_1 hkz_1) hL_1 hD hM) ?_
  rintro vr_1 h_9 ⟨F_4, r_2, _, rfl, hk, hS, _, _, hM⟩
  obtain ⟨hS, hk⟩ := hZ_1.back hk hS
  generalize (fun bz_ => F_4 bz_ ∧ ¬ (Ow.own 22 1 e_s_int (.slice (some ⟨b_3, 0, none⟩) 2 2) ([(cutV 1 vs_ (0 : Int).toNat (r0_1).toNat, cut services 0 r0_1), (vmembers, members)] : List T_s_int)).foot bz_) = F_5 at hS hk
  replace hK := hK.trans hk
  replace hLm := hLm.kp hk
  replace hLs := hLs.kp hk
  replace hN_1 := hN_1.kp hk
  refine oV (.int .i64 (r_2.length : Int)) (q_len ts_22 (shp (hS.own 1 rfl).slice) rfl rfl) rfl ?_
  refine oM (.int .i64 0) rfl rfl ?_
  refine HO.nil (tqn (?_))
  refine HW.block ?_
  obtain ⟨I_1, m_1, hI_1, hR_1⟩ := hM
  replace hS := hS.nilOwn 52 2 eB
  replace hS : St F_5 (Ow.box b_1 31 #[.int .i64 0, .slice none 0 0] :: Ow.own 3 1 encI v_1 (([root] : List Int) ++ (cut services 0 r0_1)) :: Ow.own 52 2 eB (.slice none 0 0) ([] : List TB) :: Ow.own 3 1 encI vr_1 r_2 :: fr) h_9 := hS.perm2 [4, 3, 0, 2] 5 rfl rfl
  refine HW.loop (S := List TB × Int) (fun s f h => match s with | (l_1, n_1) => ∃ (F' : Fz) (vl_1 : Value), f 0 = .int .i64 root ∧ f 3 = .int .i64 fan ∧ f 8 = .pointer (some ⟨b_1, 0, none⟩) ∧ f 11 = v_1 ∧ f 12 = vl_1 ∧ f 45 = vr_1 ∧ f 46 = .int .i64 (r_2.length : Int) ∧ f 47 = .int .i64 n_1 ∧ Kp F h0 F' h ∧ St F' (Ow.box b_1 31 #[.int .i64 0, .slice none 0 0] :: Ow.own 3 1 encI v_1 (([root] : List Int) ++ (cut services 0 r0_1)) :: Ow.own 52 2 eB vl_1 l_1 :: Ow.own 3 1 encI vr_1 r_2 :: fr) h ∧ (SliceF F' h 1 encI vmembers members) ∧ (SliceF F' h 1 encI vs_ services) ∧ (NfL nf_s_int F' h ([(cutV 1 vs_ (0 : Int).toNat (r0_1).toNat, cut services 0 r0_1), (vmembers, members)] : List T_s_int)) ∧ I_1 (l_1, n_1)) m_1 ([], 0) ⟨F_5, .slice none 0 0, rfl, rfl, rfl, rfl, rfl, rfl, rfl, rfl, hK, hS, hLm, hLs, hN_1, hI_1⟩ ?_
  rintro ⟨l_1, n_1⟩ f_1 h_10 ⟨F_6, vl_1, e0, e3, e8, e11, e12, e45, e46, e47, hK, hS, hLm, hLs, hN_1, hI0⟩
  obtain ⟨K_1, hKe_1⟩ : ∃ K : (List TB) → Int → Prop, K = fun l_1' n_1' => I_1 (l_1', n_1') ∧ m_1 (l_1', n_1') < m_1 (l_1, n_1) := ⟨_, rfl⟩
  have hM : plan_Make_l2 root services fan Q r0_1 r_2 K_1 l_1 n_1 := by rw [hKe_1]; exact hR_1 (l_1, n_1) hI0
  unfold plan_Make_l2 at hM
  refine HW.fr [(0, .int .i64 root), (3, .int .i64 fan), (8, .pointer (some ⟨b_1, 0, none⟩)), (11, v_1), (12, vl_1), (45, vr_1), (46, .int .i64 (r_2.length : Int)), (47, .int .i64 n_1)] ⟨e0, e3, e8, e11, e12, e45, e46, e47, trivial⟩ ?_
  refine HW.seq ?_
  refine HW.region ?_
  refine oV (.bool (decide (n_1 < (r_2.length : Int)))) (q_lss rfl rfl) rfl ?_
  refine HO.nil (tqn (?_))
  refine HW.seq ?_
  refine HW.cond (decide (n_1 < (r_2.length : Int))) rfl (fun c_2 => ?_) (fun c_2 => ?_)
  ·
   replace hM := hM.1 (of_decide_eq_true c_2)
   refine HW.skip (tqn (?_))
   refine HW.seq ?_
   refine HW.block ?_
   refine HW.seq ?_
   refine HW.region ?_
   refine oM (.int .i64 n_1) rfl rfl ?_
   obtain ⟨ho_3, hM⟩ := hM
   refine oV (elemPtr 1 vr_1 (n_1).toNat) (q_idx ts_22 (hS.own 3 rfl).slice rfl rfl ho_3) rfl ?_
   refine oV (.int .i64 (gi r_2 n_1)) (q_ldElem to_3 (hS.own 3 rfl).slice rfl ho_3 rfl) rfl ?_
   refine oA (.int .i64 n_1) rfl rfl ?_
   refine oA (.int .i64 (gi r_2 n_1)) rfl rfl ?_
   refine HO.nil (tqn (?_))
   refine HW.region ?_
   refine oM (vl_1) rfl rfl ?_
   refine oM (v_1) rfl rfl ?_
   refine oM (.int .i64 n_1) rfl rfl ?_
   refine oM (.int .i64 fan) rfl rfl ?_
   obtain ⟨ho_4, hM⟩ := hM
   obtain ⟨ho_5, hM⟩ := hM
   refine oV (.int .i64 (n_1.tdiv fan)) (q_quoN _ rfl rfl ho_4 rfl ho_5.1 ho_5.2) rfl ?_
   obtain ⟨ho_6, hM⟩ := hM
   refine oV (elemPtr 1 v_1 (n_1.tdiv fan).toNat) (q_idx ts_22 (hS.own 1 rfl).slice rfl rfl ho_6) rfl ?_
   refine oV (.int .i64 (gi (([root] : List Int) ++ (cut services 0 r0_1)) (n_1.tdiv fan))) (q_ldElem to_3 (hS.own 1 rfl).slice rfl ho_6 rfl) rfl ?_
   refine oM (.int .i64 (gi r_2 n_1)) rfl rfl ?_
   refine oV (.agg #[.int .i64 (gi (([root] : List Int) ++ (cut services 0 r0_1)) (n_1.tdiv fan)), .int .i64 (gi r_2 n_1)]) (q_build tp_52 rfl) rfl ?_
   refine HO.eff (wn) rfl (st_lit (enc := eB) (cells := #[.int .i64 (gi (([root] : List Int) ++ (cut services 0 r0_1)) (n_1.tdiv fan)), .int .i64 (gi r_2 n_1)]) #[.int .i64 0, .int .i64 0] ([((gi (([root] : List Int) ++ (cut services 0 r0_1)) (n_1.tdiv fan)), (gi r_2 n_1))] : List TB) hS tl_29 (by decide) (by decide) (by kernel_rfl) (by kernel_rfl) rfl (by intro x hx; rfl) rfl) ?_
   rintro _ h_11 ⟨b_4, rfl, hS, hk⟩
   replace hK := hK.trans hk
   replace hLm := hLm.kp hk
   replace hLs := hLs.kp hk
   replace hN_1 := hN_1.kp hk
   obtain ⟨ho_7, hM⟩ := hM
   refine HO.eff (wn) rfl (st_append te_29 hS (i := 3) rfl (hS.own 0 rfl).slice rfl rfl rfl (by intro a _ u hu; simp [eB, encI, encN, encB, encT] at hu; rcases hu with rfl | rfl <;> rfl) ho_7 (by omega)) ?_
   rintro v_2 h_12 ⟨hS, hk⟩
   replace hK := hK.trans hk
   replace hLm := hLm.kp hk
   replace hLs := hLs.kp hk
   replace hN_1 := hN_1.kp hk
   refine oA (v_2) rfl rfl ?_
   refine HO.nil (blockQ_normal (tqn (?_)))
   refine HW.region ?_
   obtain ⟨ho_8, hM⟩ := hM
   refine oV (.int .i64 (n_1 + 1)) (q_addN _ rfl rfl rfl ho_8.1 ho_8.2) rfl ?_
   refine oM (.int .i64 (n_1 + 1)) rfl rfl ?_
   refine HO.nil (tqn (?_))
   replace hS : St F_6 (Ow.box b_1 31 #[.int .i64 0, .slice none 0 0] :: Ow.own 3 1 encI v_1 (([root] : List Int) ++ (cut services 0 r0_1)) :: Ow.own 52 2 eB v_2 (l_1 ++ ([((gi (([root] : List Int) ++ (cut services 0 r0_1)) (n_1.tdiv fan)), (gi r_2 n_1))] : List TB)) :: Ow.own 3 1 encI vr_1 r_2 :: fr) h_12 := hS.perm2 [1, 2, 3, 4] 5 rfl rfl
   rw [hKe_1] at hM
   exact ⟨(l_1 ++ ([((gi (([root] : List Int) ++ (cut services 0 r0_1)) (n_1.tdiv fan)), (gi r_2 n_1))] : List TB), n_1 + 1), ⟨F_6, v_2, rfl, rfl, rfl, rfl, rfl, rfl, rfl, rfl, hK, hS, hLm, hLs, hN_1, hM.1⟩, hM.2⟩
  ·
   replace hM := hM.2 (of_decide_eq_false c_2)
   refine HW.exit (thenQ_exit (thenQ_exit (blockQ_exit (tqn (?_)))))
   refine HW.seq ?_
   refine HW.region ?_
   refine oM (.int .i64 root) rfl rfl ?_
   refine oM (vl_1) rfl rfl ?_
   replace hS : St F_6 (Ow.own 52 2 eB vl_1 l_1 :: Ow.box b_1 31 #[.int .i64 0, .slice none 0 0] :: Ow.own 3 1 encI v_1 (([root] : List Int) ++ (cut services 0 r0_1)) :: Ow.own 3 1 encI vr_1 r_2 :: fr) h_10 := hS.perm2 [2, 0, 1, 3] 4 rfl rfl
   have hZ_2 := hS
   have hkz_2 := (hS.freeze).2
   replace hS := hS.freeze.1
   have hL_2 : SliceF (fun bz_ => F_6 bz_ ∨ (Ow.own 52 2 eB vl_1 l_1).foot bz_) h_10 2 eB vl_1 l_1 := ⟨(hZ_2.own 0 rfl).slice, fun _ b hb => .inr hb⟩
   refine HO.call (wn) rfl (ec en_74 rfl rfl) (tree_Of_walk (fr := (Ow.box b_1 31 #[.int .i64 0, .slice none 0 0] :: Ow.own 3 1 encI v_1 (([root] : List Int) ++ (cut services 0 r0_1)) :: Ow.own 3 1 encI vr_1 r_2 :: fr)) root l_1 vl_1 hS hL_2 hM) ?_
   rintro _ h_13 ⟨F_7, r0_0_1, r0_1_1, r1_2, vr0_1_1, rfl, hk, hS, _, hM⟩
   obtain ⟨hS, hk⟩ := hZ_2.back hk hS
   generalize (fun bz_ => F_7 bz_ ∧ ¬ (Ow.own 52 2 eB vl_1 l_1).foot bz_) = F_8 at hS hk
   replace hK := hK.trans hk
   replace hLm := hLm.kp hk
   replace hLs := hLs.kp hk
   refine oM (.tuple #[.agg #[.int .i64 r0_0_1, vr0_1_1], .int .i64 r1_2]) rfl rfl ?_
   refine oV (.agg #[.int .i64 r0_0_1, vr0_1_1]) (q_extract rfl rfl) rfl ?_
   refine oV (.int .i64 r1_2) (q_extract rfl rfl) rfl ?_
   refine HO.eff (wn) rfl (st_alloc (c := #[.int .i64 0, .slice none 0 0]) hS tz_31 rfl) ?_
   rintro _ h_14 ⟨b_5, rfl, hS, hk⟩
   replace hK := hK.trans hk
   replace hLm := hLm.kp hk
   replace hLs := hLs.kp hk
   refine HO.sto (wn) rfl (st_storeAgg (c' := #[.int .i64 r0_0_1, vr0_1_1]) hS (i := 0) rfl ta_31 rfl rfl rfl (List.forall_mem_cons.2 ⟨rfl, (List.forall_mem_cons.2 ⟨(shp (hS.own 2 rfl).slice).one, (fun _ h => by cases h)⟩)⟩) (Nat.le_of_ble_eq_true rfl) rfl) ?_
   rintro h_15 ⟨hS, hk⟩
   replace hK := hK.trans hk
   replace hLm := hLm.kp hk
   replace hLs := hLs.kp hk
   refine oA (.int .i64 r1_2) rfl rfl ?_
   refine HO.nil (tqn (?_))
   refine HW.seq ?_
   refine HW.region ?_
   refine oV (.agg #[.int .i64 r0_0_1, vr0_1_1]) (q_loadAgg (cs := [.int .i64 r0_0_1, vr0_1_1]) ta_31 rfl rfl (Blk.cells (k := 2) (hS.box 0 rfl) rfl)) rfl ?_
   refine HO.sto (wn) rfl (st_storeAgg (c' := #[.int .i64 r0_0_1, vr0_1_1]) hS (i := 3) rfl ta_31 rfl rfl rfl (List.forall_mem_cons.2 ⟨rfl, (List.forall_mem_cons.2 ⟨(shp (hS.own 2 rfl).slice).one, (fun _ h => by cases h)⟩)⟩) (Nat.le_of_ble_eq_true rfl) rfl) ?_
   rintro h_16 ⟨hS, hk⟩
   replace hK := hK.trans hk
   replace hLm := hLm.kp hk
   replace hLs := hLs.kp hk
   refine HO.nil (tqn (?_))
   refine HW.ret (?_)
   refine ⟨.inr rfl, .agg #[.int .i64 r0_0_1, vr0_1_1], res1 rfl (rca (cs := [.int .i64 r0_0_1, vr0_1_1]) ta_31 rfl rfl (Blk.cells (k := 2) (hS.box 3 rfl) rfl)), ?_⟩
   replace hS : St F_8 (Ow.own 52 2 eB vr0_1_1 r0_1_1 :: fr) h_16 := hS.perm2 [2] 6 rfl rfl
   exact ⟨F_8, r0_0_1, r0_1_1, vr0_1_1, rfl, hK, hS, hLm, hLs, hM⟩
def slices_Clone_s_api_Branch_api_Branch_W (s1 : List TB) (Q : (List TB) → Prop) : Prop :=
 (s1 = [] → Q []) ∧ (True → ((([] : List TB).length + s1.length) * 16 ≤ 140737488355328) ∧ (Q (([] : List TB) ++ s1)))
theorem slices_Clone_s_api_Branch_api_Branch_walk {F : Fz} {fr : List Ow} {h0 : Heap} (s1 : List TB) (vs : Value) (hS : St F (fr) h0) (hL_s1 : SliceF F h0 2 eB vs s1) {Q : (List TB) → Prop} (hM : slices_Clone_s_api_Branch_api_Branch_W s1 Q) :
  HC Tryz.prog 51 #[vs] h0 fun u h' => ∃ (F' : Fz) (r_1 : List TB) (vr_1 : Value), u = vr_1 ∧ Kp F h0 F' h' ∧ St F' (Ow.own 52 2 eB vr_1 r_1 :: fr) h' ∧ (SliceF F' h' 2 eB vs s1) ∧ Q r_1 := by
 unfold slices_Clone_s_api_Branch_api_Branch_W at hM
 have hK := Kp.refl F h0
 refine HC.of_HW (n := 8) Tryz.func51 rfl rfl (Nat.le_of_ble_eq_true rfl) ?_
 refine HW.seq ?_
 refine HW.region ?_
 refine oA (.slice none 0 0) rfl rfl ?_
 refine HO.nil (tqn (?_))
 refine HW.seq ?_
 refine HW.seq ?_
 refine HW.region ?_
 refine oM (vs) rfl rfl ?_
 refine oV (.bool (isNil vs)) (q_eqlSnil Tryz.underlying29 (shp hL_s1.is) rfl rfl) rfl ?_
 refine HO.nil (tqn (?_))
 refine HW.cond (isNil vs) rfl (fun c_1 => ?_) (fun c_1 => ?_)
 ·
  replace hM := hM.1 (isNil_nil hL_s1.is c_1)
  refine HW.seq ?_
  refine HW.region ?_
  refine oA (.slice none 0 0) rfl rfl ?_
  refine HO.nil (tqn (?_))
  refine HW.ret (thenQ_ret (?_))
  refine ⟨.inr rfl, .slice none 0 0, res1 rfl (rt rfl), ?_⟩
  replace hS := hS.nilOwn 52 2 eB
  exact ⟨F, [], .slice none 0 0, rfl, hK, hS, hL_s1, hM⟩
 ·
  replace hM := hM.2 trivial
  refine HW.skip (tqn (?_))
  refine HW.seq ?_
  refine HW.region ?_
  refine HO.eff (wn) rfl (st_litEmpty (α := TB) eB hS tl_29) ?_
  rintro _ h_1 ⟨b_1, rfl, hS, hk⟩
  replace hK := hK.trans hk
  replace hL_s1 := hL_s1.kp hk
  refine oM (vs) rfl rfl ?_
  obtain ⟨ho_1, hM⟩ := hM
  refine HO.eff (wn) rfl (st_append te_29 hS (i := 0) rfl hL_s1.is rfl rfl rfl (by intro a _ u hu; simp [eB, encI, encN, encB, encT] at hu; rcases hu with rfl | rfl <;> rfl) ho_1 (by omega)) ?_
  rintro v_1 h_2 ⟨hS, hk⟩
  replace hK := hK.trans hk
  replace hL_s1 := hL_s1.kp hk
  refine oA (v_1) rfl rfl ?_
  refine HO.nil (tqn (?_))
  refine HW.ret (?_)
  refine ⟨.inr rfl, v_1, res1 rfl (rt rfl), ?_⟩
  exact ⟨F, ([] : List TB) ++ s1, v_1, rfl, hK, hS, hL_s1, hM⟩
def tree_has_1_W (l : TB) (c0_v : Int) (Q : Bool → Prop) : Prop :=
 Q (decide (l.2 = c0_v))
theorem tree_has_1_walk {F : Fz} {fr : List Ow} {h0 : Heap} (l : TB) (c0_v : Int) (bc0 : Nat) (hS : St F (fr) h0) (hB_bc0 : RoF (Ow.box bc0 3 #[.int .i64 c0_v]) F h0) {Q : Bool → Prop} (hM : tree_has_1_W l c0_v Q) :
  HC Tryz.prog 95 #[.agg #[.int .i64 l.1, .int .i64 l.2], .pointer (some ⟨bc0, 0, none⟩)] h0 fun u h' => ∃ (F' : Fz) (r_1 : Bool), u = .bool r_1 ∧ Kp F h0 F' h' ∧ St F' (fr) h' ∧ (RoF (Ow.box bc0 3 #[.int .i64 c0_v]) F' h') ∧ Q r_1 := by
 unfold tree_has_1_W at hM
 have hK := Kp.refl F h0
 refine HC.of_HW (n := 8) Tryz.func95 rfl rfl (Nat.le_of_ble_eq_true rfl) ?_
 refine HW.seq ?_
 refine HW.region ?_
 refine HO.eff (wn) rfl (st_box (c := #[.int .i64 l.1, .int .i64 l.2]) (k' := 2) hS rfl rfl) ?_
 rintro _ h_1 ⟨b_1, rfl, hS, hk⟩
 replace hK := hK.trans hk
 replace hB_bc0 := hB_bc0.kp hk
 refine oA (.bool false) rfl rfl ?_
 refine HO.nil (tqn (?_))
 refine HW.seq ?_
 refine HW.region ?_
 refine oV (.pointer (some ⟨b_1, 1, none⟩)) (qfA fa_52_1 rfl rfl) rfl ?_
 refine oV (.int .i64 l.2) (q_load to_3 rfl (Blk.cell (hS.box 0 rfl) rfl)) rfl ?_
 refine oV (.int .i64 c0_v) (q_load to_3 rfl (Blk.cell hB_bc0.box rfl)) rfl ?_
 refine oV (.bool (decide (l.2 = c0_v))) (q_eql rfl rfl) rfl ?_
 refine oA (.bool (decide (l.2 = c0_v))) rfl rfl ?_
 refine HO.nil (tqn (?_))
 refine HW.ret (?_)
 refine ⟨.inr rfl, .bool (decide (l.2 = c0_v)), res1 rfl (rt rfl), ?_⟩
 replace hS : St F (fr) h_1 := hS.perm2 [] 1 rfl rfl
 exact ⟨F, decide (l.2 = c0_v), rfl, hK, hS, hB_bc0, hM⟩
def slices_IndexFunc_s_api_Branch_api_Branch_l1 (s1 : List TB) (cf_f : TB → Bool) (Q : Int → Prop) (K_1 : Int → Prop) (n_1 : Int) : Prop :=
 (n_1 < (s1.length : Int) → ((0 : Int) ≤ n_1 ∧ n_1 < (s1.length : Int)) ∧ (((cf_f (gi s1 n_1)) = true → Q n_1) ∧ ((cf_f (gi s1 n_1)) = false → (I64 (n_1 + 1)) ∧ (K_1 (n_1 + 1))))) ∧ (¬ (n_1 < (s1.length : Int)) → Q (-1))
def slices_IndexFunc_s_api_Branch_api_Branch_W (s1 : List TB) (cf_f : TB → Bool) (Q : Int → Prop) : Prop :=
 loopW (fun (K_1 : Int → Prop) (s : Int) => slices_IndexFunc_s_api_Branch_api_Branch_l1 s1 cf_f Q K_1 s) 0
theorem slices_IndexFunc_s_api_Branch_api_Branch_walk {F : Fz} {fr : List Ow} {h0 : Heap} (s1 : List TB) (cf_f : TB → Bool) (vs : Value) (g_f : Nat) (fs_f : Array Value) (cs_f : Array Value) (hS : St F (fr) h0) (hL_s1 : SliceF F h0 2 eB vs s1) (hF_cf_f : FnP Tryz.prog F h0 g_f fs_f cs_f (fun x : TB => [.agg #[.int .i64 x.1, .int .i64 x.2]]) (fun x => .bool (cf_f x))) {Q : Int → Prop} (hM : slices_IndexFunc_s_api_Branch_api_Branch_W s1 cf_f Q) :
  HC Tryz.prog 85 #[vs, .func (.func g_f) fs_f cs_f] h0 fun u h' => ∃ (F' : Fz) (r_1 : Int), u = .int .i64 r_1 ∧ Kp F h0 F' h' ∧ St F' (fr) h' ∧ (SliceF F' h' 2 eB vs s1) ∧ (FnP Tryz.prog F' h' g_f fs_f cs_f (fun x : TB => [.agg #[.int .i64 x.1, .int .i64 x.2]]) (fun x => .bool (cf_f x))) ∧ Q r_1 := by
 unfold slices_IndexFunc_s_api_Branch_api_Branch_W at hM
 have hK := Kp.refl F h0
 refine HC.of_HW (n := 19) Tryz.func85 rfl rfl (Nat.le_of_ble_eq_true rfl) ?_
 refine HW.seq ?_
 refine HW.region ?_
 refine oA (.int .i64 0) rfl rfl ?_
 refine HO.nil (tqn (?_))
 refine HW.seq ?_
 refine HW.seq ?_
 refine HW.region ?_
 refine oM (vs) rfl rfl ?_
 refine oV (.int .i64 (s1.length : Int)) (q_len ts_29 (shp hL_s1.is) rfl rfl) rfl ?_
 refine oM (.int .i64 0) rfl rfl ?_
 refine HO.nil (tqn (?_))
 refine HW.block ?_
 obtain ⟨I_1, m_1, hI_1, hR_1⟩ := hM
 refine HW.loop (S := Int) (fun n_1 f h => ∃ (F' : Fz), f 0 = vs ∧ f 1 = .func (.func g_f) fs_f cs_f ∧ f 4 = .int .i64 0 ∧ f 7 = .int .i64 (s1.length : Int) ∧ f 8 = .int .i64 n_1 ∧ Kp F h0 F' h ∧ St F' (fr) h ∧ (SliceF F' h 2 eB vs s1) ∧ (FnP Tryz.prog F' h g_f fs_f cs_f (fun x : TB => [.agg #[.int .i64 x.1, .int .i64 x.2]]) (fun x => .bool (cf_f x))) ∧ I_1 n_1) m_1 0 ⟨F, rfl, rfl, rfl, rfl, rfl, hK, hS, hL_s1, hF_cf_f, hI_1⟩ ?_
 rintro n_1 f_1 h_1 ⟨F_1, e0, e1, e4, e7, e8, hK, hS, hL_s1, hF_cf_f, hI0⟩
 obtain ⟨K_1, hKe_1⟩ : ∃ K : Int → Prop, K = fun n_1' => I_1 n_1' ∧ m_1 n_1' < m_1 n_1 := ⟨_, rfl⟩
 have hM : slices_IndexFunc_s_api_Branch_api_Branch_l1 s1 cf_f Q K_1 n_1 := by rw [hKe_1]; exact hR_1 n_1 hI0
 unfold slices_IndexFunc_s_api_Branch_api_Branch_l1 at hM
 refine HW.fr [(0, vs), (1, .func (.func g_f) fs_f cs_f), (4, .int .i64 0), (7, .int .i64 (s1.length : Int)), (8, .int .i64 n_1)] ⟨e0, e1, e4, e7, e8, trivial⟩ ?_
 refine HW.seq ?_
 refine HW.region ?_
 refine oV (.bool (decide (n_1 < (s1.length : Int)))) (q_lss rfl rfl) rfl ?_
 refine HO.nil (tqn (?_))
 refine HW.seq ?_
 refine HW.cond (decide (n_1 < (s1.length : Int))) rfl (fun c_1 => ?_) (fun c_1 => ?_)
 ·
  replace hM := hM.1 (of_decide_eq_true c_1)
  refine HW.skip (tqn (?_))
  refine HW.seq ?_
  refine HW.block ?_
  refine HW.seq ?_
  refine HW.region ?_
  refine oM (.int .i64 n_1) rfl rfl ?_
  refine oA (.int .i64 n_1) rfl rfl ?_
  refine HO.nil (tqn (?_))
  refine HW.seq ?_
  refine HW.region ?_
  refine oM (.func (.func g_f) fs_f cs_f) rfl rfl ?_
  refine oM (vs) rfl rfl ?_
  refine oM (.int .i64 n_1) rfl rfl ?_
  obtain ⟨ho_1, hM⟩ := hM
  refine oV (elemPtr 2 vs (n_1).toNat) (q_idx ts_29 hL_s1.is rfl rfl ho_1) rfl ?_
  refine oV (.agg #[.int .i64 ((gi s1 n_1).1), .int .i64 ((gi s1 n_1).2)]) (q_ldElemAgg (cs := [.int .i64 ((gi s1 n_1).1), .int .i64 ((gi s1 n_1).2)]) ta_52 hL_s1.is rfl ho_1 rfl) rfl ?_
  refine HO.call (wn) rfl (hF_cf_f.ec (gi s1 n_1) rfl rfl) (hF_cf_f.hc (gi s1 n_1) hS) ?_
  rintro _ h_2 ⟨rfl, hS, hk⟩
  replace hK := hK.trans hk
  replace hL_s1 := hL_s1.kp hk
  replace hF_cf_f := hF_cf_f.kp hk
  refine HO.nil (tqn (?_))
  refine HW.cond (cf_f (gi s1 n_1)) rfl (fun c_2 => ?_) (fun c_2 => ?_)
  ·
   replace hM := hM.1 c_2
   refine HW.seq ?_
   refine HW.region ?_
   refine oM (.int .i64 n_1) rfl rfl ?_
   refine oA (.int .i64 n_1) rfl rfl ?_
   refine HO.nil (tqn (?_))
   refine HW.ret (blockQ_ret (thenQ_ret (thenQ_ret (blockQ_ret (thenQ_ret (?_))))))
   refine ⟨.inr rfl, .int .i64 n_1, res1 rfl (rt rfl), ?_⟩
   exact ⟨F_1, n_1, rfl, hK, hS, hL_s1, hF_cf_f, hM⟩
  ·
   replace hM := hM.2 c_2
   refine HW.skip (blockQ_normal (tqn (?_)))
   refine HW.region ?_
   obtain ⟨ho_2, hM⟩ := hM
   refine oV (.int .i64 (n_1 + 1)) (q_addN _ rfl rfl rfl ho_2.1 ho_2.2) rfl ?_
   refine oM (.int .i64 (n_1 + 1)) rfl rfl ?_
   refine HO.nil (tqn (?_))
   rw [hKe_1] at hM
   exact ⟨n_1 + 1, ⟨F_1, rfl, rfl, rfl, rfl, rfl, hK, hS, hL_s1, hF_cf_f, hM.1⟩, hM.2⟩
 ·
  replace hM := hM.2 (of_decide_eq_false c_1)
  refine HW.exit (thenQ_exit (thenQ_exit (blockQ_exit (tqn (?_)))))
  refine HW.seq ?_
  refine HW.region ?_
  refine oA (.int .i64 (-1)) rfl rfl ?_
  refine HO.nil (tqn (?_))
  refine HW.ret (?_)
  refine ⟨.inr rfl, .int .i64 (-1), res1 rfl (rt rfl), ?_⟩
  exact ⟨F_1, (-1), rfl, hK, hS, hL_s1, hF_cf_f, hM⟩
def slices_ContainsFunc_s_api_Branch_api_Branch_W (s1 : List TB) (cf_f : TB → Bool) (Q : Bool → Prop) : Prop :=
 slices_IndexFunc_s_api_Branch_api_Branch_W s1 cf_f (fun r_2 => Q (decide (0 ≤ r_2)))
theorem slices_ContainsFunc_s_api_Branch_api_Branch_walk {F : Fz} {fr : List Ow} {h0 : Heap} (s1 : List TB) (cf_f : TB → Bool) (vs : Value) (g_f : Nat) (fs_f : Array Value) (cs_f : Array Value) (hS : St F (fr) h0) (hL_s1 : SliceF F h0 2 eB vs s1) (hF_cf_f : FnP Tryz.prog F h0 g_f fs_f cs_f (fun x : TB => [.agg #[.int .i64 x.1, .int .i64 x.2]]) (fun x => .bool (cf_f x))) {Q : Bool → Prop} (hM : slices_ContainsFunc_s_api_Branch_api_Branch_W s1 cf_f Q) :
  HC Tryz.prog 57 #[vs, .func (.func g_f) fs_f cs_f] h0 fun u h' => ∃ (F' : Fz) (r_1 : Bool), u = .bool r_1 ∧ Kp F h0 F' h' ∧ St F' (fr) h' ∧ (SliceF F' h' 2 eB vs s1) ∧ (FnP Tryz.prog F' h' g_f fs_f cs_f (fun x : TB => [.agg #[.int .i64 x.1, .int .i64 x.2]]) (fun x => .bool (cf_f x))) ∧ Q r_1 := by
 unfold slices_ContainsFunc_s_api_Branch_api_Branch_W at hM
 have hK := Kp.refl F h0
 refine HC.of_HW (n := 9) Tryz.func57 rfl rfl (Nat.le_of_ble_eq_true rfl) ?_
 refine HW.seq ?_
 refine HW.region ?_
 refine oA (.bool false) rfl rfl ?_
 refine HO.nil (tqn (?_))
 refine HW.seq ?_
 refine HW.region ?_
 refine oM (vs) rfl rfl ?_
 refine oM (.func (.func g_f) fs_f cs_f) rfl rfl ?_
 refine HO.call (wn) rfl (ec en_85 rfl rfl) (slices_IndexFunc_s_api_Branch_api_Branch_walk (fr := (fr)) s1 cf_f vs g_f fs_f cs_f hS hL_s1 hF_cf_f hM) ?_
 rintro _ h_1 ⟨F_1, r_2, rfl, hk, hS, _, _, hM⟩
 replace hK := hK.trans hk
 replace hL_s1 := hL_s1.kp hk
 replace hF_cf_f := hF_cf_f.kp hk
 refine oV (.bool (decide (0 ≤ r_2))) (q_geq rfl rfl) rfl ?_
 refine oA (.bool (decide (0 ≤ r_2))) rfl rfl ?_
 refine HO.nil (tqn (?_))
 refine HW.ret (?_)
 refine ⟨.inr rfl, .bool (decide (0 ≤ r_2)), res1 rfl (rt rfl), ?_⟩
 exact ⟨F_1, decide (0 ≤ r_2), rfl, hK, hS, hL_s1, hF_cf_f, hM⟩
def tree_has_W (tR : Int) (tL : List TB) (n : Int) (Q : Bool → Prop) : Prop :=
 (n = tR → Q true) ∧ (¬ (n = tR) → ∃ cf_1 : TB → Bool, (∀ x0, tree_has_1_W x0 n (fun r => r = cf_1 x0)) ∧ (slices_ContainsFunc_s_api_Branch_api_Branch_W tL cf_1 (fun r_2 => Q r_2)))
theorem tree_has_walk {F : Fz} {fr : List Ow} {h0 : Heap} (tR : Int) (tL : List TB) (n : Int) (vT : Value) (hS : St F (fr) h0) (hLT : SliceF F h0 2 eB vT tL) {Q : Bool → Prop} (hM : tree_has_W tR tL n Q) :
  HC Tryz.prog 81 #[.agg #[.int .i64 tR, vT], .int .i64 n] h0 fun u h' => ∃ (F' : Fz) (r_1 : Bool), u = .bool r_1 ∧ Kp F h0 F' h' ∧ St F' (fr) h' ∧ (SliceF F' h' 2 eB vT tL) ∧ Q r_1 := by
 unfold tree_has_W at hM
 have hK := Kp.refl F h0
 refine HC.of_HW (n := 15) Tryz.func81 rfl rfl (Nat.le_of_ble_eq_true rfl) ?_
 refine HW.seq ?_
 refine HW.region ?_
 refine HO.eff (wn) rfl (st_box (c := #[.int .i64 tR, vT]) (k' := 2) hS rfl rfl) ?_
 rintro _ h_1 ⟨b_1, rfl, hS, hk⟩
 replace hK := hK.trans hk
 replace hLT := hLT.kp hk
 refine HO.eff (wn) rfl (st_box (c := #[.int .i64 n]) (k' := 1) hS rfl rfl) ?_
 rintro _ h_2 ⟨b_2, rfl, hS, hk⟩
 replace hK := hK.trans hk
 replace hLT := hLT.kp hk
 refine oA (.bool false) rfl rfl ?_
 refine HO.nil (tqn (?_))
 refine HW.seq ?_
 refine HW.region ?_
 refine oV (.int .i64 n) (q_load to_3 rfl (Blk.cell (hS.box 0 rfl) rfl)) rfl ?_
 refine oV (.pointer (some ⟨b_1, 0, none⟩)) (qfA fa_31_0 rfl rfl) rfl ?_
 refine oV (.int .i64 tR) (q_load to_3 rfl (Blk.cell (hS.box 1 rfl) rfl)) rfl ?_
 refine oV (.bool (decide (n = tR))) (q_eql rfl rfl) rfl ?_
 refine oM (.bool (decide (n = tR))) rfl rfl ?_
 rcases Bool.eq_false_or_eq_true (decide (n = tR)) with c_1 | c_1
 ·
  replace hM := hM.1 (of_decide_eq_true c_1)
  refine HO.past (pby rfl rfl c_1) rfl ?_
  refine HO.past (pby rfl rfl c_1) rfl ?_
  refine HO.past (pby rfl rfl c_1) rfl ?_
  refine HO.past (pby rfl rfl c_1) rfl ?_
  refine oV (.bool true) (q_pickK true rfl c_1 rfl) rfl ?_
  refine oA (.bool true) rfl rfl ?_
  refine HO.nil (tqn (?_))
  refine HW.ret (?_)
  refine ⟨.inr rfl, .bool true, res1 rfl (rt rfl), ?_⟩
  replace hS : St F (fr) h_2 := hS.perm2 [] 2 rfl rfl
  exact ⟨F, true, rfl, hK, hS, hLT, hM⟩
 ·
  replace hM := hM.2 (of_decide_eq_false c_1)
  refine HO.val (v := .pointer (some ⟨b_1, 1, none⟩)) (wby rfl rfl c_1) rfl (qfA fa_31_1 rfl rfl) ?_
  refine HO.val (v := vT) (wby rfl rfl c_1) rfl (q_load to_29 rfl (Blk.cell (hS.box 1 rfl) rfl)) ?_
  refine HO.val (v := .func (.func 95) #[] #[.pointer (some ⟨b_2, 0, none⟩)]) (wby rfl rfl c_1) rfl (q_makeFunc rfl rfl) ?_
  replace hS : St F (Ow.box b_2 3 #[.int .i64 n] :: Ow.box b_1 31 #[.int .i64 tR, vT] :: fr) h_2 := hS
  have hZ_1 := hS
  have hkz_1 := (hS.freeze).2
  replace hS := hS.freeze.1
  have hL_1 := hZ_1.lent
  obtain ⟨cf_1, hc_1, hM⟩ := hM
  have hF_1 : FnP Tryz.prog (fun bz_ => F bz_ ∨ (Ow.box b_2 3 #[.int .i64 n]).foot bz_) h_2 95 #[] #[.pointer (some ⟨b_2, 0, none⟩)] (fun x : TB => [.agg #[.int .i64 x.1, .int .i64 x.2]]) (fun x => .bool (cf_1 x)) := FnP.of en_95 (fun x h' hk_ => @HC.mono ⟨true⟩ _ _ _ _ _ _ (@tree_has_1_walk ⟨true⟩ (allF h') [] h' x n b_2 (St.init h') (hL_1.kp hk_) (fun r => r = cf_1 x) (hc_1 x)) (fun u h'' ⟨F', r, hu, k_, _, _, hr⟩ => ⟨by rw [hu, hr], F', k_⟩))
  refine HO.call (wby rfl rfl c_1) rfl (ec en_57 rfl rfl) (slices_ContainsFunc_s_api_Branch_api_Branch_walk (fr := (Ow.box b_1 31 #[.int .i64 tR, vT] :: fr)) tL cf_1 vT 95 (#[]) (#[.pointer (some ⟨b_2, 0, none⟩)]) hS (hLT.kp hkz_1) hF_1 hM) ?_
  rintro _ h_3 ⟨F_1, r_2, rfl, hk, hS, _, _, hM⟩
  obtain ⟨hS, hk⟩ := hZ_1.back hk hS
  generalize (fun bz_ => F_1 bz_ ∧ ¬ (Ow.box b_2 3 #[.int .i64 n]).foot bz_) = F_2 at hS hk
  replace hK := hK.trans hk
  replace hLT := hLT.kp hk
  refine oV (.bool r_2) (q_pickK false rfl c_1 rfl) rfl ?_
  refine oA (.bool r_2) rfl rfl ?_
  refine HO.nil (tqn (?_))
  refine HW.ret (?_)
  refine ⟨.inr rfl, .bool r_2, res1 rfl (rt rfl), ?_⟩
  replace hS : St F_2 (fr) h_3 := hS.perm2 [] 2 rfl rfl
  exact ⟨F_2, r_2, rfl, hK, hS, hLT, hM⟩
def tree_Has_W (tR : Int) (tL : List TB) (n : Int) (Q : Bool → Prop) : Prop :=
 tree_has_W tR tL n (fun r_2 => Q r_2)
theorem tree_Has_walk {F : Fz} {fr : List Ow} {h0 : Heap} (tR : Int) (tL : List TB) (n : Int) (vT : Value) (hS : St F (fr) h0) (hLT : SliceF F h0 2 eB vT tL) {Q : Bool → Prop} (hM : tree_Has_W tR tL n Q) :
  HC Tryz.prog 49 #[.agg #[.int .i64 tR, vT], .int .i64 n] h0 fun u h' => ∃ (F' : Fz) (r_1 : Bool), u = .bool r_1 ∧ Kp F h0 F' h' ∧ St F' (fr) h' ∧ (SliceF F' h' 2 eB vT tL) ∧ Q r_1 := by
 unfold tree_Has_W at hM
 have hK := Kp.refl F h0
 refine HC.of_HW (n := 8) Tryz.func49 rfl rfl (Nat.le_of_ble_eq_true rfl) ?_
 refine HW.seq ?_
 refine HW.region ?_
 refine HO.eff (wn) rfl (st_box (c := #[.int .i64 tR, vT]) (k' := 2) hS rfl rfl) ?_
 rintro _ h_1 ⟨b_1, rfl, hS, hk⟩
 replace hK := hK.trans hk
 replace hLT := hLT.kp hk
 refine oA (.bool false) rfl rfl ?_
 refine HO.nil (tqn (?_))
 refine HW.seq ?_
 refine HW.region ?_
 refine oV (.agg #[.int .i64 tR, vT]) (q_loadAgg (cs := [.int .i64 tR, vT]) ta_31 rfl rfl (Blk.cells (k := 2) (hS.box 0 rfl) rfl)) rfl ?_
 refine oM (.int .i64 n) rfl rfl ?_
 refine HO.call (wn) rfl (ec en_81 rfl rfl) (tree_has_walk (fr := (Ow.box b_1 31 #[.int .i64 tR, vT] :: fr)) tR tL n vT hS hLT hM) ?_
 rintro _ h_2 ⟨F_1, r_2, rfl, hk, hS, _, hM⟩
 replace hK := hK.trans hk
 replace hLT := hLT.kp hk
 refine oA (.bool r_2) rfl rfl ?_
 refine HO.nil (tqn (?_))
 refine HW.ret (?_)
 refine ⟨.inr rfl, .bool r_2, res1 rfl (rt rfl), ?_⟩
 replace hS : St F_1 (fr) h_2 := hS.perm2 [] 1 rfl rfl
 exact ⟨F_1, r_2, rfl, hK, hS, hLT, hM⟩
def tree_Next_W (tR : Int) (tL : List TB) (n : Int) (Q : (List Int) → Prop) : Prop :=
 tree_nexts_W tR tL (fun r_2 => Q ((bagAt r_2 n).2))
theorem tree_Next_walk {F : Fz} {fr : List Ow} {h0 : Heap} (tR : Int) (tL : List TB) (n : Int) (vT : Value) (hS : St F (fr) h0) (hLT : SliceF F h0 2 eB vT tL) {Q : (List Int) → Prop} (hM : tree_Next_W tR tL n Q) :
  HC Tryz.prog 64 #[.agg #[.int .i64 tR, vT], .int .i64 n] h0 fun u h' => ∃ (F' : Fz) (r_1 : List Int) (vr_1 : Value), u = vr_1 ∧ Kp F h0 F' h' ∧ St F' (fr) h' ∧ (SliceF F' h' 2 eB vT tL) ∧ (SliceF F' h' 1 encI vr_1 r_1) ∧ Q r_1 := by
 unfold tree_Next_W at hM
 have hK := Kp.refl F h0
 refine HC.of_HW (n := 9) Tryz.func64 rfl rfl (Nat.le_of_ble_eq_true rfl) ?_
 refine HW.seq ?_
 refine HW.region ?_
 refine HO.eff (wn) rfl (st_box (c := #[.int .i64 tR, vT]) (k' := 2) hS rfl rfl) ?_
 rintro _ h_1 ⟨b_1, rfl, hS, hk⟩
 replace hK := hK.trans hk
 replace hLT := hLT.kp hk
 refine oA (.slice none 0 0) rfl rfl ?_
 refine HO.nil (tqn (?_))
 refine HW.seq ?_
 refine HW.region ?_
 refine oV (.agg #[.int .i64 tR, vT]) (q_loadAgg (cs := [.int .i64 tR, vT]) ta_31 rfl rfl (Blk.cells (k := 2) (hS.box 0 rfl) rfl)) rfl ?_
 refine HO.call (wn) rfl (ec en_75 rfl rfl) (tree_nexts_walk (fr := (Ow.box b_1 31 #[.int .i64 tR, vT] :: fr)) tR tL vT hS hLT hM) ?_
 rintro _ h_2 ⟨F_1, r_2, r_3, rfl, hk, hS, _, hM⟩
 replace hK := hK.trans hk
 replace hLT := hLT.kp hk
 obtain ⟨F_2, hS, hk, hN_1⟩ := hS.bagOpen
 replace hK := hK.trans hk
 replace hLT := hLT.kp hk
 refine oM (.int .i64 n) rfl rfl ?_
 have hL_2 : SliceF F_2 h_2 1 encI ((bagAt r_2 n).1) ((bagAt r_2 n).2) := hN_1.at_ n
 refine oV ((bagAt r_2 n).1) ((q_lookup (k := n) ka_3 tmk_79 (hS.mp 0 rfl) rfl rfl).of_eq (bagAt_v _ _)) rfl ?_
 refine oA ((bagAt r_2 n).1) rfl rfl ?_
 refine HO.nil (tqn (?_))
 refine HW.ret (?_)
 refine ⟨.inr rfl, (bagAt r_2 n).1, res1 rfl (rt rfl), ?_⟩
 replace hS : St F_2 (fr) h_2 := hS.perm2 [] 2 rfl rfl
 exact ⟨F_2, (bagAt r_2 n).2, (bagAt r_2 n).1, rfl, hK, hS, hLT, hL_2, hM⟩
def repair_room_l1 (tR : Int) (tL : List TB) (services : List Int) (fan : Int) (Q : Int → Bool → Prop) (K_1 : Int → Prop) (n_1 : Int) : Prop :=
 (n_1 < ((([tR] : List Int) ++ services).length : Int) → ((0 : Int) ≤ n_1 ∧ n_1 < ((([tR] : List Int) ++ services).length : Int)) ∧ (tree_Has_W tR tL (gi (([tR] : List Int) ++ services) n_1) (fun r_1 => (r_1 = true → tree_Next_W tR tL (gi (([tR] : List Int) ++ services) n_1) (fun r_2 => ((r_2.length : Int) < fan → Q (gi (([tR] : List Int) ++ services) n_1) true) ∧ (¬ ((r_2.length : Int) < fan) → (I64 (n_1 + 1)) ∧ (K_1 (n_1 + 1))))) ∧ (r_1 = false → (I64 (n_1 + 1)) ∧ (K_1 (n_1 + 1)))))) ∧ (¬ (n_1 < ((([tR] : List Int) ++ services).length : Int)) → Q 0 false)
def repair_room_W (tR : Int) (tL : List TB) (services : List Int) (fan : Int) (Q : Int → Bool → Prop) : Prop :=
 ((([tR] : List Int).length + services.length) * 8 ≤ 140737488355328) ∧ (loopW (fun (K_1 : Int → Prop) (s : Int) => repair_room_l1 tR tL services fan Q K_1 s) 0)
theorem repair_room_walk {F : Fz} {fr : List Ow} {h0 : Heap} (tR : Int) (tL : List TB) (services : List Int) (fan : Int) (vT : Value) (vs_ : Value) (hS : St F (fr) h0) (hLT : SliceF F h0 2 eB vT tL) (hLs : SliceF F h0 1 encI vs_ services) {Q : Int → Bool → Prop} (hM : repair_room_W tR tL services fan Q) :
  HC Tryz.prog 60 #[.agg #[.int .i64 tR, vT], vs_, .int .i64 fan] h0 fun u h' => ∃ (F' : Fz) (r0_1 : Int) (r1_1 : Bool), u = .tuple #[.int .i64 r0_1, .bool r1_1] ∧ Kp F h0 F' h' ∧ St F' (fr) h' ∧ (SliceF F' h' 2 eB vT tL) ∧ (SliceF F' h' 1 encI vs_ services) ∧ Q r0_1 r1_1 := by
 unfold repair_room_W at hM
 have hK := Kp.refl F h0
 refine HC.of_HW (n := 33) Tryz.func60 rfl rfl (Nat.le_of_ble_eq_true rfl) ?_
 refine HW.seq ?_
 refine HW.region ?_
 refine HO.eff (wn) rfl (st_box (c := #[.int .i64 tR, vT]) (k' := 2) hS rfl rfl) ?_
 rintro _ h_1 ⟨b_1, rfl, hS, hk⟩
 replace hK := hK.trans hk
 replace hLT := hLT.kp hk
 replace hLs := hLs.kp hk
 refine oA (.int .i64 0) rfl rfl ?_
 refine oA (.bool false) rfl rfl ?_
 refine HO.nil (tqn (?_))
 refine HW.seq ?_
 refine HW.seq ?_
 refine HW.region ?_
 refine oV (.pointer (some ⟨b_1, 0, none⟩)) (qfA fa_31_0 rfl rfl) rfl ?_
 refine oV (.int .i64 tR) (q_load to_3 rfl (Blk.cell (hS.box 0 rfl) rfl)) rfl ?_
 refine HO.eff (wn) rfl (st_lit (enc := encI) (cells := #[.int .i64 tR]) #[.int .i64 0] ([tR] : List Int) hS tl_22 (by decide) (by decide) (by kernel_rfl) (by kernel_rfl) rfl (by intro x hx; rfl) rfl) ?_
 rintro _ h_2 ⟨b_2, rfl, hS, hk⟩
 replace hK := hK.trans hk
 replace hLT := hLT.kp hk
 replace hLs := hLs.kp hk
 refine oM (vs_) rfl rfl ?_
 obtain ⟨ho_1, hM⟩ := hM
 refine HO.eff (wn) rfl (st_append te_22 hS (i := 0) rfl hLs.is rfl rfl rfl (by intro a _ u hu; simp [encI, encI, encN, encB, encT] at hu; subst hu; rfl) ho_1 (by omega)) ?_
 rintro v_1 h_3 ⟨hS, hk⟩
 replace hK := hK.trans hk
 replace hLT := hLT.kp hk
 replace hLs := hLs.kp hk
 refine oV (.int .i64 ((([tR] : List Int) ++ services).length : Int)) (q_len ts_22 (shp (hS.own 0 rfl).slice) rfl rfl) rfl ?_
 refine oM (.int .i64 0) rfl rfl ?_
 refine HO.nil (tqn (?_))
 refine HW.block ?_
 obtain ⟨I_1, m_1, hI_1, hR_1⟩ := hM
 replace hS : St F (Ow.box b_1 31 #[.int .i64 tR, vT] :: Ow.own 3 1 encI v_1 (([tR] : List Int) ++ services) :: fr) h_3 := hS.perm2 [1, 0] 2 rfl rfl
 refine HW.loop (S := Int) (fun n_1 f h => ∃ (F' : Fz), f 2 = .int .i64 fan ∧ f 3 = .pointer (some ⟨b_1, 0, none⟩) ∧ f 6 = .int .i64 0 ∧ f 7 = .bool false ∧ f 14 = v_1 ∧ f 15 = .int .i64 ((([tR] : List Int) ++ services).length : Int) ∧ f 16 = .int .i64 n_1 ∧ Kp F h0 F' h ∧ St F' (Ow.box b_1 31 #[.int .i64 tR, vT] :: Ow.own 3 1 encI v_1 (([tR] : List Int) ++ services) :: fr) h ∧ (SliceF F' h 2 eB vT tL) ∧ (SliceF F' h 1 encI vs_ services) ∧ I_1 n_1) m_1 0 ⟨F, rfl, rfl, rfl, rfl, rfl, rfl, rfl, hK, hS, hLT, hLs, hI_1⟩ ?_
 rintro n_1 f_1 h_4 ⟨F_1, e2, e3, e6, e7, e14, e15, e16, hK, hS, hLT, hLs, hI0⟩
 obtain ⟨K_1, hKe_1⟩ : ∃ K : Int → Prop, K = fun n_1' => I_1 n_1' ∧ m_1 n_1' < m_1 n_1 := ⟨_, rfl⟩
 have hM : repair_room_l1 tR tL services fan Q K_1 n_1 := by rw [hKe_1]; exact hR_1 n_1 hI0
 unfold repair_room_l1 at hM
 refine HW.fr [(2, .int .i64 fan), (3, .pointer (some ⟨b_1, 0, none⟩)), (6, .int .i64 0), (7, .bool false), (14, v_1), (15, .int .i64 ((([tR] : List Int) ++ services).length : Int)), (16, .int .i64 n_1)] ⟨e2, e3, e6, e7, e14, e15, e16, trivial⟩ ?_
 refine HW.seq ?_
 refine HW.region ?_
 refine oV (.bool (decide (n_1 < ((([tR] : List Int) ++ services).length : Int)))) (q_lss rfl rfl) rfl ?_
 refine HO.nil (tqn (?_))
 refine HW.seq ?_
 refine HW.cond (decide (n_1 < ((([tR] : List Int) ++ services).length : Int))) rfl (fun c_1 => ?_) (fun c_1 => ?_)
 ·
  replace hM := hM.1 (of_decide_eq_true c_1)
  refine HW.skip (tqn (?_))
  refine HW.seq ?_
  refine HW.block ?_
  refine HW.seq ?_
  refine HW.region ?_
  obtain ⟨ho_2, hM⟩ := hM
  refine oV (elemPtr 1 v_1 (n_1).toNat) (q_idx ts_22 (hS.own 1 rfl).slice rfl rfl ho_2) rfl ?_
  refine oV (.int .i64 (gi (([tR] : List Int) ++ services) n_1)) (q_ldElem to_3 (hS.own 1 rfl).slice rfl ho_2 rfl) rfl ?_
  refine oA (.int .i64 (gi (([tR] : List Int) ++ services) n_1)) rfl rfl ?_
  refine HO.nil (tqn (?_))
  refine HW.seq ?_
  refine HW.region ?_
  refine oV (.agg #[.int .i64 tR, vT]) (q_loadAgg (cs := [.int .i64 tR, vT]) ta_31 rfl rfl (Blk.cells (k := 2) (hS.box 0 rfl) rfl)) rfl ?_
  refine oM (.int .i64 (gi (([tR] : List Int) ++ services) n_1)) rfl rfl ?_
  refine HO.call (wn) rfl (ec en_49 rfl rfl) (tree_Has_walk (fr := (Ow.box b_1 31 #[.int .i64 tR, vT] :: Ow.own 3 1 encI v_1 (([tR] : List Int) ++ services) :: fr)) tR tL (gi (([tR] : List Int) ++ services) n_1) vT hS hLT hM) ?_
  rintro _ h_5 ⟨F_2, r_1, rfl, hk, hS, _, hM⟩
  replace hK := hK.trans hk
  replace hLT := hLT.kp hk
  replace hLs := hLs.kp hk
  refine oM (.bool r_1) rfl rfl ?_
  rcases Bool.eq_false_or_eq_true r_1 with c_2 | c_2
  ·
   replace hM := hM.1 c_2
   refine HO.val (v := .agg #[.int .i64 tR, vT]) (wby rfl rfl c_2) rfl (q_loadAgg (cs := [.int .i64 tR, vT]) ta_31 rfl rfl (Blk.cells (k := 2) (hS.box 0 rfl) rfl)) ?_
   refine HO.val (v := .int .i64 (gi (([tR] : List Int) ++ services) n_1)) (wby rfl rfl c_2) rfl (q_move rfl) ?_
   refine HO.call (wby rfl rfl c_2) rfl (ec en_64 rfl rfl) (tree_Next_walk (fr := (Ow.box b_1 31 #[.int .i64 tR, vT] :: Ow.own 3 1 encI v_1 (([tR] : List Int) ++ services) :: fr)) tR tL (gi (([tR] : List Int) ++ services) n_1) vT hS hLT hM) ?_
   rintro vr_1 h_6 ⟨F_3, r_2, _, rfl, hk, hS, _, hL_1, hM⟩
   replace hK := hK.trans hk
   replace hLT := hLT.kp hk
   replace hLs := hLs.kp hk
   refine HO.val (v := .int .i64 (r_2.length : Int)) (wby rfl rfl c_2) rfl (q_len ts_22 (shp hL_1.is) rfl rfl) ?_
   refine HO.val (v := .int .i64 fan) (wby rfl rfl c_2) rfl (q_move rfl) ?_
   refine HO.val (v := .bool (decide ((r_2.length : Int) < fan))) (wby rfl rfl c_2) rfl (q_lss rfl rfl) ?_
   refine oV (.bool (decide ((r_2.length : Int) < fan))) (q_pickK true rfl c_2 rfl) rfl ?_
   refine HO.nil (tqn (?_))
   refine HW.cond (decide ((r_2.length : Int) < fan)) rfl (fun c_3 => ?_) (fun c_3 => ?_)
   ·
    replace hM := hM.1 (of_decide_eq_true c_3)
    refine HW.seq ?_
    refine HW.region ?_
    refine oM (.int .i64 (gi (([tR] : List Int) ++ services) n_1)) rfl rfl ?_
    refine oA (.int .i64 (gi (([tR] : List Int) ++ services) n_1)) rfl rfl ?_
    refine oA (.bool true) rfl rfl ?_
    refine HO.nil (tqn (?_))
    refine HW.ret (blockQ_ret (thenQ_ret (thenQ_ret (blockQ_ret (thenQ_ret (?_))))))
    refine ⟨.inr rfl, .tuple #[.int .i64 (gi (([tR] : List Int) ++ services) n_1), .bool true], res2 rfl (rt rfl) (rt rfl), ?_⟩
    replace hS : St F_3 (fr) h_6 := hS.perm2 [] 2 rfl rfl
    exact ⟨F_3, (gi (([tR] : List Int) ++ services) n_1), true, rfl, hK, hS, hLT, hLs, hM⟩
   ·
    replace hM := hM.2 (of_decide_eq_false c_3)
    refine HW.skip (blockQ_normal (tqn (?_)))
    refine HW.region ?_
    obtain ⟨ho_3, hM⟩ := hM
    refine oV (.int .i64 (n_1 + 1)) (q_addN _ rfl rfl rfl ho_3.1 ho_3.2) rfl ?_
    refine oM (.int .i64 (n_1 + 1)) rfl rfl ?_
    refine HO.nil (tqn (?_))
    rw [hKe_1] at hM
    exact ⟨n_1 + 1, ⟨F_3, rfl, rfl, rfl, rfl, rfl, rfl, rfl, hK, hS, hLT, hLs, hM.1⟩, hM.2⟩
  ·
   replace hM := hM.2 c_2
   refine HO.past (pby rfl rfl c_2) rfl ?_
   refine HO.past (pby rfl rfl c_2) rfl ?_
   refine HO.past (pby rfl rfl c_2) rfl ?_
   refine HO.past (pby rfl rfl c_2) rfl ?_
   refine HO.past (pby rfl rfl c_2) rfl ?_
   refine HO.past (pby rfl rfl c_2) rfl ?_
   refine oV (.bool false) (q_pickK false rfl c_2 rfl) rfl ?_
   refine HO.nil (tqn (?_))
   refine HW.condF rfl ?_
   refine HW.skip (blockQ_normal (tqn (?_)))
   refine HW.region ?_
   obtain ⟨ho_4, hM⟩ := hM
   refine oV (.int .i64 (n_1 + 1)) (q_addN _ rfl rfl rfl ho_4.1 ho_4.2) rfl ?_
   refine oM (.int .i64 (n_1 + 1)) rfl rfl ?_
   refine HO.nil (tqn (?_))
   rw [hKe_1] at hM
   exact ⟨n_1 + 1, ⟨F_2, rfl, rfl, rfl, rfl, rfl, rfl, rfl, hK, hS, hLT, hLs, hM.1⟩, hM.2⟩
 ·
  replace hM := hM.2 (of_decide_eq_false c_1)
  refine HW.exit (thenQ_exit (thenQ_exit (blockQ_exit (tqn (?_)))))
  refine HW.seq ?_
  refine HW.region ?_
  refine oA (.int .i64 0) rfl rfl ?_
  refine oA (.bool false) rfl rfl ?_
  refine HO.nil (tqn (?_))
  refine HW.ret (?_)
  refine ⟨.inr rfl, .tuple #[.int .i64 0, .bool false], res2 rfl (rt rfl) (rt rfl), ?_⟩
  replace hS : St F_1 (fr) h_4 := hS.perm2 [] 2 rfl rfl
  exact ⟨F_1, 0, false, rfl, hK, hS, hLT, hLs, hM⟩
def repair_of_W (root : Int) (l : List TB) (Q : Int → (List TB) → Prop) : Prop :=
 tree_Of_W root l (fun r0_0_1 r0_1_1 r1_1 => Q r0_0_1 r0_1_1)
theorem repair_of_walk {F : Fz} {fr : List Ow} {h0 : Heap} (root : Int) (l : List TB) (vl : Value) (hS : St F (fr) h0) (hL_l : SliceF F h0 2 eB vl l) {Q : Int → (List TB) → Prop} (hM : repair_of_W root l Q) :
  HC Tryz.prog 50 #[.int .i64 root, vl] h0 fun u h' => ∃ (F' : Fz) (r_0_1 : Int) (r_1_1 : List TB) (vr_1_1 : Value), u = .agg #[.int .i64 r_0_1, vr_1_1] ∧ Kp F h0 F' h' ∧ St F' (Ow.own 52 2 eB vr_1_1 r_1_1 :: fr) h' ∧ (SliceF F' h' 2 eB vl l) ∧ Q r_0_1 r_1_1 := by
 unfold repair_of_W at hM
 have hK := Kp.refl F h0
 refine HC.of_HW (n := 14) Tryz.func50 rfl rfl (Nat.le_of_ble_eq_true rfl) ?_
 refine HW.seq ?_
 refine HW.region ?_
 refine HO.eff (wn) rfl (st_alloc (c := #[.int .i64 0, .slice none 0 0]) hS tz_31 rfl) ?_
 rintro _ h_1 ⟨b_1, rfl, hS, hk⟩
 replace hK := hK.trans hk
 replace hL_l := hL_l.kp hk
 refine HO.nil (tqn (?_))
 refine HW.seq ?_
 refine HW.region ?_
 refine oM (.int .i64 root) rfl rfl ?_
 refine oM (vl) rfl rfl ?_
 refine HO.call (wn) rfl (ec en_74 rfl rfl) (tree_Of_walk (fr := (Ow.box b_1 31 #[.int .i64 0, .slice none 0 0] :: fr)) root l vl hS hL_l hM) ?_
 rintro _ h_2 ⟨F_1, r0_0_1, r0_1_1, r1_1, vr0_1_1, rfl, hk, hS, _, hM⟩
 replace hK := hK.trans hk
 replace hL_l := hL_l.kp hk
 refine oM (.tuple #[.agg #[.int .i64 r0_0_1, vr0_1_1], .int .i64 r1_1]) rfl rfl ?_
 refine oV (.agg #[.int .i64 r0_0_1, vr0_1_1]) (q_extract rfl rfl) rfl ?_
 refine oV (.int .i64 r1_1) (q_extract rfl rfl) rfl ?_
 refine HO.eff (wn) rfl (st_alloc (c := #[.int .i64 0, .slice none 0 0]) hS tz_31 rfl) ?_
 rintro _ h_3 ⟨b_2, rfl, hS, hk⟩
 replace hK := hK.trans hk
 replace hL_l := hL_l.kp hk
 refine HO.sto (wn) rfl (st_storeAgg (c' := #[.int .i64 r0_0_1, vr0_1_1]) hS (i := 0) rfl ta_31 rfl rfl rfl (List.forall_mem_cons.2 ⟨rfl, (List.forall_mem_cons.2 ⟨(shp (hS.own 1 rfl).slice).one, (fun _ h => by cases h)⟩)⟩) (Nat.le_of_ble_eq_true rfl) rfl) ?_
 rintro h_4 ⟨hS, hk⟩
 replace hK := hK.trans hk
 replace hL_l := hL_l.kp hk
 refine oA (.int .i64 r1_1) rfl rfl ?_
 refine HO.nil (tqn (?_))
 refine HW.seq ?_
 refine HW.region ?_
 refine oV (.agg #[.int .i64 r0_0_1, vr0_1_1]) (q_loadAgg (cs := [.int .i64 r0_0_1, vr0_1_1]) ta_31 rfl rfl (Blk.cells (k := 2) (hS.box 0 rfl) rfl)) rfl ?_
 refine HO.sto (wn) rfl (st_storeAgg (c' := #[.int .i64 r0_0_1, vr0_1_1]) hS (i := 2) rfl ta_31 rfl rfl rfl (List.forall_mem_cons.2 ⟨rfl, (List.forall_mem_cons.2 ⟨(shp (hS.own 1 rfl).slice).one, (fun _ h => by cases h)⟩)⟩) (Nat.le_of_ble_eq_true rfl) rfl) ?_
 rintro h_5 ⟨hS, hk⟩
 replace hK := hK.trans hk
 replace hL_l := hL_l.kp hk
 refine HO.nil (tqn (?_))
 refine HW.ret (?_)
 refine ⟨.inr rfl, .agg #[.int .i64 r0_0_1, vr0_1_1], res1 rfl (rca (cs := [.int .i64 r0_0_1, vr0_1_1]) ta_31 rfl rfl (Blk.cells (k := 2) (hS.box 2 rfl) rfl)), ?_⟩
 replace hS : St F_1 (Ow.own 52 2 eB vr0_1_1 r0_1_1 :: fr) h_5 := hS.perm2 [1] 3 rfl rfl
 exact ⟨F_1, r0_0_1, r0_1_1, vr0_1_1, rfl, hK, hS, hL_l, hM⟩
def repair_join_1_W (s1 : Int) (c0_Root : Int) (c0_Links : List TB) (Q : Bool → Prop) : Prop :=
 tree_Has_W c0_Root c0_Links s1 (fun r_2 => Q (!r_2))
theorem repair_join_1_walk {F : Fz} {fr : List Ow} {h0 : Heap} (s1 : Int) (c0_Root : Int) (c0_Links : List TB) (bc0 : Nat) (vc0_Links : Value) (hS : St F (fr) h0) (hL_c0_Links : SliceF F h0 2 eB vc0_Links c0_Links) (hB_bc0 : RoF (Ow.box bc0 31 #[.int .i64 c0_Root, vc0_Links]) F h0) {Q : Bool → Prop} (hM : repair_join_1_W s1 c0_Root c0_Links Q) :
  HC Tryz.prog 62 #[.int .i64 s1, .pointer (some ⟨bc0, 0, none⟩)] h0 fun u h' => ∃ (F' : Fz) (r_1 : Bool), u = .bool r_1 ∧ Kp F h0 F' h' ∧ St F' (fr) h' ∧ (SliceF F' h' 2 eB vc0_Links c0_Links) ∧ (RoF (Ow.box bc0 31 #[.int .i64 c0_Root, vc0_Links]) F' h') ∧ Q r_1 := by
 unfold repair_join_1_W at hM
 have hK := Kp.refl F h0
 refine HC.of_HW (n := 8) Tryz.func62 rfl rfl (Nat.le_of_ble_eq_true rfl) ?_
 refine HW.seq ?_
 refine HW.region ?_
 refine oA (.bool false) rfl rfl ?_
 refine HO.nil (tqn (?_))
 refine HW.seq ?_
 refine HW.region ?_
 refine oV (.agg #[.int .i64 c0_Root, vc0_Links]) (q_loadAgg (cs := [.int .i64 c0_Root, vc0_Links]) ta_31 rfl rfl (Blk.cells (k := 2) hB_bc0.box rfl)) rfl ?_
 refine oM (.int .i64 s1) rfl rfl ?_
 refine HO.call (wn) rfl (ec en_49 rfl rfl) (tree_Has_walk (fr := (fr)) c0_Root c0_Links s1 vc0_Links hS hL_c0_Links hM) ?_
 rintro _ h_1 ⟨F_1, r_2, rfl, hk, hS, _, hM⟩
 replace hK := hK.trans hk
 replace hL_c0_Links := hL_c0_Links.kp hk
 replace hB_bc0 := hB_bc0.kp hk
 refine oV (.bool (!r_2)) (q_not rfl) rfl ?_
 refine oA (.bool (!r_2)) rfl rfl ?_
 refine HO.nil (tqn (?_))
 refine HW.ret (?_)
 refine ⟨.inr rfl, .bool (!r_2), res1 rfl (rt rfl), ?_⟩
 exact ⟨F_1, !r_2, rfl, hK, hS, hL_c0_Links, hB_bc0, hM⟩
def plan_Star_W (root : Int) (members : List Int) (Q : Int → (List TB) → Prop) : Prop :=
 plan_star_W root members (fun r_0_2 r_1_2 => Q r_0_2 r_1_2)
theorem plan_Star_walk {F : Fz} {fr : List Ow} {h0 : Heap} (root : Int) (members : List Int) (vmembers : Value) (hS : St F (fr) h0) (hLm : SliceF F h0 1 encI vmembers members) {Q : Int → (List TB) → Prop} (hM : plan_Star_W root members Q) :
  HC Tryz.prog 63 #[.int .i64 root, vmembers] h0 fun u h' => ∃ (F' : Fz) (r_0_1 : Int) (r_1_1 : List TB) (vr_1_1 : Value), u = .agg #[.int .i64 r_0_1, vr_1_1] ∧ Kp F h0 F' h' ∧ St F' (Ow.own 52 2 eB vr_1_1 r_1_1 :: fr) h' ∧ (SliceF F' h' 1 encI vmembers members) ∧ Q r_0_1 r_1_1 := by
 unfold plan_Star_W at hM
 have hK := Kp.refl F h0
 refine HC.of_HW (n := 8) Tryz.func63 rfl rfl (Nat.le_of_ble_eq_true rfl) ?_
 refine HW.seq ?_
 refine HW.region ?_
 refine HO.eff (wn) rfl (st_alloc (c := #[.int .i64 0, .slice none 0 0]) hS tz_31 rfl) ?_
 rintro _ h_1 ⟨b_1, rfl, hS, hk⟩
 replace hK := hK.trans hk
 replace hLm := hLm.kp hk
 refine HO.nil (tqn (?_))
 refine HW.seq ?_
 refine HW.region ?_
 refine oM (.int .i64 root) rfl rfl ?_
 refine oM (vmembers) rfl rfl ?_
 refine HO.call (wn) rfl (ec en_71 rfl rfl) (plan_star_walk (fr := (Ow.box b_1 31 #[.int .i64 0, .slice none 0 0] :: fr)) root members vmembers hS hLm hM) ?_
 rintro _ h_2 ⟨F_1, r_0_2, r_1_2, vr_1_2, rfl, hk, hS, _, hM⟩
 replace hK := hK.trans hk
 replace hLm := hLm.kp hk
 refine HO.sto (wn) rfl (st_storeAgg (c' := #[.int .i64 r_0_2, vr_1_2]) hS (i := 1) rfl ta_31 rfl rfl rfl (List.forall_mem_cons.2 ⟨rfl, (List.forall_mem_cons.2 ⟨(shp (hS.own 0 rfl).slice).one, (fun _ h => by cases h)⟩)⟩) (Nat.le_of_ble_eq_true rfl) rfl) ?_
 rintro h_3 ⟨hS, hk⟩
 replace hK := hK.trans hk
 replace hLm := hLm.kp hk
 refine HO.nil (tqn (?_))
 refine HW.ret (?_)
 refine ⟨.inr rfl, .agg #[.int .i64 r_0_2, vr_1_2], res1 rfl (rca (cs := [.int .i64 r_0_2, vr_1_2]) ta_31 rfl rfl (Blk.cells (k := 2) (hS.box 1 rfl) rfl)), ?_⟩
 replace hS : St F_1 (Ow.own 52 2 eB vr_1_2 r_1_2 :: fr) h_3 := hS.perm2 [0] 2 rfl rfl
 exact ⟨F_1, r_0_2, r_1_2, vr_1_2, rfl, hK, hS, hLm, hM⟩
def repair_join_2_W (b : TB) (c0_v : Int) (Q : Bool → Prop) : Prop :=
 Q (decide (b.2 = c0_v))
theorem repair_join_2_walk {F : Fz} {fr : List Ow} {h0 : Heap} (b : TB) (c0_v : Int) (bc0 : Nat) (hS : St F (fr) h0) (hB_bc0 : RoF (Ow.box bc0 3 #[.int .i64 c0_v]) F h0) {Q : Bool → Prop} (hM : repair_join_2_W b c0_v Q) :
  HC Tryz.prog 65 #[.agg #[.int .i64 b.1, .int .i64 b.2], .pointer (some ⟨bc0, 0, none⟩)] h0 fun u h' => ∃ (F' : Fz) (r_1 : Bool), u = .bool r_1 ∧ Kp F h0 F' h' ∧ St F' (fr) h' ∧ (RoF (Ow.box bc0 3 #[.int .i64 c0_v]) F' h') ∧ Q r_1 := by
 unfold repair_join_2_W at hM
 have hK := Kp.refl F h0
 refine HC.of_HW (n := 8) Tryz.func65 rfl rfl (Nat.le_of_ble_eq_true rfl) ?_
 refine HW.seq ?_
 refine HW.region ?_
 refine HO.eff (wn) rfl (st_box (c := #[.int .i64 b.1, .int .i64 b.2]) (k' := 2) hS rfl rfl) ?_
 rintro _ h_1 ⟨b_1, rfl, hS, hk⟩
 replace hK := hK.trans hk
 replace hB_bc0 := hB_bc0.kp hk
 refine oA (.bool false) rfl rfl ?_
 refine HO.nil (tqn (?_))
 refine HW.seq ?_
 refine HW.region ?_
 refine oV (.pointer (some ⟨b_1, 1, none⟩)) (qfA fa_52_1 rfl rfl) rfl ?_
 refine oV (.int .i64 b.2) (q_load to_3 rfl (Blk.cell (hS.box 0 rfl) rfl)) rfl ?_
 refine oV (.int .i64 c0_v) (q_load to_3 rfl (Blk.cell hB_bc0.box rfl)) rfl ?_
 refine oV (.bool (decide (b.2 = c0_v))) (q_eql rfl rfl) rfl ?_
 refine oA (.bool (decide (b.2 = c0_v))) rfl rfl ?_
 refine HO.nil (tqn (?_))
 refine HW.ret (?_)
 refine ⟨.inr rfl, .bool (decide (b.2 = c0_v)), res1 rfl (rt rfl), ?_⟩
 replace hS : St F (fr) h_1 := hS.perm2 [] 1 rfl rfl
 exact ⟨F, decide (b.2 = c0_v), rfl, hK, hS, hB_bc0, hM⟩
def slices_DeleteFunc_s_api_Branch_api_Branch_l2 (cf_del : TB → Bool) (Q : (List TB) → Prop) (K_1 : (List TB) → Int → Int → Prop) (l_1 : List TB) (i_1 : Int) (j_1 : Int) : Prop :=
 (j_1 < (l_1.length : Int) → ((0 : Int) ≤ j_1 ∧ j_1 < (l_1.length : Int)) ∧ (((!(cf_del (gi l_1 j_1))) = true → ((0 : Int) ≤ i_1 ∧ i_1 < (l_1.length : Int)) ∧ ((I64 (i_1 + 1)) ∧ ((I64 (j_1 + 1)) ∧ (K_1 (l_1.set (i_1).toNat (gi l_1 j_1)) (i_1 + 1) (j_1 + 1))))) ∧ ((!(cf_del (gi l_1 j_1))) = false → (I64 (j_1 + 1)) ∧ (K_1 l_1 i_1 (j_1 + 1))))) ∧ (¬ (j_1 < (l_1.length : Int)) → ((0 : Int) ≤ i_1 ∧ i_1 ≤ (l_1.length : Int)) ∧ (((0 : Int) ≤ i_1 ∧ i_1 ≤ (l_1.length : Int) ∧ (l_1.length : Int) ≤ (l_1.length : Int)) ∧ (((0 : Int) ≤ i_1 ∧ i_1 ≤ ((clr l_1 i_1 (l_1.length : Int)).length : Int)) ∧ (Q (cut (clr l_1 i_1 (l_1.length : Int)) 0 i_1)))))
def slices_DeleteFunc_s_api_Branch_api_Branch_W (s1 : List TB) (cf_del : TB → Bool) (Q : (List TB) → Prop) : Prop :=
 slices_IndexFunc_s_api_Branch_api_Branch_W s1 cf_del (fun r_2 => (r_2 = (-1) → Q s1) ∧ (¬ (r_2 = (-1)) → (I64 (r_2 + 1)) ∧ (loopW (fun (K_1 : (List TB × Int × Int) → Prop) (s : List TB × Int × Int) => slices_DeleteFunc_s_api_Branch_api_Branch_l2 cf_del Q (fun l_1 i_1 j_1 => K_1 (l_1, i_1, j_1)) s.1 s.2.1 s.2.2) (s1, r_2, r_2 + 1))))
theorem slices_DeleteFunc_s_api_Branch_api_Branch_walk {F : Fz} {fr : List Ow} {h0 : Heap} (s1 : List TB) (cf_del : TB → Bool) (vs : Value) (g_del : Nat) (fs_del : Array Value) (cs_del : Array Value) (hS : St F (Ow.own 52 2 eB vs s1 :: fr) h0) (hF_cf_del : FnP Tryz.prog F h0 g_del fs_del cs_del (fun x : TB => [.agg #[.int .i64 x.1, .int .i64 x.2]]) (fun x => .bool (cf_del x))) {Q : (List TB) → Prop} (hM : slices_DeleteFunc_s_api_Branch_api_Branch_W s1 cf_del Q) :
  HC Tryz.prog 55 #[vs, .func (.func g_del) fs_del cs_del] h0 fun u h' => ∃ (F' : Fz) (r_1 : List TB) (vr_1 : Value), u = vr_1 ∧ Kp F h0 F' h' ∧ St F' (Ow.own 52 2 eB vr_1 r_1 :: fr) h' ∧ (FnP Tryz.prog F' h' g_del fs_del cs_del (fun x : TB => [.agg #[.int .i64 x.1, .int .i64 x.2]]) (fun x => .bool (cf_del x))) ∧ Q r_1 := by
 unfold slices_DeleteFunc_s_api_Branch_api_Branch_W at hM
 have hK := Kp.refl F h0
 refine HC.of_HW (n := 42) Tryz.func55 rfl rfl (Nat.le_of_ble_eq_true rfl) ?_
 refine HW.seq ?_
 refine HW.region ?_
 refine oA (.slice none 0 0) rfl rfl ?_
 refine HO.nil (tqn (?_))
 refine HW.seq ?_
 refine HW.region ?_
 refine oM (vs) rfl rfl ?_
 refine oM (.func (.func g_del) fs_del cs_del) rfl rfl ?_
 replace hS : St F (Ow.own 52 2 eB vs s1 :: fr) h0 := hS
 have hZ_1 := hS
 have hkz_1 := (hS.freeze).2
 replace hS := hS.freeze.1
 have hL_1 : SliceF (fun bz_ => F bz_ ∨ (Ow.own 52 2 eB vs s1).foot bz_) h0 2 eB vs s1 := ⟨(hZ_1.own 0 rfl).slice, fun _ b hb => .inr hb⟩
 refine HO.call (wn) rfl (ec en_85 rfl rfl) (slices_IndexFunc_s_api_Branch_api_Branch_walk (fr := (fr)) s1 cf_del vs g_del fs_del cs_del hS hL_1 (hF_cf_del.kp hkz_1) hM) ?_
 rintro _ h_1 ⟨F_1, r_2, rfl, hk, hS, _, _, hM⟩
 obtain ⟨hS, hk⟩ := hZ_1.back hk hS
 generalize (fun bz_ => F_1 bz_ ∧ ¬ (Ow.own 52 2 eB vs s1).foot bz_) = F_2 at hS hk
 replace hK := hK.trans hk
 replace hF_cf_del := hF_cf_del.kp hk
 refine oA (.int .i64 r_2) rfl rfl ?_
 refine HO.nil (tqn (?_))
 refine HW.seq ?_
 refine HW.seq ?_
 refine HW.region ?_
 refine oM (.int .i64 r_2) rfl rfl ?_
 refine oV (.bool (decide (r_2 = (-1)))) (q_eql rfl rfl) rfl ?_
 refine HO.nil (tqn (?_))
 refine HW.cond (decide (r_2 = (-1))) rfl (fun c_1 => ?_) (fun c_1 => ?_)
 ·
  replace hM := hM.1 (of_decide_eq_true c_1)
  refine HW.seq ?_
  refine HW.region ?_
  refine oM (vs) rfl rfl ?_
  refine oA (vs) rfl rfl ?_
  refine HO.nil (tqn (?_))
  refine HW.ret (thenQ_ret (?_))
  refine ⟨.inr rfl, vs, res1 rfl (rt rfl), ?_⟩
  exact ⟨F_2, s1, vs, rfl, hK, hS, hF_cf_del, hM⟩
 ·
  replace hM := hM.2 (of_decide_eq_false c_1)
  refine HW.skip (tqn (?_))
  refine HW.seq ?_
  refine HW.seq ?_
  refine HW.region ?_
  refine oM (.int .i64 r_2) rfl rfl ?_
  obtain ⟨ho_1, hM⟩ := hM
  refine oV (.int .i64 (r_2 + 1)) (q_addN _ rfl rfl rfl ho_1.1 ho_1.2) rfl ?_
  refine oA (.int .i64 (r_2 + 1)) rfl rfl ?_
  refine HO.nil (tqn (?_))
  refine HW.block ?_
  obtain ⟨I_1, m_1, hI_1, hR_1⟩ := hM
  refine HW.loop (S := List TB × Int × Int) (fun s f h => match s with | (l_1, i_1, j_1) => ∃ (F' : Fz), f 0 = vs ∧ f 1 = .func (.func g_del) fs_del cs_del ∧ f 4 = .slice none 0 0 ∧ f 5 = .int .i64 i_1 ∧ f 6 = .int .i64 j_1 ∧ Kp F h0 F' h ∧ St F' (Ow.own 52 2 eB vs l_1 :: fr) h ∧ (FnP Tryz.prog F' h g_del fs_del cs_del (fun x : TB => [.agg #[.int .i64 x.1, .int .i64 x.2]]) (fun x => .bool (cf_del x))) ∧ I_1 (l_1, i_1, j_1)) m_1 (s1, r_2, r_2 + 1) ⟨F_2, rfl, rfl, rfl, rfl, rfl, hK, hS, hF_cf_del, hI_1⟩ ?_
  rintro ⟨l_1, i_1, j_1⟩ f_1 h_2 ⟨F_3, e0, e1, e4, e5, e6, hK, hS, hF_cf_del, hI0⟩
  obtain ⟨K_1, hKe_1⟩ : ∃ K : (List TB) → Int → Int → Prop, K = fun l_1' i_1' j_1' => I_1 (l_1', i_1', j_1') ∧ m_1 (l_1', i_1', j_1') < m_1 (l_1, i_1, j_1) := ⟨_, rfl⟩
  have hM : slices_DeleteFunc_s_api_Branch_api_Branch_l2 cf_del Q K_1 l_1 i_1 j_1 := by rw [hKe_1]; exact hR_1 (l_1, i_1, j_1) hI0
  unfold slices_DeleteFunc_s_api_Branch_api_Branch_l2 at hM
  refine HW.fr [(0, vs), (1, .func (.func g_del) fs_del cs_del), (4, .slice none 0 0), (5, .int .i64 i_1), (6, .int .i64 j_1)] ⟨e0, e1, e4, e5, e6, trivial⟩ ?_
  refine HW.seq ?_
  refine HW.seq ?_
  refine HW.region ?_
  refine oM (.int .i64 j_1) rfl rfl ?_
  refine oM (vs) rfl rfl ?_
  refine oV (.int .i64 (l_1.length : Int)) (q_len ts_29 (shp (hS.own 0 rfl).slice) rfl rfl) rfl ?_
  refine oV (.bool (decide (j_1 < (l_1.length : Int)))) (q_lss rfl rfl) rfl ?_
  refine HO.nil (tqn (?_))
  refine HW.cond (decide (j_1 < (l_1.length : Int))) rfl (fun c_2 => ?_) (fun c_2 => ?_)
  ·
   replace hM := hM.1 (of_decide_eq_true c_2)
   refine HW.skip (tqn (?_))
   refine HW.seq ?_
   refine HW.block ?_
   refine HW.seq ?_
   refine HW.region ?_
   refine oM (vs) rfl rfl ?_
   refine oM (.int .i64 j_1) rfl rfl ?_
   obtain ⟨ho_2, hM⟩ := hM
   refine oV (elemPtr 2 vs (j_1).toNat) (q_idx ts_29 (hS.own 0 rfl).slice rfl rfl ho_2) rfl ?_
   refine oV (.agg #[.int .i64 ((gi l_1 j_1).1), .int .i64 ((gi l_1 j_1).2)]) (q_ldElemAgg (cs := [.int .i64 ((gi l_1 j_1).1), .int .i64 ((gi l_1 j_1).2)]) ta_52 (hS.own 0 rfl).slice rfl ho_2 rfl) rfl ?_
   refine HO.eff (wn) rfl (st_alloc (c := #[.int .i64 0, .int .i64 0]) hS tz_52 rfl) ?_
   rintro _ h_3 ⟨b_1, rfl, hS, hk⟩
   replace hK := hK.trans hk
   replace hF_cf_del := hF_cf_del.kp hk
   refine HO.sto (wn) rfl (st_storeAgg (c' := #[.int .i64 ((gi l_1 j_1).1), .int .i64 ((gi l_1 j_1).2)]) hS (i := 0) rfl ta_52 rfl rfl rfl (by simp [Value.oneCell']) (Nat.le_of_ble_eq_true rfl) rfl) ?_
   rintro h_4 ⟨hS, hk⟩
   replace hK := hK.trans hk
   replace hF_cf_del := hF_cf_del.kp hk
   refine HO.nil (tqn (?_))
   refine HW.seq ?_
   refine HW.region ?_
   refine oM (.func (.func g_del) fs_del cs_del) rfl rfl ?_
   refine oV (.agg #[.int .i64 ((gi l_1 j_1).1), .int .i64 ((gi l_1 j_1).2)]) (q_loadAgg (cs := [.int .i64 ((gi l_1 j_1).1), .int .i64 ((gi l_1 j_1).2)]) ta_52 rfl rfl (Blk.cells (k := 2) (hS.box 0 rfl) rfl)) rfl ?_
   refine HO.call (wn) rfl (hF_cf_del.ec (gi l_1 j_1) rfl rfl) (hF_cf_del.hc (gi l_1 j_1) hS) ?_
   rintro _ h_5 ⟨rfl, hS, hk⟩
   replace hK := hK.trans hk
   replace hF_cf_del := hF_cf_del.kp hk
   refine oV (.bool (!(cf_del (gi l_1 j_1)))) (q_not rfl) rfl ?_
   refine HO.nil (tqn (?_))
   refine HW.cond (!(cf_del (gi l_1 j_1))) rfl (fun c_3 => ?_) (fun c_3 => ?_)
   ·
    replace hM := hM.1 c_3
    refine HW.seq ?_
    refine HW.region ?_
    refine oM (vs) rfl rfl ?_
    refine oM (.int .i64 i_1) rfl rfl ?_
    refine oV (.agg #[.int .i64 ((gi l_1 j_1).1), .int .i64 ((gi l_1 j_1).2)]) (q_loadAgg (cs := [.int .i64 ((gi l_1 j_1).1), .int .i64 ((gi l_1 j_1).2)]) ta_52 rfl rfl (Blk.cells (k := 2) (hS.box 0 rfl) rfl)) rfl ?_
    obtain ⟨ho_3, hM⟩ := hM
    refine oV (elemPtr 2 vs (i_1).toNat) (q_idx ts_29 (hS.own 1 rfl).slice rfl rfl ho_3) rfl ?_
    refine HO.sto (wn) rfl (st_storeElem (a := (gi l_1 j_1)) (t := i_1) hS (i := 1) rfl ta_52 rfl ho_3 rfl rfl rfl (by simp [Value.oneCell'])) ?_
    rintro h_6 ⟨hS, hk⟩
    replace hK := hK.trans hk
    replace hF_cf_del := hF_cf_del.kp hk
    refine HO.nil (tqn (?_))
    refine HW.region ?_
    refine oM (.int .i64 i_1) rfl rfl ?_
    obtain ⟨ho_4, hM⟩ := hM
    refine oV (.int .i64 (i_1 + 1)) (q_addN _ rfl rfl rfl ho_4.1 ho_4.2) rfl ?_
    refine oA (.int .i64 (i_1 + 1)) rfl rfl ?_
    refine HO.nil (blockQ_normal (tqn (?_)))
    refine HW.region ?_
    refine oM (.int .i64 j_1) rfl rfl ?_
    obtain ⟨ho_5, hM⟩ := hM
    refine oV (.int .i64 (j_1 + 1)) (q_addN _ rfl rfl rfl ho_5.1 ho_5.2) rfl ?_
    refine oA (.int .i64 (j_1 + 1)) rfl rfl ?_
    refine HO.nil (tqn (?_))
    replace hS : St F_3 (Ow.own 52 2 eB vs (l_1.set (i_1).toNat (gi l_1 j_1)) :: fr) h_6 := hS.perm2 [1] 2 rfl rfl
    rw [hKe_1] at hM
    exact ⟨(l_1.set (i_1).toNat (gi l_1 j_1), i_1 + 1, j_1 + 1), ⟨F_3, rfl, rfl, rfl, rfl, rfl, hK, hS, hF_cf_del, hM.1⟩, hM.2⟩
   ·
    replace hM := hM.2 c_3
    refine HW.skip (blockQ_normal (tqn (?_)))
    refine HW.region ?_
    refine oM (.int .i64 j_1) rfl rfl ?_
    obtain ⟨ho_6, hM⟩ := hM
    refine oV (.int .i64 (j_1 + 1)) (q_addN _ rfl rfl rfl ho_6.1 ho_6.2) rfl ?_
    refine oA (.int .i64 (j_1 + 1)) rfl rfl ?_
    refine HO.nil (tqn (?_))
    replace hS : St F_3 (Ow.own 52 2 eB vs l_1 :: fr) h_5 := hS.perm2 [1] 2 rfl rfl
    rw [hKe_1] at hM
    exact ⟨(l_1, i_1, j_1 + 1), ⟨F_3, rfl, rfl, rfl, rfl, rfl, hK, hS, hF_cf_del, hM.1⟩, hM.2⟩
  ·
   replace hM := hM.2 (of_decide_eq_false c_2)
   refine HW.exit (thenQ_exit (thenQ_exit (blockQ_exit (tqn (?_)))))
   refine HW.seq ?_
   refine HW.region ?_
   refine oM (vs) rfl rfl ?_
   refine oM (.int .i64 i_1) rfl rfl ?_
   obtain ⟨ho_7, hM⟩ := hM
   refine oV (cutV 2 vs (i_1).toNat ((l_1.length : Int)).toNat) (q_slL ts_29 (hS.own 0 rfl).slice rfl rfl ho_7) rfl ?_
   obtain ⟨ho_8, hM⟩ := hM
   refine HO.eff (wn) rfl (st_clearS (lo := i_1) (hi := (l_1.length : Int)) (z := .agg #[.int .i64 0, .int .i64 0]) hS (i := 0) rfl te_29 tz_52 rfl (by intro u hu; simp [eB, encI, encN, encB, encT, default] at hu; rcases hu with rfl | rfl <;> rfl) rfl ho_8 rfl) ?_
   rintro _ h_7 ⟨rfl, hS, hk⟩
   replace hK := hK.trans hk
   replace hF_cf_del := hF_cf_del.kp hk
   refine HO.nil (tqn (?_))
   refine HW.seq ?_
   refine HW.region ?_
   refine oM (vs) rfl rfl ?_
   refine oM (.int .i64 i_1) rfl rfl ?_
   obtain ⟨ho_9, hM⟩ := hM
   refine oV (cutV 2 vs (0 : Int).toNat (i_1).toNat) (q_slH ts_29 (hS.own 0 rfl).slice rfl rfl ho_9) rfl ?_
   refine oA (cutV 2 vs (0 : Int).toNat (i_1).toNat) rfl rfl ?_
   refine HO.nil (tqn (?_))
   refine HW.ret (?_)
   refine ⟨.inr rfl, cutV 2 vs (0 : Int).toNat (i_1).toNat, res1 rfl (rt rfl), ?_⟩
   replace hS := hS.shrink 0 rfl i_1 ho_9.1 ho_9.2
   exact ⟨F_3, cut (clr l_1 i_1 (l_1.length : Int)) 0 i_1, cutV 2 vs (0 : Int).toNat (i_1).toNat, rfl, hK, hS, hF_cf_del, hM⟩
end Go.Wk
