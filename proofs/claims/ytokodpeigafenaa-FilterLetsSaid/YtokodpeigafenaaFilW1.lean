/- Walks and mirrors of Filter laws. -/
import Derived.Test.YtokodpeigafenaaTxt
import Derived.Test.YtokodpeigafenaaLayF
import Derived.Test.YtokodpeigafenaaProg
set_option linter.unusedSimpArgs false
set_option linter.unusedVariables false
set_option linter.unusedSectionVars false
namespace Go.Wk
open Go.HL
open Go.Proofs hiding encI
variable [DM]
abbrev T_api_Addr := Bool × Ba 16
def e_api_Addr (x : T_api_Addr) : List Value := [.bool x.1, .int .u8 (b8 x.2 0), .int .u8 (b8 x.2 1), .int .u8 (b8 x.2 2), .int .u8 (b8 x.2 3), .int .u8 (b8 x.2 4), .int .u8 (b8 x.2 5), .int .u8 (b8 x.2 6), .int .u8 (b8 x.2 7), .int .u8 (b8 x.2 8), .int .u8 (b8 x.2 9), .int .u8 (b8 x.2 10), .int .u8 (b8 x.2 11), .int .u8 (b8 x.2 12), .int .u8 (b8 x.2 13), .int .u8 (b8 x.2 14), .int .u8 (b8 x.2 15)]
theorem one_e_api_Addr (x : T_api_Addr) : ∀ v ∈ e_api_Addr x, v.oneCell' = true := by intro v hv; simp [e_api_Addr] at hv; rcases hv with rfl | rfl | rfl | rfl | rfl | rfl | rfl | rfl | rfl | rfl | rfl | rfl | rfl | rfl | rfl | rfl | rfl <;> rfl
theorem tz_34 : TZero Try.prog 34 (.agg #[.bool false, .int .u8 0, .int .u8 0, .int .u8 0, .int .u8 0, .int .u8 0, .int .u8 0, .int .u8 0, .int .u8 0, .int .u8 0, .int .u8 0, .int .u8 0, .int .u8 0, .int .u8 0, .int .u8 0, .int .u8 0, .int .u8 0]) := Try.zeroValue34
theorem ts_22 : TSlice Try.prog 22 34 17 := ⟨Try.underlying22, Try.sizeOf34⟩
theorem tl_22 : TLit Try.prog 22 34 17 #[.bool false, .int .u8 0, .int .u8 0, .int .u8 0, .int .u8 0, .int .u8 0, .int .u8 0, .int .u8 0, .int .u8 0, .int .u8 0, .int .u8 0, .int .u8 0, .int .u8 0, .int .u8 0, .int .u8 0, .int .u8 0, .int .u8 0] := tlit ts_22 tz_34 rfl
theorem te_22 : TElem Try.prog 22 34 17 17 := ⟨Try.underlying22, ⟨Try.t34, .agg #[.bool false, .int .u8 0, .int .u8 0, .int .u8 0, .int .u8 0, .int .u8 0, .int .u8 0, .int .u8 0, .int .u8 0, .int .u8 0, .int .u8 0, .int .u8 0, .int .u8 0, .int .u8 0, .int .u8 0, .int .u8 0, .int .u8 0], by kernel_rfl, by kernel_rfl, by kernel_rfl, by kernel_rfl, by kernel_rfl⟩, by decide⟩
theorem ta_34 : TAgg Try.prog 34 17 := ⟨Try.isAgg34, Try.sizeOf34⟩
theorem en_56 (args : Array Value) (w : World) : (callFunc 56 args).run Try.prog w = .ok (.enter 56 args) w := by kernel_rfl
theorem tz_32 : TZero Try.prog 32 (.agg #[.int .u8 0, .int .u8 0, .int .u8 0, .int .u8 0, .int .u8 0, .int .u8 0, .int .u8 0, .int .u8 0, .int .u8 0, .int .u8 0, .int .u8 0, .int .u8 0, .int .u8 0, .int .u8 0, .int .u8 0, .int .u8 0]) := Try.zeroValue32
theorem to_5 : TOne Try.prog 5 := ⟨Try.isAgg5, Try.sizeOf5⟩
theorem tr_32 : TArr Try.prog 32 16 5 := ⟨Try.underlying32, to_5, Try.underlying5, ⟨Try.t5, by kernel_rfl⟩, by kernel_rfl⟩
theorem tb_32 : TBuildA Try.prog 32 #[.int .u8 0, .int .u8 0, .int .u8 0, .int .u8 0, .int .u8 0, .int .u8 0, .int .u8 0, .int .u8 0, .int .u8 0, .int .u8 0, .int .u8 0, .int .u8 0, .int .u8 0, .int .u8 0, .int .u8 0, .int .u8 0] := tbuildA tr_32 tz_32 rfl
theorem tp_34 : TPlaces Try.prog 34 #[(0, 1), (1, 16)] #[.bool false, .int .u8 0, .int .u8 0, .int .u8 0, .int .u8 0, .int .u8 0, .int .u8 0, .int .u8 0, .int .u8 0, .int .u8 0, .int .u8 0, .int .u8 0, .int .u8 0, .int .u8 0, .int .u8 0, .int .u8 0, .int .u8 0] := tplaces Try.runUnderlying34 Try.zeroValue34 rfl (fun w => by kernel_rfl)
theorem fa_34_0 : FieldAt Try.prog 34 0 0 := fun a w => by kernel_rfl
theorem to_4 : TOne Try.prog 4 := ⟨Try.isAgg4, Try.sizeOf4⟩
theorem fa_34_1 : FieldAt Try.prog 34 1 1 := fun a w => by kernel_rfl
theorem en_57 (args : Array Value) (w : World) : (callFunc 57 args).run Try.prog w = .ok (.enter 57 args) w := by kernel_rfl
theorem teq_32 (d : Nat) (a b : Ba 16) (w : World) : (Op.equalIn (d + 2) 32 (.agg (arrCells a).toArray) (.agg (arrCells b).toArray)).run Try.prog w = .ok (decide (a = b)) w := teqArr tr_32 d a b w
set_option maxRecDepth 100000 in
theorem teq_34 (d : Nat) (a b : T_api_Addr) (w : World) : (Op.equalIn (d + 3) 34 (.agg (e_api_Addr a).toArray) (.agg (e_api_Addr b).toArray)).run Try.prog w = .ok (decide (a = b)) w := by
  refine (eqs w (d + 2) 34 _ _ Try.underlying34 (by kernel_rfl) (eqf_cons w (a := .bool a.1) (b := .bool b.1) (by decide) (by kernel_rfl) (by kernel_rfl) (run_equalIn_bool' w _ _ _ _ Try.underlying4) (eqf_cons w (a := .agg (arrCells a.2).toArray) (b := .agg (arrCells b.2).toArray) (by decide) (by kernel_rfl) (by kernel_rfl) (teq_32 (d + 0) _ _ w) (eqf_nil w)))).trans ?_
  congr 1; rw [Bool.eq_iff_iff]; simp [Prod.ext_iff]
theorem mixed : Try.prog.follows .mixedOrders = true := by kernel_rfl
theorem en_48 (args : Array Value) (w : World) : (callFunc 48 args).run Try.prog w = .ok (.enter 48 args) w := by kernel_rfl
theorem ts_78 : TSlice Try.prog 78 5 1 := ⟨Try.underlying78, Try.sizeOf5⟩
theorem en_61 (args : Array Value) (w : World) : (callFunc 61 args).run Try.prog w = .ok (.enter 61 args) w := by kernel_rfl
theorem en_60 (args : Array Value) (w : World) : (callFunc 60 args).run Try.prog w = .ok (.enter 60 args) w := by kernel_rfl
theorem en_41 (args : Array Value) (w : World) : (callFunc 41 args).run Try.prog w = .ok (.enter 41 args) w := by kernel_rfl
theorem en_47 (args : Array Value) (w : World) : (callFunc 47 args).run Try.prog w = .ok (.enter 47 args) w := by kernel_rfl
theorem en_46 (args : Array Value) (w : World) : (callFunc 46 args).run Try.prog w = .ok (.enter 46 args) w := by kernel_rfl
theorem en_50 (args : Array Value) (w : World) : (callFunc 50 args).run Try.prog w = .ok (.enter 50 args) w := by kernel_rfl
theorem en_49 (args : Array Value) (w : World) : (callFunc 49 args).run Try.prog w = .ok (.enter 49 args) w := by kernel_rfl
theorem en_51 (args : Array Value) (w : World) : (callFunc 51 args).run Try.prog w = .ok (.enter 51 args) w := by kernel_rfl
theorem tz_24 : TZero Try.prog 24 (.agg #[.bool false, .slice none 0 0, .slice none 0 0]) := Try.zeroValue24
theorem fa_24_1 : FieldAt Try.prog 24 1 1 := fun a w => by kernel_rfl
theorem to_22 : TOne Try.prog 22 := ⟨Try.isAgg22, Try.sizeOf22⟩
theorem fa_24_2 : FieldAt Try.prog 24 2 2 := fun a w => by kernel_rfl
theorem ta_24 : TAgg Try.prog 24 3 := ⟨Try.isAgg24, Try.sizeOf24⟩
theorem tz_22 : TZero Try.prog 22 (.slice none 0 0) := Try.zeroValue22
theorem en_62 (args : Array Value) (w : World) : (callFunc 62 args).run Try.prog w = .ok (.enter 62 args) w := by kernel_rfl
theorem en_53 (args : Array Value) (w : World) : (callFunc 53 args).run Try.prog w = .ok (.enter 53 args) w := by kernel_rfl
theorem en_54 (args : Array Value) (w : World) : (callFunc 54 args).run Try.prog w = .ok (.enter 54 args) w := by kernel_rfl
theorem en_30 (args : Array Value) (w : World) : (callFunc 30 args).run Try.prog w = .ok (.enter 30 args) w := by kernel_rfl
theorem en_38 (args : Array Value) (w : World) : (callFunc 38 args).run Try.prog w = .ok (.enter 38 args) w := by kernel_rfl
theorem en_39 (args : Array Value) (w : World) : (callFunc 39 args).run Try.prog w = .ok (.enter 39 args) w := by kernel_rfl
theorem fa_24_0 : FieldAt Try.prog 24 0 0 := fun a w => by kernel_rfl
theorem en_37 (args : Array Value) (w : World) : (callFunc 37 args).run Try.prog w = .ok (.enter 37 args) w := by kernel_rfl
theorem en_40 (args : Array Value) (w : World) : (callFunc 40 args).run Try.prog w = .ok (.enter 40 args) w := by kernel_rfl
theorem tp_24 : TPlaces Try.prog 24 #[(0, 1), (1, 1), (2, 1)] #[.bool false, .slice none 0 0, .slice none 0 0] := tplaces Try.runUnderlying24 Try.zeroValue24 rfl (fun w => by kernel_rfl)
theorem en_13 (args : Array Value) (w : World) : (callFunc 13 args).run Try.prog w = .ok (.enter 13 args) w := by kernel_rfl
theorem en_44 (args : Array Value) (w : World) : (callFunc 44 args).run Try.prog w = .ok (.enter 44 args) w := by kernel_rfl
theorem en_45 (args : Array Value) (w : World) : (callFunc 45 args).run Try.prog w = .ok (.enter 45 args) w := by kernel_rfl
theorem en_29 (args : Array Value) (w : World) : (callFunc 29 args).run Try.prog w = .ok (.enter 29 args) w := by kernel_rfl
theorem en_8 (args : Array Value) (w : World) : (callFunc 8 args).run Try.prog w = .ok (.enter 8 args) w := by kernel_rfl
theorem en_42 (args : Array Value) (w : World) : (callFunc 42 args).run Try.prog w = .ok (.enter 42 args) w := by kernel_rfl
theorem en_12 (args : Array Value) (w : World) : (callFunc 12 args).run Try.prog w = .ok (.enter 12 args) w := by kernel_rfl
theorem en_35 (args : Array Value) (w : World) : (callFunc 35 args).run Try.prog w = .ok (.enter 35 args) w := by kernel_rfl
theorem en_36 (args : Array Value) (w : World) : (callFunc 36 args).run Try.prog w = .ok (.enter 36 args) w := by kernel_rfl
theorem tz_29 : TZero Try.prog 29 (.agg #[.bool false, .slice none 0 0, .slice none 0 0, .slice none 0 0, .slice none 0 0, .bool false, .slice none 0 0, .bool false]) := Try.zeroValue29
theorem tp_29 : TPlaces Try.prog 29 #[(0, 3), (3, 1), (4, 1), (5, 1), (6, 1), (7, 1)] #[.bool false, .slice none 0 0, .slice none 0 0, .slice none 0 0, .slice none 0 0, .bool false, .slice none 0 0, .bool false] := tplaces Try.runUnderlying29 Try.zeroValue29 rfl (fun w => by kernel_rfl)
theorem ta_29 : TAgg Try.prog 29 8 := ⟨Try.isAgg29, Try.sizeOf29⟩
theorem fa_29_0 : FieldAt Try.prog 29 0 0 := fun a w => by kernel_rfl
theorem fa_29_1 : FieldAt Try.prog 29 1 3 := fun a w => by kernel_rfl
theorem fa_29_4 : FieldAt Try.prog 29 4 6 := fun a w => by kernel_rfl
theorem fa_29_5 : FieldAt Try.prog 29 5 7 := fun a w => by kernel_rfl
theorem fa_29_3 : FieldAt Try.prog 29 3 5 := fun a w => by kernel_rfl
theorem fa_29_2 : FieldAt Try.prog 29 2 4 := fun a w => by kernel_rfl
theorem en_31 (args : Array Value) (w : World) : (callFunc 31 args).run Try.prog w = .ok (.enter 31 args) w := by kernel_rfl
theorem en_32 (args : Array Value) (w : World) : (callFunc 32 args).run Try.prog w = .ok (.enter 32 args) w := by kernel_rfl
theorem en_52 (args : Array Value) (w : World) : (callFunc 52 args).run Try.prog w = .ok (.enter 52 args) w := by kernel_rfl
theorem en_33 (args : Array Value) (w : World) : (callFunc 33 args).run Try.prog w = .ok (.enter 33 args) w := by kernel_rfl
theorem en_34 (args : Array Value) (w : World) : (callFunc 34 args).run Try.prog w = .ok (.enter 34 args) w := by kernel_rfl
theorem en_10 (args : Array Value) (w : World) : (callFunc 10 args).run Try.prog w = .ok (.enter 10 args) w := by kernel_rfl
theorem en_11 (args : Array Value) (w : World) : (callFunc 11 args).run Try.prog w = .ok (.enter 11 args) w := by kernel_rfl
theorem en_9 (args : Array Value) (w : World) : (callFunc 9 args).run Try.prog w = .ok (.enter 9 args) w := by kernel_rfl
theorem en_28 (args : Array Value) (w : World) : (callFunc 28 args).run Try.prog w = .ok (.enter 28 args) w := by kernel_rfl
def slices_Clone_s_api_Addr_api_Addr_W (s1 : List T_api_Addr) (Q : (List T_api_Addr) → Prop) : Prop :=
  (s1 = [] → Q []) ∧ (True → ((([] : List T_api_Addr).length + s1.length) * 17 ≤ 140737488355328) ∧ (Q (([] : List T_api_Addr) ++ s1)))
set_option maxHeartbeats 40000000 in
set_option maxRecDepth 100000 in
theorem slices_Clone_s_api_Addr_api_Addr_walk {F : Fz} {fr : List Ow} {h0 : Heap} (s1 : List T_api_Addr) (vs : Value) (hS : St F (fr) h0) (hL_s1 : SliceF F h0 17 e_api_Addr vs s1) {Q : (List T_api_Addr) → Prop} (hM : slices_Clone_s_api_Addr_api_Addr_W s1 Q) :
    HC Try.prog 41 #[vs] h0 fun u h' => ∃ (F' : Fz) (r_1 : List T_api_Addr) (vr_1 : Value), u = vr_1 ∧ Kp F h0 F' h' ∧ St F' (Ow.own 34 17 e_api_Addr vr_1 r_1 :: fr) h' ∧ (SliceF F' h' 17 e_api_Addr vs s1) ∧ Q r_1 := by
  unfold slices_Clone_s_api_Addr_api_Addr_W at hM
  have hK := Kp.refl F h0
  refine HC.of_HW (n := 8) Try.func41 rfl rfl (Nat.le_of_ble_eq_true rfl) ?_
  refine HW.seq ?_
  refine HW.region ?_
  refine HO.val (v := .slice none 0 0) (want_none) rfl (q_assign rfl) ?_
  refine HO.nil (thenQ_normal (?_))
  refine HW.seq ?_
  refine HW.seq ?_
  refine HW.region ?_
  refine HO.val (v := vs) (want_none) rfl (q_move rfl) ?_
  refine HO.val (v := .bool (isNil vs)) (want_none) rfl (q_eqlSnil Try.underlying22 (shp hL_s1.is) rfl rfl) ?_
  refine HO.nil (thenQ_normal (?_))
  refine HW.cond (isNil vs) rfl (fun c_1 => ?_) (fun c_1 => ?_)
  · replace hM := hM.1 (isNil_nil hL_s1.is c_1)
    refine HW.seq ?_
    refine HW.region ?_
    refine HO.val (v := .slice none 0 0) (want_none) rfl (q_assign rfl) ?_
    refine HO.nil (thenQ_normal (?_))
    refine HW.ret (thenQ_ret (?_))
    refine ⟨.inr rfl, .slice none 0 0, res1 rfl (rt rfl), ?_⟩
    replace hS := hS.nilOwn 34 17 e_api_Addr
    exact ⟨F, [], .slice none 0 0, rfl, hK, hS, hL_s1, hM⟩
  · replace hM := hM.2 trivial
    refine HW.skip (thenQ_normal (?_))
    refine HW.seq ?_
    refine HW.region ?_
    refine HO.eff (want_none) rfl (st_litEmpty (α := T_api_Addr) e_api_Addr hS tl_22) ?_
    rintro _ h_1 ⟨b_1, rfl, hS, hk⟩
    replace hK := hK.trans hk
    replace hL_s1 := hL_s1.kp hk
    refine HO.val (v := vs) (want_none) rfl (q_move rfl) ?_
    obtain ⟨ho_1, hM⟩ := hM
    refine HO.eff (want_none) rfl (st_append te_22 hS (i := 0) rfl hL_s1.is rfl rfl rfl (by intro a _ u hu; simp [e_api_Addr, encI, encN, encB, encT] at hu; rcases hu with rfl | rfl | rfl | rfl | rfl | rfl | rfl | rfl | rfl | rfl | rfl | rfl | rfl | rfl | rfl | rfl | rfl <;> rfl) ho_1 (by omega)) ?_
    rintro v_1 h_2 ⟨hS, hk⟩
    replace hS : St F (Ow.own 34 17 e_api_Addr v_1 (([] : List T_api_Addr) ++ s1) :: fr) h_2 := hS
    replace hK := hK.trans hk
    replace hL_s1 := hL_s1.kp hk
    refine HO.val (v := v_1) (want_none) rfl (q_assign rfl) ?_
    refine HO.nil (thenQ_normal (?_))
    refine HW.ret (?_)
    refine ⟨.inr rfl, v_1, res1 rfl (rt rfl), ?_⟩
    exact ⟨F, ([] : List T_api_Addr) ++ s1, v_1, rfl, hK, hS, hL_s1, hM⟩

def slices_IndexFunc_s_api_Addr_api_Addr_l1 (s1 : List T_api_Addr) (cf_f : T_api_Addr → Bool) (Q : Int → Prop) (K_1 : Int → Prop) (n_1 : Int) : Prop :=
  (n_1 < (s1.length : Int) → ((0 : Int) ≤ n_1 ∧ n_1 < (s1.length : Int)) ∧ (((cf_f (gi s1 n_1)) = true → Q n_1) ∧ ((cf_f (gi s1 n_1)) = false → (I64 (n_1 + 1)) ∧ (K_1 (n_1 + 1))))) ∧ (¬ (n_1 < (s1.length : Int)) → Q (-1))
def slices_IndexFunc_s_api_Addr_api_Addr_W (s1 : List T_api_Addr) (cf_f : T_api_Addr → Bool) (Q : Int → Prop) : Prop :=
  loopW (fun (K_1 : Int → Prop) (s : Int) => slices_IndexFunc_s_api_Addr_api_Addr_l1 s1 cf_f Q K_1 s) 0
set_option maxHeartbeats 40000000 in
set_option maxRecDepth 100000 in
theorem slices_IndexFunc_s_api_Addr_api_Addr_walk {F : Fz} {fr : List Ow} {h0 : Heap} (s1 : List T_api_Addr) (cf_f : T_api_Addr → Bool) (vs : Value) (g_f : Nat) (fs_f : Array Value) (cs_f : Array Value) (hS : St F (fr) h0) (hL_s1 : SliceF F h0 17 e_api_Addr vs s1) (hF_cf_f : FnP Try.prog F h0 g_f fs_f cs_f (fun x : T_api_Addr => [.agg (e_api_Addr x).toArray]) (fun x => .bool (cf_f x))) {Q : Int → Prop} (hM : slices_IndexFunc_s_api_Addr_api_Addr_W s1 cf_f Q) :
    HC Try.prog 56 #[vs, .func (.func g_f) fs_f cs_f] h0 fun u h' => ∃ (F' : Fz) (r_1 : Int), u = .int .i64 r_1 ∧ Kp F h0 F' h' ∧ St F' (fr) h' ∧ (SliceF F' h' 17 e_api_Addr vs s1) ∧ (FnP Try.prog F' h' g_f fs_f cs_f (fun x : T_api_Addr => [.agg (e_api_Addr x).toArray]) (fun x => .bool (cf_f x))) ∧ Q r_1 := by
  unfold slices_IndexFunc_s_api_Addr_api_Addr_W at hM
  have hK := Kp.refl F h0
  refine HC.of_HW (n := 19) Try.func56 rfl rfl (Nat.le_of_ble_eq_true rfl) ?_
  refine HW.seq ?_
  refine HW.region ?_
  refine HO.val (v := .int .i64 0) (want_none) rfl (q_assign rfl) ?_
  refine HO.nil (thenQ_normal (?_))
  refine HW.seq ?_
  refine HW.seq ?_
  refine HW.region ?_
  refine HO.val (v := vs) (want_none) rfl (q_move rfl) ?_
  refine HO.val (v := .int .i64 (s1.length : Int)) (want_none) rfl (q_len ts_22 (shp hL_s1.is) rfl rfl) ?_
  refine HO.val (v := .int .i64 0) (want_none) rfl (q_move rfl) ?_
  refine HO.nil (thenQ_normal (?_))
  refine HW.block ?_
  obtain ⟨I_1, m_1, hI_1, hR_1⟩ := hM
  refine HW.loop (S := Int) (fun n_1 f h => ∃ (F' : Fz), f 0 = vs ∧ f 1 = .func (.func g_f) fs_f cs_f ∧ f 4 = .int .i64 0 ∧ f 7 = .int .i64 (s1.length : Int) ∧ f 8 = .int .i64 n_1 ∧ Kp F h0 F' h ∧ St F' (fr) h ∧ (SliceF F' h 17 e_api_Addr vs s1) ∧ (FnP Try.prog F' h g_f fs_f cs_f (fun x : T_api_Addr => [.agg (e_api_Addr x).toArray]) (fun x => .bool (cf_f x))) ∧ I_1 n_1) m_1 0 ⟨F, rfl, rfl, rfl, rfl, rfl, hK, hS, hL_s1, hF_cf_f, hI_1⟩ ?_
  rintro n_1 f_1 h_1 ⟨F_1, e0, e1, e4, e7, e8, hK, hS, hL_s1, hF_cf_f, hI0⟩
  obtain ⟨K_1, hKe_1⟩ : ∃ K : Int → Prop, K = fun n_1' => I_1 n_1' ∧ m_1 n_1' < m_1 n_1 := ⟨_, rfl⟩
  have hM : slices_IndexFunc_s_api_Addr_api_Addr_l1 s1 cf_f Q K_1 n_1 := by rw [hKe_1]; exact hR_1 n_1 hI0
  unfold slices_IndexFunc_s_api_Addr_api_Addr_l1 at hM
  refine HW.fr [(0, vs), (1, .func (.func g_f) fs_f cs_f), (4, .int .i64 0), (7, .int .i64 (s1.length : Int)), (8, .int .i64 n_1)] ⟨e0, e1, e4, e7, e8, trivial⟩ ?_
  refine HW.seq ?_
  refine HW.region ?_
  refine HO.val (v := .bool (decide (n_1 < (s1.length : Int)))) (want_none) rfl (q_lss rfl rfl) ?_
  refine HO.nil (thenQ_normal (?_))
  refine HW.seq ?_
  refine HW.cond (decide (n_1 < (s1.length : Int))) rfl (fun c_1 => ?_) (fun c_1 => ?_)
  · replace hM := hM.1 (of_decide_eq_true c_1)
    refine HW.skip (thenQ_normal (?_))
    refine HW.seq ?_
    refine HW.block ?_
    refine HW.seq ?_
    refine HW.region ?_
    refine HO.val (v := .int .i64 n_1) (want_none) rfl (q_move rfl) ?_
    refine HO.val (v := .int .i64 n_1) (want_none) rfl (q_assign rfl) ?_
    refine HO.nil (thenQ_normal (?_))
    refine HW.seq ?_
    refine HW.region ?_
    refine HO.val (v := .func (.func g_f) fs_f cs_f) (want_none) rfl (q_move rfl) ?_
    refine HO.val (v := vs) (want_none) rfl (q_move rfl) ?_
    refine HO.val (v := .int .i64 n_1) (want_none) rfl (q_move rfl) ?_
    obtain ⟨ho_1, hM⟩ := hM
    refine HO.val (v := elemPtr 17 vs (n_1).toNat) (want_none) rfl (q_idx ts_22 hL_s1.is rfl rfl ho_1) ?_
    refine HO.val (v := .agg (e_api_Addr (gi s1 n_1)).toArray) (want_none) rfl (q_ldElemAgg (cs := (e_api_Addr (gi s1 n_1))) ta_34 hL_s1.is rfl ho_1 rfl) ?_
    refine HO.call (want_none) rfl (hF_cf_f.ec (gi s1 n_1) rfl rfl) (hF_cf_f.hc (gi s1 n_1) hS) ?_
    rintro _ h_2 ⟨rfl, hS, hk⟩
    replace hK := hK.trans hk
    replace hL_s1 := hL_s1.kp hk
    replace hF_cf_f := hF_cf_f.kp hk
    refine HO.nil (thenQ_normal (?_))
    refine HW.cond (cf_f (gi s1 n_1)) rfl (fun c_2 => ?_) (fun c_2 => ?_)
    · replace hM := hM.1 c_2
      refine HW.seq ?_
      refine HW.region ?_
      refine HO.val (v := .int .i64 n_1) (want_none) rfl (q_move rfl) ?_
      refine HO.val (v := .int .i64 n_1) (want_none) rfl (q_assign rfl) ?_
      refine HO.nil (thenQ_normal (?_))
      refine HW.ret (blockQ_ret (thenQ_ret (thenQ_ret (blockQ_ret (thenQ_ret (?_))))))
      refine ⟨.inr rfl, .int .i64 n_1, res1 rfl (rt rfl), ?_⟩
      exact ⟨F_1, n_1, rfl, hK, hS, hL_s1, hF_cf_f, hM⟩
    · replace hM := hM.2 c_2
      refine HW.skip (blockQ_normal (thenQ_normal (?_)))
      refine HW.region ?_
      obtain ⟨ho_2, hM⟩ := hM
      refine HO.val (v := .int .i64 (n_1 + 1)) (want_none) rfl (q_addN _ rfl rfl rfl ho_2.1 ho_2.2) ?_
      refine HO.val (v := .int .i64 (n_1 + 1)) (want_none) rfl (q_move rfl) ?_
      refine HO.nil (thenQ_normal (?_))
      rw [hKe_1] at hM
      exact ⟨n_1 + 1, ⟨F_1, rfl, rfl, rfl, rfl, rfl, hK, hS, hL_s1, hF_cf_f, hM.1⟩, hM.2⟩
  · replace hM := hM.2 (of_decide_eq_false c_1)
    refine HW.exit (thenQ_exit (thenQ_exit (blockQ_exit (thenQ_normal (?_)))))
    refine HW.seq ?_
    refine HW.region ?_
    refine HO.val (v := .int .i64 (-1)) (want_none) rfl (q_assign rfl) ?_
    refine HO.nil (thenQ_normal (?_))
    refine HW.ret (?_)
    refine ⟨.inr rfl, .int .i64 (-1), res1 rfl (rt rfl), ?_⟩
    exact ⟨F_1, (-1), rfl, hK, hS, hL_s1, hF_cf_f, hM⟩

def slices_DeleteFunc_s_api_Addr_api_Addr_l2 (cf_del : T_api_Addr → Bool) (Q : (List T_api_Addr) → Prop) (K_1 : (List T_api_Addr) → Int → Int → Prop) (l_1 : List T_api_Addr) (i_1 : Int) (j_1 : Int) : Prop :=
  (j_1 < (l_1.length : Int) → ((0 : Int) ≤ j_1 ∧ j_1 < (l_1.length : Int)) ∧ (((!(cf_del (gi l_1 j_1))) = true → ((0 : Int) ≤ i_1 ∧ i_1 < (l_1.length : Int)) ∧ ((I64 (i_1 + 1)) ∧ ((I64 (j_1 + 1)) ∧ (K_1 (l_1.set (i_1).toNat (gi l_1 j_1)) (i_1 + 1) (j_1 + 1))))) ∧ ((!(cf_del (gi l_1 j_1))) = false → (I64 (j_1 + 1)) ∧ (K_1 l_1 i_1 (j_1 + 1))))) ∧ (¬ (j_1 < (l_1.length : Int)) → ((0 : Int) ≤ i_1 ∧ i_1 ≤ (l_1.length : Int)) ∧ (((0 : Int) ≤ i_1 ∧ i_1 ≤ (l_1.length : Int) ∧ (l_1.length : Int) ≤ (l_1.length : Int)) ∧ (((0 : Int) ≤ i_1 ∧ i_1 ≤ ((clr l_1 i_1 (l_1.length : Int)).length : Int)) ∧ (Q (cut (clr l_1 i_1 (l_1.length : Int)) 0 i_1)))))
def slices_DeleteFunc_s_api_Addr_api_Addr_W (s1 : List T_api_Addr) (cf_del : T_api_Addr → Bool) (Q : (List T_api_Addr) → Prop) : Prop :=
  slices_IndexFunc_s_api_Addr_api_Addr_W s1 cf_del (fun r_2 => (r_2 = (-1) → Q s1) ∧ (¬ (r_2 = (-1)) → (I64 (r_2 + 1)) ∧ (loopW (fun (K_1 : (List T_api_Addr × Int × Int) → Prop) (s : List T_api_Addr × Int × Int) => slices_DeleteFunc_s_api_Addr_api_Addr_l2 cf_del Q (fun l_1 i_1 j_1 => K_1 (l_1, i_1, j_1)) s.1 s.2.1 s.2.2) (s1, r_2, r_2 + 1))))
set_option maxHeartbeats 40000000 in
set_option maxRecDepth 100000 in
theorem slices_DeleteFunc_s_api_Addr_api_Addr_walk {F : Fz} {fr : List Ow} {h0 : Heap} (s1 : List T_api_Addr) (cf_del : T_api_Addr → Bool) (vs : Value) (g_del : Nat) (fs_del : Array Value) (cs_del : Array Value) (hS : St F (Ow.own 34 17 e_api_Addr vs s1 :: fr) h0) (hF_cf_del : FnP Try.prog F h0 g_del fs_del cs_del (fun x : T_api_Addr => [.agg (e_api_Addr x).toArray]) (fun x => .bool (cf_del x))) {Q : (List T_api_Addr) → Prop} (hM : slices_DeleteFunc_s_api_Addr_api_Addr_W s1 cf_del Q) :
    HC Try.prog 46 #[vs, .func (.func g_del) fs_del cs_del] h0 fun u h' => ∃ (F' : Fz) (r_1 : List T_api_Addr) (vr_1 : Value), u = vr_1 ∧ Kp F h0 F' h' ∧ St F' (Ow.own 34 17 e_api_Addr vr_1 r_1 :: fr) h' ∧ (FnP Try.prog F' h' g_del fs_del cs_del (fun x : T_api_Addr => [.agg (e_api_Addr x).toArray]) (fun x => .bool (cf_del x))) ∧ Q r_1 := by
  unfold slices_DeleteFunc_s_api_Addr_api_Addr_W at hM
  have hK := Kp.refl F h0
  refine HC.of_HW (n := 42) Try.func46 rfl rfl (Nat.le_of_ble_eq_true rfl) ?_
  refine HW.seq ?_
  refine HW.region ?_
  refine HO.val (v := .slice none 0 0) (want_none) rfl (q_assign rfl) ?_
  refine HO.nil (thenQ_normal (?_))
  refine HW.seq ?_
  refine HW.region ?_
  refine HO.val (v := vs) (want_none) rfl (q_move rfl) ?_
  refine HO.val (v := .func (.func g_del) fs_del cs_del) (want_none) rfl (q_move rfl) ?_
  have hZ_1 := hS
  have hkz_1 := (hS.freeze).2
  replace hS := hS.freeze.1
  have hL_1 : SliceF (fun b => F b ∨ (Ow.own 34 17 e_api_Addr vs s1).foot b) h0 17 e_api_Addr vs s1 := ⟨(hZ_1.own 0 rfl).slice, fun _ b hb => .inr hb⟩
  refine HO.call (want_none) rfl (ec en_56 rfl rfl) (slices_IndexFunc_s_api_Addr_api_Addr_walk (fr := (fr)) s1 cf_del vs g_del fs_del cs_del hS hL_1 (hF_cf_del.kp hkz_1) hM) ?_
  rintro _ h_1 ⟨F_1, r_2, rfl, hk, hS, _, _, hM⟩
  obtain ⟨hS, hk⟩ := hZ_1.back hk hS
  generalize (fun b => F_1 b ∧ ¬ (Ow.own 34 17 e_api_Addr vs s1).foot b) = F_2 at hS hk
  replace hK := hK.trans hk
  replace hF_cf_del := hF_cf_del.kp hk
  refine HO.val (v := .int .i64 r_2) (want_none) rfl (q_assign rfl) ?_
  refine HO.nil (thenQ_normal (?_))
  refine HW.seq ?_
  refine HW.seq ?_
  refine HW.region ?_
  refine HO.val (v := .int .i64 r_2) (want_none) rfl (q_move rfl) ?_
  refine HO.val (v := .bool (decide (r_2 = (-1)))) (want_none) rfl (q_eql rfl rfl) ?_
  refine HO.nil (thenQ_normal (?_))
  refine HW.cond (decide (r_2 = (-1))) rfl (fun c_1 => ?_) (fun c_1 => ?_)
  · replace hM := hM.1 (of_decide_eq_true c_1)
    refine HW.seq ?_
    refine HW.region ?_
    refine HO.val (v := vs) (want_none) rfl (q_move rfl) ?_
    refine HO.val (v := vs) (want_none) rfl (q_assign rfl) ?_
    refine HO.nil (thenQ_normal (?_))
    refine HW.ret (thenQ_ret (?_))
    refine ⟨.inr rfl, vs, res1 rfl (rt rfl), ?_⟩
    exact ⟨F_2, s1, vs, rfl, hK, hS, hF_cf_del, hM⟩
  · replace hM := hM.2 (of_decide_eq_false c_1)
    refine HW.skip (thenQ_normal (?_))
    refine HW.seq ?_
    refine HW.seq ?_
    refine HW.region ?_
    refine HO.val (v := .int .i64 r_2) (want_none) rfl (q_move rfl) ?_
    obtain ⟨ho_1, hM⟩ := hM
    refine HO.val (v := .int .i64 (r_2 + 1)) (want_none) rfl (q_addN _ rfl rfl rfl ho_1.1 ho_1.2) ?_
    refine HO.val (v := .int .i64 (r_2 + 1)) (want_none) rfl (q_assign rfl) ?_
    refine HO.nil (thenQ_normal (?_))
    refine HW.block ?_
    obtain ⟨I_1, m_1, hI_1, hR_1⟩ := hM
    refine HW.loop (S := List T_api_Addr × Int × Int) (fun s f h => match s with | (l_1, i_1, j_1) => ∃ (F' : Fz), f 0 = vs ∧ f 1 = .func (.func g_del) fs_del cs_del ∧ f 4 = .slice none 0 0 ∧ f 5 = .int .i64 i_1 ∧ f 6 = .int .i64 j_1 ∧ Kp F h0 F' h ∧ St F' (Ow.own 34 17 e_api_Addr vs l_1 :: fr) h ∧ (FnP Try.prog F' h g_del fs_del cs_del (fun x : T_api_Addr => [.agg (e_api_Addr x).toArray]) (fun x => .bool (cf_del x))) ∧ I_1 (l_1, i_1, j_1)) m_1 (s1, r_2, r_2 + 1) ⟨F_2, rfl, rfl, rfl, rfl, rfl, hK, hS, hF_cf_del, hI_1⟩ ?_
    rintro ⟨l_1, i_1, j_1⟩ f_1 h_2 ⟨F_3, e0, e1, e4, e5, e6, hK, hS, hF_cf_del, hI0⟩
    obtain ⟨K_1, hKe_1⟩ : ∃ K : (List T_api_Addr) → Int → Int → Prop, K = fun l_1' i_1' j_1' => I_1 (l_1', i_1', j_1') ∧ m_1 (l_1', i_1', j_1') < m_1 (l_1, i_1, j_1) := ⟨_, rfl⟩
    have hM : slices_DeleteFunc_s_api_Addr_api_Addr_l2 cf_del Q K_1 l_1 i_1 j_1 := by rw [hKe_1]; exact hR_1 (l_1, i_1, j_1) hI0
    unfold slices_DeleteFunc_s_api_Addr_api_Addr_l2 at hM
    refine HW.fr [(0, vs), (1, .func (.func g_del) fs_del cs_del), (4, .slice none 0 0), (5, .int .i64 i_1), (6, .int .i64 j_1)] ⟨e0, e1, e4, e5, e6, trivial⟩ ?_
    refine HW.seq ?_
    refine HW.seq ?_
    refine HW.region ?_
    refine HO.val (v := .int .i64 j_1) (want_none) rfl (q_move rfl) ?_
    refine HO.val (v := vs) (want_none) rfl (q_move rfl) ?_
    refine HO.val (v := .int .i64 (l_1.length : Int)) (want_none) rfl (q_len ts_22 (shp (hS.own 0 rfl).slice) rfl rfl) ?_
    refine HO.val (v := .bool (decide (j_1 < (l_1.length : Int)))) (want_none) rfl (q_lss rfl rfl) ?_
    refine HO.nil (thenQ_normal (?_))
    refine HW.cond (decide (j_1 < (l_1.length : Int))) rfl (fun c_2 => ?_) (fun c_2 => ?_)
    · replace hM := hM.1 (of_decide_eq_true c_2)
      refine HW.skip (thenQ_normal (?_))
      refine HW.seq ?_
      refine HW.block ?_
      refine HW.seq ?_
      refine HW.region ?_
      refine HO.val (v := vs) (want_none) rfl (q_move rfl) ?_
      refine HO.val (v := .int .i64 j_1) (want_none) rfl (q_move rfl) ?_
      obtain ⟨ho_2, hM⟩ := hM
      refine HO.val (v := elemPtr 17 vs (j_1).toNat) (want_none) rfl (q_idx ts_22 (hS.own 0 rfl).slice rfl rfl ho_2) ?_
      refine HO.val (v := .agg (e_api_Addr (gi l_1 j_1)).toArray) (want_none) rfl (q_ldElemAgg (cs := (e_api_Addr (gi l_1 j_1))) ta_34 (hS.own 0 rfl).slice rfl ho_2 rfl) ?_
      refine HO.eff (want_none) rfl (st_alloc (c := (e_api_Addr (false, (default : Ba 16))).toArray) hS tz_34 rfl) ?_
      rintro _ h_3 ⟨b_1, rfl, hS, hk⟩
      replace hK := hK.trans hk
      replace hF_cf_del := hF_cf_del.kp hk
      refine HO.sto (want_none) rfl (st_storeAgg (c' := (e_api_Addr (gi l_1 j_1)).toArray) hS (i := 0) rfl ta_34 rfl rfl rfl (one_e_api_Addr _) (Nat.le_of_ble_eq_true rfl) rfl) ?_
      rintro h_4 ⟨hS, hk⟩
      replace hS : St F_3 (Ow.box b_1 34 (e_api_Addr (gi l_1 j_1)).toArray :: Ow.own 34 17 e_api_Addr vs l_1 :: fr) h_4 := hS
      replace hK := hK.trans hk
      replace hF_cf_del := hF_cf_del.kp hk
      refine HO.nil (thenQ_normal (?_))
      refine HW.seq ?_
      refine HW.region ?_
      refine HO.val (v := .func (.func g_del) fs_del cs_del) (want_none) rfl (q_move rfl) ?_
      refine HO.val (v := .agg (e_api_Addr (gi l_1 j_1)).toArray) (want_none) rfl (q_loadAgg (cs := (e_api_Addr (gi l_1 j_1))) ta_34 rfl rfl (Blk.cells (k := 17) (hS.box 0 rfl) rfl)) ?_
      refine HO.call (want_none) rfl (hF_cf_del.ec (gi l_1 j_1) rfl rfl) (hF_cf_del.hc (gi l_1 j_1) hS) ?_
      rintro _ h_5 ⟨rfl, hS, hk⟩
      replace hK := hK.trans hk
      replace hF_cf_del := hF_cf_del.kp hk
      refine HO.val (v := .bool (!(cf_del (gi l_1 j_1)))) (want_none) rfl (q_not rfl) ?_
      refine HO.nil (thenQ_normal (?_))
      refine HW.cond (!(cf_del (gi l_1 j_1))) rfl (fun c_3 => ?_) (fun c_3 => ?_)
      · replace hM := hM.1 c_3
        refine HW.seq ?_
        refine HW.region ?_
        refine HO.val (v := vs) (want_none) rfl (q_move rfl) ?_
        refine HO.val (v := .int .i64 i_1) (want_none) rfl (q_move rfl) ?_
        refine HO.val (v := .agg (e_api_Addr (gi l_1 j_1)).toArray) (want_none) rfl (q_loadAgg (cs := (e_api_Addr (gi l_1 j_1))) ta_34 rfl rfl (Blk.cells (k := 17) (hS.box 0 rfl) rfl)) ?_
        obtain ⟨ho_3, hM⟩ := hM
        refine HO.val (v := elemPtr 17 vs (i_1).toNat) (want_none) rfl (q_idx ts_22 (hS.own 1 rfl).slice rfl rfl ho_3) ?_
        refine HO.sto (want_none) rfl (st_storeElem (a := (gi l_1 j_1)) (t := i_1) hS (i := 1) rfl ta_34 rfl ho_3 rfl rfl rfl (one_e_api_Addr _)) ?_
        rintro h_6 ⟨hS, hk⟩
        replace hS : St F_3 (Ow.box b_1 34 (e_api_Addr (gi l_1 j_1)).toArray :: Ow.own 34 17 e_api_Addr vs (l_1.set (i_1).toNat (gi l_1 j_1)) :: fr) h_6 := hS
        replace hK := hK.trans hk
        replace hF_cf_del := hF_cf_del.kp hk
        refine HO.nil (thenQ_normal (?_))
        refine HW.region ?_
        refine HO.val (v := .int .i64 i_1) (want_none) rfl (q_move rfl) ?_
        obtain ⟨ho_4, hM⟩ := hM
        refine HO.val (v := .int .i64 (i_1 + 1)) (want_none) rfl (q_addN _ rfl rfl rfl ho_4.1 ho_4.2) ?_
        refine HO.val (v := .int .i64 (i_1 + 1)) (want_none) rfl (q_assign rfl) ?_
        refine HO.nil (blockQ_normal (thenQ_normal (?_)))
        refine HW.region ?_
        refine HO.val (v := .int .i64 j_1) (want_none) rfl (q_move rfl) ?_
        obtain ⟨ho_5, hM⟩ := hM
        refine HO.val (v := .int .i64 (j_1 + 1)) (want_none) rfl (q_addN _ rfl rfl rfl ho_5.1 ho_5.2) ?_
        refine HO.val (v := .int .i64 (j_1 + 1)) (want_none) rfl (q_assign rfl) ?_
        refine HO.nil (thenQ_normal (?_))
        replace hS : St F_3 (Ow.own 34 17 e_api_Addr vs (l_1.set (i_1).toNat (gi l_1 j_1)) :: fr) h_6 := hS.perm2 [1] 2 rfl rfl
        rw [hKe_1] at hM
        exact ⟨(l_1.set (i_1).toNat (gi l_1 j_1), i_1 + 1, j_1 + 1), ⟨F_3, rfl, rfl, rfl, rfl, rfl, hK, hS, hF_cf_del, hM.1⟩, hM.2⟩
      · replace hM := hM.2 c_3
        refine HW.skip (blockQ_normal (thenQ_normal (?_)))
        refine HW.region ?_
        refine HO.val (v := .int .i64 j_1) (want_none) rfl (q_move rfl) ?_
        obtain ⟨ho_6, hM⟩ := hM
        refine HO.val (v := .int .i64 (j_1 + 1)) (want_none) rfl (q_addN _ rfl rfl rfl ho_6.1 ho_6.2) ?_
        refine HO.val (v := .int .i64 (j_1 + 1)) (want_none) rfl (q_assign rfl) ?_
        refine HO.nil (thenQ_normal (?_))
        replace hS : St F_3 (Ow.own 34 17 e_api_Addr vs l_1 :: fr) h_5 := hS.perm2 [1] 2 rfl rfl
        rw [hKe_1] at hM
        exact ⟨(l_1, i_1, j_1 + 1), ⟨F_3, rfl, rfl, rfl, rfl, rfl, hK, hS, hF_cf_del, hM.1⟩, hM.2⟩
    · replace hM := hM.2 (of_decide_eq_false c_2)
      refine HW.exit (thenQ_exit (thenQ_exit (blockQ_exit (thenQ_normal (?_)))))
      refine HW.seq ?_
      refine HW.region ?_
      refine HO.val (v := vs) (want_none) rfl (q_move rfl) ?_
      refine HO.val (v := .int .i64 i_1) (want_none) rfl (q_move rfl) ?_
      obtain ⟨ho_7, hM⟩ := hM
      refine HO.val (v := cutV 17 vs (i_1).toNat ((l_1.length : Int)).toNat) (want_none) rfl (q_slL ts_22 (hS.own 0 rfl).slice rfl rfl ho_7) ?_
      obtain ⟨ho_8, hM⟩ := hM
      refine HO.eff (want_none) rfl (st_clearS (lo := i_1) (hi := (l_1.length : Int)) (z := .agg #[.bool false, .int .u8 0, .int .u8 0, .int .u8 0, .int .u8 0, .int .u8 0, .int .u8 0, .int .u8 0, .int .u8 0, .int .u8 0, .int .u8 0, .int .u8 0, .int .u8 0, .int .u8 0, .int .u8 0, .int .u8 0, .int .u8 0]) hS (i := 0) rfl te_22 tz_34 rfl (by intro u hu; simp [e_api_Addr, encI, encN, encB, encT, default] at hu; rcases hu with rfl | rfl | rfl | rfl | rfl | rfl | rfl | rfl | rfl | rfl | rfl | rfl | rfl | rfl | rfl | rfl | rfl <;> rfl) rfl ho_8 rfl) ?_
      rintro _ h_7 ⟨rfl, hS, hk⟩
      replace hS : St F_3 (Ow.own 34 17 e_api_Addr vs (clr l_1 i_1 (l_1.length : Int)) :: fr) h_7 := hS
      replace hK := hK.trans hk
      replace hF_cf_del := hF_cf_del.kp hk
      refine HO.nil (thenQ_normal (?_))
      refine HW.seq ?_
      refine HW.region ?_
      refine HO.val (v := vs) (want_none) rfl (q_move rfl) ?_
      refine HO.val (v := .int .i64 i_1) (want_none) rfl (q_move rfl) ?_
      obtain ⟨ho_9, hM⟩ := hM
      refine HO.val (v := cutV 17 vs (0 : Int).toNat (i_1).toNat) (want_none) rfl (q_slH ts_22 (hS.own 0 rfl).slice rfl rfl ho_9) ?_
      refine HO.val (v := cutV 17 vs (0 : Int).toNat (i_1).toNat) (want_none) rfl (q_assign rfl) ?_
      refine HO.nil (thenQ_normal (?_))
      refine HW.ret (?_)
      refine ⟨.inr rfl, cutV 17 vs (0 : Int).toNat (i_1).toNat, res1 rfl (rt rfl), ?_⟩
      replace hS := hS.shrink 0 rfl i_1 ho_9.1 ho_9.2
      replace hS : St F_3 (Ow.own 34 17 e_api_Addr (cutV 17 vs (0 : Int).toNat (i_1).toNat) (cut (clr l_1 i_1 (l_1.length : Int)) 0 i_1) :: fr) h_7 := hS
      exact ⟨F_3, cut (clr l_1 i_1 (l_1.length : Int)) 0 i_1, cutV 17 vs (0 : Int).toNat (i_1).toNat, rfl, hK, hS, hF_cf_del, hM⟩

def addr_Ip4_W (a : Int) (b : Int) (c : Int) (d : Int) (Q : T_api_Addr → Prop) : Prop :=
  ((0 : Int) ≤ d ∧ d < 256) ∧ (((0 : Int) ≤ c ∧ c < 256) ∧ (((0 : Int) ≤ b ∧ b < 256) ∧ (((0 : Int) ≤ a ∧ a < 256) ∧ (Q (false, mkB 16 [a, b, c, d, 0, 0, 0, 0, 0, 0, 0, 0, 0, 0, 0, 0])))))
set_option maxHeartbeats 40000000 in
set_option maxRecDepth 100000 in
theorem addr_Ip4_walk {F : Fz} {fr : List Ow} {h0 : Heap} (a : Int) (b : Int) (c : Int) (d : Int) (hS : St F (fr) h0)  {Q : T_api_Addr → Prop} (hM : addr_Ip4_W a b c d Q) :
    HC Try.prog 57 #[.int .u8 a, .int .u8 b, .int .u8 c, .int .u8 d] h0 fun u h' => ∃ (F' : Fz) (r_1 : T_api_Addr), u = .agg (e_api_Addr r_1).toArray ∧ Kp F h0 F' h' ∧ St F' (fr) h' ∧ Q r_1 := by
  unfold addr_Ip4_W at hM
  have hK := Kp.refl F h0
  refine HC.of_HW (n := 15) Try.func57 rfl rfl (Nat.le_of_ble_eq_true rfl) ?_
  refine HW.seq ?_
  refine HW.region ?_
  refine HO.eff (want_none) rfl (st_alloc (c := (e_api_Addr (false, (default : Ba 16))).toArray) hS tz_34 rfl) ?_
  rintro _ h_1 ⟨b_1, rfl, hS, hk⟩
  replace hK := hK.trans hk
  refine HO.nil (thenQ_normal (?_))
  refine HW.seq ?_
  refine HW.region ?_
  refine HO.val (v := .int .u8 a) (want_none) rfl (q_move rfl) ?_
  refine HO.val (v := .int .u8 b) (want_none) rfl (q_move rfl) ?_
  refine HO.val (v := .int .u8 c) (want_none) rfl (q_move rfl) ?_
  refine HO.val (v := .int .u8 d) (want_none) rfl (q_move rfl) ?_
  obtain ⟨ho_1, hM⟩ := hM
  obtain ⟨ho_2, hM⟩ := hM
  obtain ⟨ho_3, hM⟩ := hM
  obtain ⟨ho_4, hM⟩ := hM
  refine HO.val (v := .agg (arrCells (mkB 16 [a, b, c, d, 0, 0, 0, 0, 0, 0, 0, 0, 0, 0, 0, 0])).toArray) (want_none) rfl ((q_buildA (cells := #[.int .u8 a, .int .u8 b, .int .u8 c, .int .u8 d, .int .u8 0, .int .u8 0, .int .u8 0, .int .u8 0, .int .u8 0, .int .u8 0, .int .u8 0, .int .u8 0, .int .u8 0, .int .u8 0, .int .u8 0, .int .u8 0]) tb_32 rfl).of_eq (mkB_agg (n := 16) (l := [a, b, c, d, 0, 0, 0, 0, 0, 0, 0, 0, 0, 0, 0, 0]) rfl ⟨ho_4, ⟨ho_3, ⟨ho_2, ⟨ho_1, ⟨⟨by decide, by decide⟩, ⟨⟨by decide, by decide⟩, ⟨⟨by decide, by decide⟩, ⟨⟨by decide, by decide⟩, ⟨⟨by decide, by decide⟩, ⟨⟨by decide, by decide⟩, ⟨⟨by decide, by decide⟩, ⟨⟨by decide, by decide⟩, ⟨⟨by decide, by decide⟩, ⟨⟨by decide, by decide⟩, ⟨⟨by decide, by decide⟩, ⟨⟨by decide, by decide⟩, trivial⟩⟩⟩⟩⟩⟩⟩⟩⟩⟩⟩⟩⟩⟩⟩⟩)) ?_
  refine HO.val (v := .agg (e_api_Addr (false, mkB 16 [a, b, c, d, 0, 0, 0, 0, 0, 0, 0, 0, 0, 0, 0, 0])).toArray) (want_none) rfl (q_build tp_34 (fill_cons (cs' := (e_api_Addr (false, mkB 16 [a, b, c, d, 0, 0, 0, 0, 0, 0, 0, 0, 0, 0, 0, 0])).toArray) (vc := (arrCells (mkB 16 [a, b, c, d, 0, 0, 0, 0, 0, 0, 0, 0, 0, 0, 0, 0])).toArray) rfl rfl rfl (Nat.le_of_ble_eq_true rfl) rfl rfl)) ?_
  refine HO.sto (want_none) rfl (st_storeAgg (c' := (e_api_Addr (false, mkB 16 [a, b, c, d, 0, 0, 0, 0, 0, 0, 0, 0, 0, 0, 0, 0])).toArray) hS (i := 0) rfl ta_34 rfl rfl rfl (one_e_api_Addr _) (Nat.le_of_ble_eq_true rfl) rfl) ?_
  rintro h_2 ⟨hS, hk⟩
  replace hS : St F (Ow.box b_1 34 (e_api_Addr (false, mkB 16 [a, b, c, d, 0, 0, 0, 0, 0, 0, 0, 0, 0, 0, 0, 0])).toArray :: fr) h_2 := hS
  replace hK := hK.trans hk
  refine HO.nil (thenQ_normal (?_))
  refine HW.ret (?_)
  refine ⟨.inr rfl, .agg (e_api_Addr (false, mkB 16 [a, b, c, d, 0, 0, 0, 0, 0, 0, 0, 0, 0, 0, 0, 0])).toArray, res1 rfl (rca (cs := (e_api_Addr (false, mkB 16 [a, b, c, d, 0, 0, 0, 0, 0, 0, 0, 0, 0, 0, 0, 0]))) ta_34 rfl rfl (Blk.cells (k := 17) (hS.box 0 rfl) rfl)), ?_⟩
  replace hS : St F (fr) h_2 := hS.perm2 [] 1 rfl rfl
  exact ⟨F, (false, mkB 16 [a, b, c, d, 0, 0, 0, 0, 0, 0, 0, 0, 0, 0, 0, 0]), rfl, hK, hS, hM⟩

def addr_Good_W (a : T_api_Addr) (Q : Bool → Prop) : Prop :=
  (a.1 = true → Q true) ∧ (a.1 = false → addr_Ip4_W (b8 a.2 0) (b8 a.2 1) (b8 a.2 2) (b8 a.2 3) (fun r_2 => Q (decide ((a : T_api_Addr) = r_2))))
set_option maxHeartbeats 40000000 in
set_option maxRecDepth 100000 in
theorem addr_Good_walk {F : Fz} {fr : List Ow} {h0 : Heap} (a : T_api_Addr) (hS : St F (fr) h0)  {Q : Bool → Prop} (hM : addr_Good_W a Q) :
    HC Try.prog 48 #[.agg (e_api_Addr a).toArray] h0 fun u h' => ∃ (F' : Fz) (r_1 : Bool), u = .bool r_1 ∧ Kp F h0 F' h' ∧ St F' (fr) h' ∧ Q r_1 := by
  unfold addr_Good_W at hM
  have hK := Kp.refl F h0
  refine HC.of_HW (n := 22) Try.func48 rfl rfl (Nat.le_of_ble_eq_true rfl) ?_
  refine HW.seq ?_
  refine HW.region ?_
  refine HO.eff (want_none) rfl (st_box (c := (e_api_Addr a).toArray) (k' := 17) hS rfl rfl) ?_
  rintro _ h_1 ⟨b_1, rfl, hS, hk⟩
  replace hK := hK.trans hk
  refine HO.val (v := .bool false) (want_none) rfl (q_assign rfl) ?_
  refine HO.nil (thenQ_normal (?_))
  refine HW.seq ?_
  refine HW.regionA 20 mixed (fun h => (Blk h b_1 (.cells (e_api_Addr a).toArray 34 (0, 0)))) [] (by kernel_rfl) ?_
  refine HA.val (k := 0) (v := .pointer (some ⟨b_1, 0, none⟩)) rfl rfl (by kernel_rfl) (by kernel_rfl) (want_none) rfl (fun _ c201 => q_fieldAddr fa_34_0 rfl rfl) ?_
  refine HA.val (k := 1) (v := .bool a.1) rfl rfl (by kernel_rfl) (by kernel_rfl) (want_none) rfl (fun _ c201 => q_load to_4 rfl (Blk.cell c201 rfl)) ?_
  refine HA.val (k := 2) (v := .bool a.1) rfl rfl (by kernel_rfl) (by kernel_rfl) (want_none) rfl (fun _ c201 => q_move rfl) ?_
  rcases Bool.eq_false_or_eq_true a.1 with c_1 | c_1
  · replace hM := hM.1 c_1
    refine HA.past (k := 3) rfl rfl (by kernel_rfl) (by kernel_rfl) (past_by rfl rfl c_1) rfl ?_
    refine HA.past (k := 4) rfl rfl (by kernel_rfl) (by kernel_rfl) (past_by rfl rfl c_1) rfl ?_
    refine HA.past (k := 5) rfl rfl (by kernel_rfl) (by kernel_rfl) (past_by rfl rfl c_1) rfl ?_
    refine HA.past (k := 6) rfl rfl (by kernel_rfl) (by kernel_rfl) (past_by rfl rfl c_1) rfl ?_
    refine HA.past (k := 7) rfl rfl (by kernel_rfl) (by kernel_rfl) (past_by rfl rfl c_1) rfl ?_
    refine HA.past (k := 8) rfl rfl (by kernel_rfl) (by kernel_rfl) (past_by rfl rfl c_1) rfl ?_
    refine HA.past (k := 9) rfl rfl (by kernel_rfl) (by kernel_rfl) (past_by rfl rfl c_1) rfl ?_
    refine HA.past (k := 10) rfl rfl (by kernel_rfl) (by kernel_rfl) (past_by rfl rfl c_1) rfl ?_
    refine HA.past (k := 11) rfl rfl (by kernel_rfl) (by kernel_rfl) (past_by rfl rfl c_1) rfl ?_
    refine HA.past (k := 12) rfl rfl (by kernel_rfl) (by kernel_rfl) (past_by rfl rfl c_1) rfl ?_
    refine HA.past (k := 13) rfl rfl (by kernel_rfl) (by kernel_rfl) (past_by rfl rfl c_1) rfl ?_
    refine HA.past (k := 14) rfl rfl (by kernel_rfl) (by kernel_rfl) (past_by rfl rfl c_1) rfl ?_
    refine HA.past (k := 15) rfl rfl (by kernel_rfl) (by kernel_rfl) (past_by rfl rfl c_1) rfl ?_
    refine HA.one (k := 16) ⟨(hS.box 0 rfl), (Go.Wk.at_nil _ _)⟩ (by kernel_rfl) ?_
    refine HS.past rfl (past_by rfl rfl c_1) rfl ?_
    refine HA.past (k := 17) rfl rfl (by kernel_rfl) (by kernel_rfl) (past_by rfl rfl c_1) rfl ?_
    refine HA.val (k := 18) (v := .bool true) rfl rfl (by kernel_rfl) (by kernel_rfl) (want_none) rfl (fun _ c201 => q_pickK true rfl c_1 rfl) ?_
    refine HA.val (k := 19) (v := .bool true) rfl rfl (by kernel_rfl) (by kernel_rfl) (want_none) rfl (fun _ c201 => q_assign rfl) ?_
    refine HA.nil ⟨(hS.box 0 rfl), (Go.Wk.at_nil _ _)⟩ (by kernel_rfl) (thenQ_normal (?_))
    refine HW.ret (?_)
    refine ⟨.inr rfl, .bool true, res1 rfl (rt rfl), ?_⟩
    replace hS : St F (fr) h_1 := hS.perm2 [] 1 rfl rfl
    exact ⟨F, true, rfl, hK, hS, hM⟩
  · replace hM := hM.2 c_1
    refine HA.val (k := 3) (v := .agg (e_api_Addr a).toArray) rfl rfl (by kernel_rfl) (by kernel_rfl) (want_by rfl rfl c_1) rfl (fun _ c201 => q_loadAgg (cs := (e_api_Addr a)) ta_34 rfl rfl (Blk.cells (k := 17) c201 rfl)) ?_
    refine HA.val (k := 4) (v := .pointer (some ⟨b_1, 1, none⟩)) rfl rfl (by kernel_rfl) (by kernel_rfl) (want_by rfl rfl c_1) rfl (fun _ c201 => q_fieldAddr fa_34_1 rfl rfl) ?_
    refine HA.val (k := 5) (v := .pointer (some ⟨b_1, 1, none⟩)) rfl rfl (by kernel_rfl) (by kernel_rfl) (want_by rfl rfl c_1) rfl (fun _ c201 => q_idxA (o := 1) (t := 0) tr_32 rfl rfl ⟨by decide, by decide⟩) ?_
    refine HA.val (k := 6) (v := .int .u8 (b8 a.2 0)) rfl rfl (by kernel_rfl) (by kernel_rfl) (want_by rfl rfl c_1) rfl (fun _ c201 => q_load to_5 rfl (Blk.cell c201 rfl)) ?_
    refine HA.val (k := 7) (v := .pointer (some ⟨b_1, 1, none⟩)) rfl rfl (by kernel_rfl) (by kernel_rfl) (want_by rfl rfl c_1) rfl (fun _ c201 => q_fieldAddr fa_34_1 rfl rfl) ?_
    refine HA.val (k := 8) (v := .pointer (some ⟨b_1, 2, none⟩)) rfl rfl (by kernel_rfl) (by kernel_rfl) (want_by rfl rfl c_1) rfl (fun _ c201 => q_idxA (o := 1) (t := 1) tr_32 rfl rfl ⟨by decide, by decide⟩) ?_
    refine HA.val (k := 9) (v := .int .u8 (b8 a.2 1)) rfl rfl (by kernel_rfl) (by kernel_rfl) (want_by rfl rfl c_1) rfl (fun _ c201 => q_load to_5 rfl (Blk.cell c201 rfl)) ?_
    refine HA.val (k := 10) (v := .pointer (some ⟨b_1, 1, none⟩)) rfl rfl (by kernel_rfl) (by kernel_rfl) (want_by rfl rfl c_1) rfl (fun _ c201 => q_fieldAddr fa_34_1 rfl rfl) ?_
    refine HA.val (k := 11) (v := .pointer (some ⟨b_1, 3, none⟩)) rfl rfl (by kernel_rfl) (by kernel_rfl) (want_by rfl rfl c_1) rfl (fun _ c201 => q_idxA (o := 1) (t := 2) tr_32 rfl rfl ⟨by decide, by decide⟩) ?_
    refine HA.val (k := 12) (v := .int .u8 (b8 a.2 2)) rfl rfl (by kernel_rfl) (by kernel_rfl) (want_by rfl rfl c_1) rfl (fun _ c201 => q_load to_5 rfl (Blk.cell c201 rfl)) ?_
    refine HA.val (k := 13) (v := .pointer (some ⟨b_1, 1, none⟩)) rfl rfl (by kernel_rfl) (by kernel_rfl) (want_by rfl rfl c_1) rfl (fun _ c201 => q_fieldAddr fa_34_1 rfl rfl) ?_
    refine HA.val (k := 14) (v := .pointer (some ⟨b_1, 4, none⟩)) rfl rfl (by kernel_rfl) (by kernel_rfl) (want_by rfl rfl c_1) rfl (fun _ c201 => q_idxA (o := 1) (t := 3) tr_32 rfl rfl ⟨by decide, by decide⟩) ?_
    refine HA.val (k := 15) (v := .int .u8 (b8 a.2 3)) rfl rfl (by kernel_rfl) (by kernel_rfl) (want_by rfl rfl c_1) rfl (fun _ c201 => q_load to_5 rfl (Blk.cell c201 rfl)) ?_
    refine HA.one (k := 16) ⟨(hS.box 0 rfl), (Go.Wk.at_nil _ _)⟩ (by kernel_rfl) ?_
    refine HS.call rfl (want_by rfl rfl c_1) rfl (ec en_57 rfl rfl) (addr_Ip4_walk (fr := (Ow.box b_1 34 (e_api_Addr a).toArray :: fr)) (b8 a.2 0) (b8 a.2 1) (b8 a.2 2) (b8 a.2 3) hS hM) ?_
    rintro _ h_2 ⟨F_1, r_2, rfl, hk, hS, hM⟩
    replace hK := hK.trans hk
    refine HA.val (k := 17) (v := .bool (decide ((a : T_api_Addr) = r_2))) rfl rfl (by kernel_rfl) (by kernel_rfl) (want_by rfl rfl c_1) rfl (fun _ c201 => q_eqlAgg (a := a) (b := r_2) (fun a b w => teq_34 9997 a b w) (by kernel_rfl) rfl rfl rfl rfl) ?_
    refine HA.val (k := 18) (v := .bool (decide ((a : T_api_Addr) = r_2))) rfl rfl (by kernel_rfl) (by kernel_rfl) (want_none) rfl (fun _ c201 => q_pickK false rfl c_1 rfl) ?_
    refine HA.val (k := 19) (v := .bool (decide ((a : T_api_Addr) = r_2))) rfl rfl (by kernel_rfl) (by kernel_rfl) (want_none) rfl (fun _ c201 => q_assign rfl) ?_
    refine HA.nil ⟨(hS.box 0 rfl), (Go.Wk.at_nil _ _)⟩ (by kernel_rfl) (thenQ_normal (?_))
    refine HW.ret (?_)
    refine ⟨.inr rfl, .bool (decide ((a : T_api_Addr) = r_2)), res1 rfl (rt rfl), ?_⟩
    replace hS : St F_1 (fr) h_2 := hS.perm2 [] 1 rfl rfl
    exact ⟨F_1, decide ((a : T_api_Addr) = r_2), rfl, hK, hS, hM⟩

def srcs_Of_1_W (a : T_api_Addr) (Q : Bool → Prop) : Prop :=
  addr_Good_W a (fun r_2 => Q (!r_2))
set_option maxHeartbeats 40000000 in
set_option maxRecDepth 100000 in
theorem srcs_Of_1_walk {F : Fz} {fr : List Ow} {h0 : Heap} (a : T_api_Addr) (hS : St F (fr) h0)  {Q : Bool → Prop} (hM : srcs_Of_1_W a Q) :
    HC Try.prog 47 #[.agg (e_api_Addr a).toArray] h0 fun u h' => ∃ (F' : Fz) (r_1 : Bool), u = .bool r_1 ∧ Kp F h0 F' h' ∧ St F' (fr) h' ∧ Q r_1 := by
  unfold srcs_Of_1_W at hM
  have hK := Kp.refl F h0
  refine HC.of_HW (n := 6) Try.func47 rfl rfl (Nat.le_of_ble_eq_true rfl) ?_
  refine HW.seq ?_
  refine HW.region ?_
  refine HO.eff (want_none) rfl (st_box (c := (e_api_Addr a).toArray) (k' := 17) hS rfl rfl) ?_
  rintro _ h_1 ⟨b_1, rfl, hS, hk⟩
  replace hK := hK.trans hk
  refine HO.val (v := .bool false) (want_none) rfl (q_assign rfl) ?_
  refine HO.nil (thenQ_normal (?_))
  refine HW.seq ?_
  refine HW.region ?_
  refine HO.val (v := .agg (e_api_Addr a).toArray) (want_none) rfl (q_loadAgg (cs := (e_api_Addr a)) ta_34 rfl rfl (Blk.cells (k := 17) (hS.box 0 rfl) rfl)) ?_
  refine HO.call (want_none) rfl (ec en_48 rfl rfl) (addr_Good_walk (fr := (Ow.box b_1 34 (e_api_Addr a).toArray :: fr)) a hS hM) ?_
  rintro _ h_2 ⟨F_1, r_2, rfl, hk, hS, hM⟩
  replace hK := hK.trans hk
  refine HO.val (v := .bool (!r_2)) (want_none) rfl (q_not rfl) ?_
  refine HO.val (v := .bool (!r_2)) (want_none) rfl (q_assign rfl) ?_
  refine HO.nil (thenQ_normal (?_))
  refine HW.ret (?_)
  refine ⟨.inr rfl, .bool (!r_2), res1 rfl (rt rfl), ?_⟩
  replace hS : St F_1 (fr) h_2 := hS.perm2 [] 1 rfl rfl
  exact ⟨F_1, !r_2, rfl, hK, hS, hM⟩

def addr_bytes_W (a : T_api_Addr) (Q : Str → Prop) : Prop :=
  (a.1 = true → Q (cut a.2.1 0 16)) ∧ (a.1 = false → Q (cut a.2.1 0 4))
set_option maxHeartbeats 40000000 in
set_option maxRecDepth 100000 in
theorem addr_bytes_walk {F : Fz} {fr : List Ow} {h0 : Heap} (a : T_api_Addr) (hS : St F (fr) h0)  {Q : Str → Prop} (hM : addr_bytes_W a Q) :
    HC Try.prog 61 #[.agg (e_api_Addr a).toArray] h0 fun u h' => ∃ (F' : Fz) (r_1 : Str), u = .string (bs r_1) ∧ Kp F h0 F' h' ∧ St F' (fr) h' ∧ Q r_1 := by
  unfold addr_bytes_W at hM
  have hK := Kp.refl F h0
  refine HC.of_HW (n := 11) Try.func61 rfl rfl (Nat.le_of_ble_eq_true rfl) ?_
  refine HW.seq ?_
  refine HW.region ?_
  refine HO.eff (want_none) rfl (st_box (c := (e_api_Addr a).toArray) (k' := 17) hS rfl rfl) ?_
  rintro _ h_1 ⟨b_1, rfl, hS, hk⟩
  replace hK := hK.trans hk
  refine HO.val (v := .string (bs [])) (want_none) rfl (q_assign rfl) ?_
  refine HO.nil (thenQ_normal (?_))
  refine HW.seq ?_
  refine HW.seq ?_
  refine HW.region ?_
  refine HO.val (v := .pointer (some ⟨b_1, 0, none⟩)) (want_none) rfl (q_fieldAddr fa_34_0 rfl rfl) ?_
  refine HO.val (v := .bool a.1) (want_none) rfl (q_load to_4 rfl (Blk.cell (hS.box 0 rfl) rfl)) ?_
  refine HO.nil (thenQ_normal (?_))
  refine HW.cond a.1 rfl (fun c_1 => ?_) (fun c_1 => ?_)
  · replace hM := hM.1 c_1
    refine HW.seq ?_
    refine HW.region ?_
    refine HO.val (v := .pointer (some ⟨b_1, 1, none⟩)) (want_none) rfl (q_fieldAddr fa_34_1 rfl rfl) ?_
    refine HO.val (v := arrV b_1 1 16 0 16) (want_none) rfl (q_sliceA (o := 1) (lo := 0) (hi := 16) (kl := .i64) (kh := .i64) tr_32 rfl (.inl ⟨rfl, rfl⟩) (.inl ⟨rfl, rfl⟩) ⟨by decide, by decide, by decide⟩) ?_
    refine HO.val (v := .string (bs (cut a.2.1 0 16))) (want_none) rfl (q_bytesStr ts_78 Try.underlying5 Try.underlying9 (arrSl (o := 1) (n := 16) (X := a.2) (lo := 0) (hi := 16) (hS.box 0 rfl) rfl ⟨by decide, by decide, by decide⟩ (by decide)) rfl) ?_
    refine HO.val (v := .string (bs (cut a.2.1 0 16))) (want_none) rfl (q_assign rfl) ?_
    refine HO.nil (thenQ_normal (?_))
    refine HW.ret (thenQ_ret (?_))
    refine ⟨.inr rfl, .string (bs (cut a.2.1 0 16)), res1 rfl (rt rfl), ?_⟩
    replace hS : St F (fr) h_1 := hS.perm2 [] 1 rfl rfl
    exact ⟨F, cut a.2.1 0 16, rfl, hK, hS, hM⟩
  · replace hM := hM.2 c_1
    refine HW.skip (thenQ_normal (?_))
    refine HW.seq ?_
    refine HW.region ?_
    refine HO.val (v := .pointer (some ⟨b_1, 1, none⟩)) (want_none) rfl (q_fieldAddr fa_34_1 rfl rfl) ?_
    refine HO.val (v := arrV b_1 1 16 0 4) (want_none) rfl (q_sliceA (o := 1) (lo := 0) (hi := 4) (kl := .i64) tr_32 rfl (.inl ⟨rfl, rfl⟩) (.inr ⟨_, rfl, rfl⟩) ⟨by decide, by decide, by decide⟩) ?_
    refine HO.val (v := .string (bs (cut a.2.1 0 4))) (want_none) rfl (q_bytesStr ts_78 Try.underlying5 Try.underlying9 (arrSl (o := 1) (n := 16) (X := a.2) (lo := 0) (hi := 4) (hS.box 0 rfl) rfl ⟨by decide, by decide, by decide⟩ (by decide)) rfl) ?_
    refine HO.val (v := .string (bs (cut a.2.1 0 4))) (want_none) rfl (q_assign rfl) ?_
    refine HO.nil (thenQ_normal (?_))
    refine HW.ret (?_)
    refine ⟨.inr rfl, .string (bs (cut a.2.1 0 4)), res1 rfl (rt rfl), ?_⟩
    replace hS : St F (fr) h_1 := hS.perm2 [] 1 rfl rfl
    exact ⟨F, cut a.2.1 0 4, rfl, hK, hS, hM⟩

def addr_Cmp_j1 (a : T_api_Addr) (b : T_api_Addr) (Q : Int → Prop) : Prop :=
  addr_bytes_W a (fun r_2 => addr_bytes_W b (fun r_3 => Q (scmp r_2 r_3)))
def addr_Cmp_j2 (a : T_api_Addr) (b : T_api_Addr) (Q : Int → Prop) (b_3 : Bool) : Prop :=
  (b_3 = true → Q 1) ∧ (b_3 = false → ((!a.1) = true → (b.1 = true → Q (-1)) ∧ (b.1 = false → addr_Cmp_j1 a b Q)) ∧ ((!a.1) = false → addr_Cmp_j1 a b Q))
def addr_Cmp_W (a : T_api_Addr) (b : T_api_Addr) (Q : Int → Prop) : Prop :=
  (a.1 = true → addr_Cmp_j2 a b Q (!b.1)) ∧ (a.1 = false → addr_Cmp_j2 a b Q false)
set_option maxHeartbeats 40000000 in
set_option maxRecDepth 100000 in
theorem addr_Cmp_walk {F : Fz} {fr : List Ow} {h0 : Heap} (a : T_api_Addr) (b : T_api_Addr) (hS : St F (fr) h0)  {Q : Int → Prop} (hM : addr_Cmp_W a b Q) :
    HC Try.prog 50 #[.agg (e_api_Addr a).toArray, .agg (e_api_Addr b).toArray] h0 fun u h' => ∃ (F' : Fz) (r_1 : Int), u = .int .i64 r_1 ∧ Kp F h0 F' h' ∧ St F' (fr) h' ∧ Q r_1 := by
  unfold addr_Cmp_W at hM
  have hK := Kp.refl F h0
  refine HC.of_HW (n := 26) Try.func50 rfl rfl (Nat.le_of_ble_eq_true rfl) ?_
  refine HW.seq ?_
  refine HW.region ?_
  refine HO.eff (want_none) rfl (st_box (c := (e_api_Addr a).toArray) (k' := 17) hS rfl rfl) ?_
  rintro _ h_1 ⟨b_1, rfl, hS, hk⟩
  replace hK := hK.trans hk
  refine HO.eff (want_none) rfl (st_box (c := (e_api_Addr b).toArray) (k' := 17) hS rfl rfl) ?_
  rintro _ h_2 ⟨b_2, rfl, hS, hk⟩
  replace hK := hK.trans hk
  refine HO.val (v := .int .i64 0) (want_none) rfl (q_assign rfl) ?_
  refine HO.nil (thenQ_normal (?_))
  refine HW.seq_mid (fun f h => ∃ (F' : Fz), f 2 = .pointer (some ⟨b_1, 0, none⟩) ∧ f 3 = .pointer (some ⟨b_2, 0, none⟩) ∧ f 4 = .int .i64 0 ∧ Kp F h0 F' h ∧ St F' (Ow.box b_1 34 (e_api_Addr a).toArray :: Ow.box b_2 34 (e_api_Addr b).toArray :: fr) h ∧ addr_Cmp_j1 a b Q) ?_ ?_
  · refine HW.block ?_
    refine HW.seq_mid (fun f h => ∃ (F' : Fz) (b_3 : Bool), f 2 = .pointer (some ⟨b_1, 0, none⟩) ∧ f 3 = .pointer (some ⟨b_2, 0, none⟩) ∧ f 4 = .int .i64 0 ∧ f 5 = .bool b_3 ∧ Kp F h0 F' h ∧ St F' (Ow.box b_1 34 (e_api_Addr a).toArray :: Ow.box b_2 34 (e_api_Addr b).toArray :: fr) h ∧ addr_Cmp_j2 a b Q b_3) ?_ ?_
    · refine HW.region ?_
      refine HO.val (v := .pointer (some ⟨b_1, 0, none⟩)) (want_none) rfl (q_fieldAddr fa_34_0 rfl rfl) ?_
      refine HO.val (v := .bool a.1) (want_none) rfl (q_load to_4 rfl (Blk.cell (hS.box 1 rfl) rfl)) ?_
      refine HO.val (v := .bool a.1) (want_none) rfl (q_move rfl) ?_
      rcases Bool.eq_false_or_eq_true a.1 with c_1 | c_1
      · replace hM := hM.1 c_1
        refine HO.val (v := .pointer (some ⟨b_2, 0, none⟩)) (want_by rfl rfl c_1) rfl (q_fieldAddr fa_34_0 rfl rfl) ?_
        refine HO.val (v := .bool b.1) (want_by rfl rfl c_1) rfl (q_load to_4 rfl (Blk.cell (hS.box 0 rfl) rfl)) ?_
        refine HO.val (v := .bool (!b.1)) (want_by rfl rfl c_1) rfl (q_not rfl) ?_
        refine HO.val (v := .bool (!b.1)) (want_none) rfl (q_pickK true rfl c_1 rfl) ?_
        refine HO.val (v := .bool (!b.1)) (want_none) rfl (q_assign rfl) ?_
        refine HO.nil (thenQ_normal (?_))
        replace hS : St F (Ow.box b_1 34 (e_api_Addr a).toArray :: Ow.box b_2 34 (e_api_Addr b).toArray :: fr) h_2 := hS.perm2 [1, 0] 2 rfl rfl
        exact ⟨F, !b.1, rfl, rfl, rfl, rfl, hK, hS, hM⟩
      · replace hM := hM.2 c_1
        refine HO.past (past_by rfl rfl c_1) rfl ?_
        refine HO.past (past_by rfl rfl c_1) rfl ?_
        refine HO.past (past_by rfl rfl c_1) rfl ?_
        refine HO.val (v := .bool false) (want_none) rfl (q_pickK false rfl c_1 rfl) ?_
        refine HO.val (v := .bool false) (want_none) rfl (q_assign rfl) ?_
        refine HO.nil (thenQ_normal (?_))
        replace hS : St F (Ow.box b_1 34 (e_api_Addr a).toArray :: Ow.box b_2 34 (e_api_Addr b).toArray :: fr) h_2 := hS.perm2 [1, 0] 2 rfl rfl
        exact ⟨F, false, rfl, rfl, rfl, rfl, hK, hS, hM⟩
    · rintro f_1 h_3 ⟨F_1, b_3, e2, e3, e4, e5, hK, hS, hM⟩
      unfold addr_Cmp_j2 at hM
      refine HW.fr [(2, .pointer (some ⟨b_1, 0, none⟩)), (3, .pointer (some ⟨b_2, 0, none⟩)), (4, .int .i64 0), (5, .bool b_3)] ⟨e2, e3, e4, e5, trivial⟩ ?_
      refine HW.cond b_3 rfl (fun c_2 => ?_) (fun c_2 => ?_)
      · replace hM := hM.1 c_2
        refine HW.seq ?_
        refine HW.region ?_
        refine HO.val (v := .int .i64 1) (want_none) rfl (q_assign rfl) ?_
        refine HO.nil (thenQ_normal (?_))
        refine HW.ret (blockQ_ret (thenQ_ret (?_)))
        refine ⟨.inr rfl, .int .i64 1, res1 rfl (rt rfl), ?_⟩
        replace hS : St F_1 (fr) h_3 := hS.perm2 [] 2 rfl rfl
        exact ⟨F_1, 1, rfl, hK, hS, hM⟩
      · replace hM := hM.2 c_2
        refine HW.seq ?_
        refine HW.region ?_
        refine HO.val (v := .pointer (some ⟨b_1, 0, none⟩)) (want_none) rfl (q_fieldAddr fa_34_0 rfl rfl) ?_
        refine HO.val (v := .bool a.1) (want_none) rfl (q_load to_4 rfl (Blk.cell (hS.box 0 rfl) rfl)) ?_
        refine HO.val (v := .bool (!a.1)) (want_none) rfl (q_not rfl) ?_
        refine HO.val (v := .bool (!a.1)) (want_none) rfl (q_move rfl) ?_
        rcases Bool.eq_false_or_eq_true (!a.1) with c_3 | c_3
        · replace hM := hM.1 c_3
          refine HO.val (v := .pointer (some ⟨b_2, 0, none⟩)) (want_by rfl rfl c_3) rfl (q_fieldAddr fa_34_0 rfl rfl) ?_
          refine HO.val (v := .bool b.1) (want_by rfl rfl c_3) rfl (q_load to_4 rfl (Blk.cell (hS.box 1 rfl) rfl)) ?_
          refine HO.val (v := .bool b.1) (want_none) rfl (q_pickK true rfl c_3 rfl) ?_
          refine HO.val (v := .bool b.1) (want_none) rfl (q_assign rfl) ?_
          refine HO.nil (thenQ_normal (?_))
          refine HW.cond b.1 rfl (fun c_4 => ?_) (fun c_4 => ?_)
          · replace hM := hM.1 c_4
            refine HW.seq ?_
            refine HW.region ?_
            refine HO.val (v := .int .i64 (-1)) (want_none) rfl (q_assign rfl) ?_
            refine HO.nil (thenQ_normal (?_))
            refine HW.ret (blockQ_ret (thenQ_ret (?_)))
            refine ⟨.inr rfl, .int .i64 (-1), res1 rfl (rt rfl), ?_⟩
            replace hS : St F_1 (fr) h_3 := hS.perm2 [] 2 rfl rfl
            exact ⟨F_1, (-1), rfl, hK, hS, hM⟩
          · replace hM := hM.2 c_4
            refine HW.skip (blockQ_normal (thenQ_normal (?_)))
            exact ⟨F_1, rfl, rfl, rfl, hK, hS, hM⟩
        · replace hM := hM.2 c_3
          refine HO.past (past_by rfl rfl c_3) rfl ?_
          refine HO.past (past_by rfl rfl c_3) rfl ?_
          refine HO.val (v := .bool false) (want_none) rfl (q_pickK false rfl c_3 rfl) ?_
          refine HO.val (v := .bool false) (want_none) rfl (q_assign rfl) ?_
          refine HO.nil (thenQ_normal (?_))
          refine HW.condF rfl ?_
          refine HW.skip (blockQ_normal (thenQ_normal (?_)))
          exact ⟨F_1, rfl, rfl, rfl, hK, hS, hM⟩
  · rintro f_2 h_4 ⟨F_2, e2, e3, e4, hK, hS, hM⟩
    unfold addr_Cmp_j1 at hM
    refine HW.fr [(2, .pointer (some ⟨b_1, 0, none⟩)), (3, .pointer (some ⟨b_2, 0, none⟩)), (4, .int .i64 0)] ⟨e2, e3, e4, trivial⟩ ?_
    refine HW.seq ?_
    refine HW.regionA 6 mixed (fun h => (Blk h b_1 (.cells (e_api_Addr a).toArray 34 (0, 0))) ∧ (Blk h b_2 (.cells (e_api_Addr b).toArray 34 (0, 0)))) [] (by kernel_rfl) ?_
    refine HA.val (k := 0) (v := .agg (e_api_Addr a).toArray) rfl rfl (by kernel_rfl) (by kernel_rfl) (want_none) rfl (fun _ ⟨c203, c204⟩ => q_loadAgg (cs := (e_api_Addr a)) ta_34 rfl rfl (Blk.cells (k := 17) c203 rfl)) ?_
    refine HA.val (k := 2) (v := .agg (e_api_Addr b).toArray) rfl rfl (by kernel_rfl) (by kernel_rfl) (want_none) rfl (fun _ ⟨c203, c204⟩ => q_loadAgg (cs := (e_api_Addr b)) ta_34 rfl rfl (Blk.cells (k := 17) c204 rfl)) ?_
    refine HA.one (k := 1) ⟨⟨(hS.box 0 rfl), (hS.box 1 rfl)⟩, (Go.Wk.at_nil _ _)⟩ (by kernel_rfl) ?_
    refine HS.call rfl (want_none) rfl (ec en_61 rfl rfl) (addr_bytes_walk (fr := (Ow.box b_1 34 (e_api_Addr a).toArray :: Ow.box b_2 34 (e_api_Addr b).toArray :: fr)) a hS hM) ?_
    rintro _ h_5 ⟨F_3, r_2, rfl, hk, hS, hM⟩
    replace hK := hK.trans hk
    refine HA.one (k := 3) ⟨⟨(hS.box 0 rfl), (hS.box 1 rfl)⟩, (Go.Wk.at_nil _ _)⟩ (by kernel_rfl) ?_
    refine HS.call rfl (want_none) rfl (ec en_61 rfl rfl) (addr_bytes_walk (fr := (Ow.box b_1 34 (e_api_Addr a).toArray :: Ow.box b_2 34 (e_api_Addr b).toArray :: fr)) b hS hM) ?_
    rintro _ h_6 ⟨F_4, r_3, rfl, hk, hS, hM⟩
    replace hK := hK.trans hk
    refine HA.one (k := 4) ⟨⟨(hS.box 0 rfl), (hS.box 1 rfl)⟩, (Go.Wk.at_nil _ _)⟩ (by kernel_rfl) ?_
    refine HS.call rfl (want_none) rfl (ec en_60 rfl rfl) (strCompare_hc Try.strCmp r_2 r_3 _) ?_
    rintro _ h_7 ⟨rfl, hEq⟩
    rw [hEq]
    refine HA.val (k := 5) (v := .int .i64 (scmp r_2 r_3)) rfl rfl (by kernel_rfl) (by kernel_rfl) (want_none) rfl (fun _ ⟨c203, c204⟩ => q_assign rfl) ?_
    refine HA.nil ⟨⟨(hS.box 0 rfl), (hS.box 1 rfl)⟩, (Go.Wk.at_nil _ _)⟩ (by kernel_rfl) (thenQ_normal (?_))
    refine HW.ret (?_)
    refine ⟨.inr rfl, .int .i64 (scmp r_2 r_3), res1 rfl (rt rfl), ?_⟩
    replace hS : St F_4 (fr) h_6 := hS.perm2 [] 2 rfl rfl
    exact ⟨F_4, scmp r_2 r_3, rfl, hK, hS, hM⟩

def slices_Compact_s_api_Addr_api_Addr_l3 (s1 : List T_api_Addr) (Q : (List T_api_Addr) → Prop) (k_1 : Int) (K_2 : (List T_api_Addr) → Int → Int → Prop) (l_2 : List T_api_Addr) (k_2 : Int) (k2_1 : Int) : Prop :=
  ((0 : Int) ≤ k_1 ∧ k_1 ≤ (s1.length : Int) ∧ (s1.length : Int) ≤ (l_2.length : Int)) ∧ ((k2_1 < ((cut l_2 k_1 (s1.length : Int)).length : Int) → ((0 : Int) ≤ k2_1 ∧ k2_1 < ((cut l_2 k_1 (s1.length : Int)).length : Int)) ∧ ((I64 (k2_1 - 1)) ∧ (((0 : Int) ≤ k2_1 - 1 ∧ k2_1 - 1 < ((cut l_2 k_1 (s1.length : Int)).length : Int)) ∧ ((¬ ((((gi (cut l_2 k_1 (s1.length : Int)) k2_1).1, ((gi (cut l_2 k_1 (s1.length : Int)) k2_1).2)) : T_api_Addr) = ((gi (cut l_2 k_1 (s1.length : Int)) (k2_1 - 1)).1, ((gi (cut l_2 k_1 (s1.length : Int)) (k2_1 - 1)).2))) → ((0 : Int) ≤ k_2 ∧ k_2 < (l_2.length : Int)) ∧ ((I64 (k_2 + 1)) ∧ ((I64 (k2_1 + 1)) ∧ (K_2 (l_2.set (k_2).toNat ((gi (cut l_2 k_1 (s1.length : Int)) k2_1).1, ((gi (cut l_2 k_1 (s1.length : Int)) k2_1).2))) (k_2 + 1) (k2_1 + 1))))) ∧ ((((gi (cut l_2 k_1 (s1.length : Int)) k2_1).1, ((gi (cut l_2 k_1 (s1.length : Int)) k2_1).2)) : T_api_Addr) = ((gi (cut l_2 k_1 (s1.length : Int)) (k2_1 - 1)).1, ((gi (cut l_2 k_1 (s1.length : Int)) (k2_1 - 1)).2)) → (I64 (k2_1 + 1)) ∧ (K_2 l_2 k_2 (k2_1 + 1))))))) ∧ (¬ (k2_1 < ((cut l_2 k_1 (s1.length : Int)).length : Int)) → ((0 : Int) ≤ k_2 ∧ k_2 ≤ (l_2.length : Int)) ∧ (((0 : Int) ≤ k_2 ∧ k_2 ≤ (l_2.length : Int) ∧ (l_2.length : Int) ≤ (l_2.length : Int)) ∧ (((0 : Int) ≤ k_2 ∧ k_2 ≤ ((clr l_2 k_2 (l_2.length : Int)).length : Int)) ∧ (Q (cut (clr l_2 k_2 (l_2.length : Int)) 0 k_2))))))
def slices_Compact_s_api_Addr_api_Addr_l1 (s1 : List T_api_Addr) (Q : (List T_api_Addr) → Prop) (K_1 : Int → Prop) (k_1 : Int) : Prop :=
  (k_1 < (s1.length : Int) → ((0 : Int) ≤ k_1 ∧ k_1 < (s1.length : Int)) ∧ ((I64 (k_1 - 1)) ∧ (((0 : Int) ≤ k_1 - 1 ∧ k_1 - 1 < (s1.length : Int)) ∧ ((((gi s1 k_1) : T_api_Addr) = (gi s1 (k_1 - 1)) → ((0 : Int) ≤ k_1 ∧ k_1 ≤ (s1.length : Int)) ∧ (loopW (fun (K_2 : (List T_api_Addr × Int × Int) → Prop) (s : List T_api_Addr × Int × Int) => slices_Compact_s_api_Addr_api_Addr_l3 s1 Q k_1 (fun l_2 k_2 k2_1 => K_2 (l_2, k_2, k2_1)) s.1 s.2.1 s.2.2) (s1, k_1, 1))) ∧ (¬ (((gi s1 k_1) : T_api_Addr) = (gi s1 (k_1 - 1))) → (I64 (k_1 + 1)) ∧ (K_1 (k_1 + 1))))))) ∧ (¬ (k_1 < (s1.length : Int)) → Q s1)
def slices_Compact_s_api_Addr_api_Addr_W (s1 : List T_api_Addr) (Q : (List T_api_Addr) → Prop) : Prop :=
  ((s1.length : Int) < 2 → Q s1) ∧ (¬ ((s1.length : Int) < 2) → loopW (fun (K_1 : Int → Prop) (s : Int) => slices_Compact_s_api_Addr_api_Addr_l1 s1 Q K_1 s) 1)
set_option maxHeartbeats 40000000 in
set_option maxRecDepth 100000 in
theorem slices_Compact_s_api_Addr_api_Addr_walk {F : Fz} {fr : List Ow} {h0 : Heap} (s1 : List T_api_Addr) (vs : Value) (hS : St F (Ow.own 34 17 e_api_Addr vs s1 :: fr) h0)  {Q : (List T_api_Addr) → Prop} (hM : slices_Compact_s_api_Addr_api_Addr_W s1 Q) :
    HC Try.prog 51 #[vs] h0 fun u h' => ∃ (F' : Fz) (r_1 : List T_api_Addr) (vr_1 : Value), u = vr_1 ∧ Kp F h0 F' h' ∧ St F' (Ow.own 34 17 e_api_Addr vr_1 r_1 :: fr) h' ∧ Q r_1 := by
  unfold slices_Compact_s_api_Addr_api_Addr_W at hM
  have hK := Kp.refl F h0
  refine HC.of_HW (n := 61) Try.func51 rfl rfl (Nat.le_of_ble_eq_true rfl) ?_
  refine HW.seq ?_
  refine HW.region ?_
  refine HO.val (v := .slice none 0 0) (want_none) rfl (q_assign rfl) ?_
  refine HO.nil (thenQ_normal (?_))
  refine HW.seq ?_
  refine HW.seq ?_
  refine HW.region ?_
  refine HO.val (v := vs) (want_none) rfl (q_move rfl) ?_
  refine HO.val (v := .int .i64 (s1.length : Int)) (want_none) rfl (q_len ts_22 (shp (hS.own 0 rfl).slice) rfl rfl) ?_
  refine HO.val (v := .bool (decide ((s1.length : Int) < 2))) (want_none) rfl (q_lss rfl rfl) ?_
  refine HO.nil (thenQ_normal (?_))
  refine HW.cond (decide ((s1.length : Int) < 2)) rfl (fun c_1 => ?_) (fun c_1 => ?_)
  · replace hM := hM.1 (of_decide_eq_true c_1)
    refine HW.seq ?_
    refine HW.region ?_
    refine HO.val (v := vs) (want_none) rfl (q_move rfl) ?_
    refine HO.val (v := vs) (want_none) rfl (q_assign rfl) ?_
    refine HO.nil (thenQ_normal (?_))
    refine HW.ret (thenQ_ret (?_))
    refine ⟨.inr rfl, vs, res1 rfl (rt rfl), ?_⟩
    exact ⟨F, s1, vs, rfl, hK, hS, hM⟩
  · replace hM := hM.2 (of_decide_eq_false c_1)
    refine HW.skip (thenQ_normal (?_))
    refine HW.seq ?_
    refine HW.seq ?_
    refine HW.region ?_
    refine HO.val (v := .int .i64 1) (want_none) rfl (q_assign rfl) ?_
    refine HO.nil (thenQ_normal (?_))
    refine HW.block ?_
    obtain ⟨I_1, m_1, hI_1, hR_1⟩ := hM
    refine HW.loop (S := Int) (fun k_1 f h => ∃ (F' : Fz), f 0 = vs ∧ f 2 = .slice none 0 0 ∧ f 3 = .int .i64 k_1 ∧ Kp F h0 F' h ∧ St F' (Ow.own 34 17 e_api_Addr vs s1 :: fr) h ∧ I_1 k_1) m_1 1 ⟨F, rfl, rfl, rfl, hK, hS, hI_1⟩ ?_
    rintro k_1 f_1 h_1 ⟨F_1, e0, e2, e3, hK, hS, hI0⟩
    obtain ⟨K_1, hKe_1⟩ : ∃ K : Int → Prop, K = fun k_1' => I_1 k_1' ∧ m_1 k_1' < m_1 k_1 := ⟨_, rfl⟩
    have hM : slices_Compact_s_api_Addr_api_Addr_l1 s1 Q K_1 k_1 := by rw [hKe_1]; exact hR_1 k_1 hI0
    unfold slices_Compact_s_api_Addr_api_Addr_l1 at hM
    refine HW.fr [(0, vs), (2, .slice none 0 0), (3, .int .i64 k_1)] ⟨e0, e2, e3, trivial⟩ ?_
    refine HW.seq ?_
    refine HW.seq ?_
    refine HW.region ?_
    refine HO.val (v := .int .i64 k_1) (want_none) rfl (q_move rfl) ?_
    refine HO.val (v := vs) (want_none) rfl (q_move rfl) ?_
    refine HO.val (v := .int .i64 (s1.length : Int)) (want_none) rfl (q_len ts_22 (shp (hS.own 0 rfl).slice) rfl rfl) ?_
    refine HO.val (v := .bool (decide (k_1 < (s1.length : Int)))) (want_none) rfl (q_lss rfl rfl) ?_
    refine HO.nil (thenQ_normal (?_))
    refine HW.cond (decide (k_1 < (s1.length : Int))) rfl (fun c_2 => ?_) (fun c_2 => ?_)
    · replace hM := hM.1 (of_decide_eq_true c_2)
      refine HW.skip (thenQ_normal (?_))
      refine HW.seq ?_
      refine HW.block ?_
      refine HW.seq ?_
      refine HW.regionA 10 mixed (fun h => (OwnIs h 0 34 17 e_api_Addr vs s1)) [] (by kernel_rfl) ?_
      refine HA.val (k := 0) (v := vs) rfl rfl (by kernel_rfl) (by kernel_rfl) (want_none) rfl (fun _ c303 => q_move rfl) ?_
      refine HA.val (k := 1) (v := .int .i64 k_1) rfl rfl (by kernel_rfl) (by kernel_rfl) (want_none) rfl (fun _ c303 => q_move rfl) ?_
      obtain ⟨ho_1, hM⟩ := hM
      refine HA.val (k := 2) (v := elemPtr 17 vs (k_1).toNat) rfl rfl (by kernel_rfl) (by kernel_rfl) (want_none) rfl (fun _ c303 => q_idx ts_22 c303.slice rfl rfl ho_1) ?_
      refine HA.val (k := 3) (v := .agg (e_api_Addr (gi s1 k_1)).toArray) rfl rfl (by kernel_rfl) (by kernel_rfl) (want_none) rfl (fun _ c303 => q_ldElemAgg (cs := (e_api_Addr (gi s1 k_1))) ta_34 c303.slice rfl ho_1 rfl) ?_
      refine HA.val (k := 4) (v := vs) rfl rfl (by kernel_rfl) (by kernel_rfl) (want_none) rfl (fun _ c303 => q_move rfl) ?_
      refine HA.val (k := 5) (v := .int .i64 k_1) rfl rfl (by kernel_rfl) (by kernel_rfl) (want_none) rfl (fun _ c303 => q_move rfl) ?_
      obtain ⟨ho_2, hM⟩ := hM
      refine HA.val (k := 6) (v := .int .i64 (k_1 - 1)) rfl rfl (by kernel_rfl) (by kernel_rfl) (want_none) rfl (fun _ c303 => q_subN _ rfl rfl rfl ho_2.1 ho_2.2) ?_
      obtain ⟨ho_3, hM⟩ := hM
      refine HA.val (k := 7) (v := elemPtr 17 vs (k_1 - 1).toNat) rfl rfl (by kernel_rfl) (by kernel_rfl) (want_none) rfl (fun _ c303 => q_idx ts_22 c303.slice rfl rfl ho_3) ?_
      refine HA.val (k := 8) (v := .agg (e_api_Addr (gi s1 (k_1 - 1))).toArray) rfl rfl (by kernel_rfl) (by kernel_rfl) (want_none) rfl (fun _ c303 => q_ldElemAgg (cs := (e_api_Addr (gi s1 (k_1 - 1)))) ta_34 c303.slice rfl ho_3 rfl) ?_
      refine HA.val (k := 9) (v := .bool (decide (((gi s1 k_1) : T_api_Addr) = (gi s1 (k_1 - 1))))) rfl rfl (by kernel_rfl) (by kernel_rfl) (want_none) rfl (fun _ c303 => q_eqlAgg (a := (gi s1 k_1)) (b := (gi s1 (k_1 - 1))) (fun a b w => teq_34 9997 a b w) (by kernel_rfl) rfl rfl rfl rfl) ?_
      refine HA.nil ⟨(hS.own 0 rfl), (Go.Wk.at_nil _ _)⟩ (by kernel_rfl) (thenQ_normal (?_))
      refine HW.cond (decide (((gi s1 k_1) : T_api_Addr) = (gi s1 (k_1 - 1)))) rfl (fun c_3 => ?_) (fun c_3 => ?_)
      · replace hM := hM.1 (of_decide_eq_true c_3)
        refine HW.seq ?_
        refine HW.region ?_
        refine HO.val (v := vs) (want_none) rfl (q_move rfl) ?_
        refine HO.val (v := .int .i64 k_1) (want_none) rfl (q_move rfl) ?_
        obtain ⟨ho_4, hM⟩ := hM
        refine HO.val (v := cutV 17 vs (k_1).toNat ((s1.length : Int)).toNat) (want_none) rfl (q_slL ts_22 (hS.own 0 rfl).slice rfl rfl ho_4) ?_
        refine HO.val (v := cutV 17 vs (k_1).toNat ((s1.length : Int)).toNat) (want_none) rfl (q_assign rfl) ?_
        refine HO.nil (thenQ_normal (?_))
        refine HW.seq ?_
        refine HW.seq ?_
        refine HW.region ?_
        refine HO.val (v := .int .i64 1) (want_none) rfl (q_assign rfl) ?_
        refine HO.nil (thenQ_normal (?_))
        refine HW.block ?_
        obtain ⟨I_2, m_2, hI_2, hR_2⟩ := hM
        refine HW.loop (S := List T_api_Addr × Int × Int) (fun s f h => match s with | (l_2, k_2, k2_1) => ∃ (F' : Fz), f 0 = vs ∧ f 2 = .slice none 0 0 ∧ f 3 = .int .i64 k_2 ∧ f 4 = cutV 17 vs (k_1).toNat ((s1.length : Int)).toNat ∧ f 5 = .int .i64 k2_1 ∧ Kp F h0 F' h ∧ St F' (Ow.own 34 17 e_api_Addr vs l_2 :: fr) h ∧ I_2 (l_2, k_2, k2_1)) m_2 (s1, k_1, 1) ⟨F_1, rfl, rfl, rfl, rfl, rfl, hK, hS, hI_2⟩ ?_
        rintro ⟨l_2, k_2, k2_1⟩ f_2 h_2 ⟨F_2, e0, e2, e3, e4, e5, hK, hS, hI0⟩
        obtain ⟨K_2, hKe_2⟩ : ∃ K : (List T_api_Addr) → Int → Int → Prop, K = fun l_2' k_2' k2_1' => I_2 (l_2', k_2', k2_1') ∧ m_2 (l_2', k_2', k2_1') < m_2 (l_2, k_2, k2_1) := ⟨_, rfl⟩
        have hM : slices_Compact_s_api_Addr_api_Addr_l3 s1 Q k_1 K_2 l_2 k_2 k2_1 := by rw [hKe_2]; exact hR_2 (l_2, k_2, k2_1) hI0
        unfold slices_Compact_s_api_Addr_api_Addr_l3 at hM
        refine HW.fr [(0, vs), (2, .slice none 0 0), (3, .int .i64 k_2), (4, cutV 17 vs (k_1).toNat ((s1.length : Int)).toNat), (5, .int .i64 k2_1)] ⟨e0, e2, e3, e4, e5, trivial⟩ ?_
        refine HW.seq ?_
        refine HW.seq ?_
        refine HW.region ?_
        refine HO.val (v := .int .i64 k2_1) (want_none) rfl (q_move rfl) ?_
        refine HO.val (v := cutV 17 vs (k_1).toNat ((s1.length : Int)).toNat) (want_none) rfl (q_move rfl) ?_
        obtain ⟨ho_5, hM⟩ := hM
        refine HO.val (v := .int .i64 ((cut l_2 k_1 (s1.length : Int)).length : Int)) (want_none) rfl (q_len ts_22 (shp (cutIs (hS.own 0 rfl).slice k_1 (s1.length : Int) ho_5.1 ho_5.2.1 ho_5.2.2)) rfl rfl) ?_
        refine HO.val (v := .bool (decide (k2_1 < ((cut l_2 k_1 (s1.length : Int)).length : Int)))) (want_none) rfl (q_lss rfl rfl) ?_
        refine HO.nil (thenQ_normal (?_))
        refine HW.cond (decide (k2_1 < ((cut l_2 k_1 (s1.length : Int)).length : Int))) rfl (fun c_4 => ?_) (fun c_4 => ?_)
        · replace hM := hM.1 (of_decide_eq_true c_4)
          refine HW.skip (thenQ_normal (?_))
          refine HW.seq ?_
          refine HW.block ?_
          refine HW.seq ?_
          refine HW.regionA 10 mixed (fun h => (OwnIs h 0 34 17 e_api_Addr vs l_2)) [] (by kernel_rfl) ?_
          refine HA.val (k := 0) (v := cutV 17 vs (k_1).toNat ((s1.length : Int)).toNat) rfl rfl (by kernel_rfl) (by kernel_rfl) (want_none) rfl (fun _ c520 => q_move rfl) ?_
          refine HA.val (k := 1) (v := .int .i64 k2_1) rfl rfl (by kernel_rfl) (by kernel_rfl) (want_none) rfl (fun _ c520 => q_move rfl) ?_
          obtain ⟨ho_6, hM⟩ := hM
          refine HA.val (k := 2) (v := elemPtr 17 (cutV 17 vs (k_1).toNat ((s1.length : Int)).toNat) (k2_1).toNat) rfl rfl (by kernel_rfl) (by kernel_rfl) (want_none) rfl (fun _ c520 => q_idx ts_22 (cutIs c520.slice k_1 (s1.length : Int) ho_5.1 ho_5.2.1 ho_5.2.2) rfl rfl ho_6) ?_
          refine HA.val (k := 3) (v := .agg (e_api_Addr ((gi (cut l_2 k_1 (s1.length : Int)) k2_1).1, ((gi (cut l_2 k_1 (s1.length : Int)) k2_1).2))).toArray) rfl rfl (by kernel_rfl) (by kernel_rfl) (want_none) rfl (fun _ c520 => q_ldElemAgg (cs := (e_api_Addr ((gi (cut l_2 k_1 (s1.length : Int)) k2_1).1, ((gi (cut l_2 k_1 (s1.length : Int)) k2_1).2)))) ta_34 (cutIs c520.slice k_1 (s1.length : Int) ho_5.1 ho_5.2.1 ho_5.2.2) rfl ho_6 rfl) ?_
          refine HA.val (k := 4) (v := cutV 17 vs (k_1).toNat ((s1.length : Int)).toNat) rfl rfl (by kernel_rfl) (by kernel_rfl) (want_none) rfl (fun _ c520 => q_move rfl) ?_
          refine HA.val (k := 5) (v := .int .i64 k2_1) rfl rfl (by kernel_rfl) (by kernel_rfl) (want_none) rfl (fun _ c520 => q_move rfl) ?_
          obtain ⟨ho_7, hM⟩ := hM
          refine HA.val (k := 6) (v := .int .i64 (k2_1 - 1)) rfl rfl (by kernel_rfl) (by kernel_rfl) (want_none) rfl (fun _ c520 => q_subN _ rfl rfl rfl ho_7.1 ho_7.2) ?_
          obtain ⟨ho_8, hM⟩ := hM
          refine HA.val (k := 7) (v := elemPtr 17 (cutV 17 vs (k_1).toNat ((s1.length : Int)).toNat) (k2_1 - 1).toNat) rfl rfl (by kernel_rfl) (by kernel_rfl) (want_none) rfl (fun _ c520 => q_idx ts_22 (cutIs c520.slice k_1 (s1.length : Int) ho_5.1 ho_5.2.1 ho_5.2.2) rfl rfl ho_8) ?_
          refine HA.val (k := 8) (v := .agg (e_api_Addr ((gi (cut l_2 k_1 (s1.length : Int)) (k2_1 - 1)).1, ((gi (cut l_2 k_1 (s1.length : Int)) (k2_1 - 1)).2))).toArray) rfl rfl (by kernel_rfl) (by kernel_rfl) (want_none) rfl (fun _ c520 => q_ldElemAgg (cs := (e_api_Addr ((gi (cut l_2 k_1 (s1.length : Int)) (k2_1 - 1)).1, ((gi (cut l_2 k_1 (s1.length : Int)) (k2_1 - 1)).2)))) ta_34 (cutIs c520.slice k_1 (s1.length : Int) ho_5.1 ho_5.2.1 ho_5.2.2) rfl ho_8 rfl) ?_
          refine HA.val (k := 9) (v := .bool (!decide ((((gi (cut l_2 k_1 (s1.length : Int)) k2_1).1, ((gi (cut l_2 k_1 (s1.length : Int)) k2_1).2)) : T_api_Addr) = ((gi (cut l_2 k_1 (s1.length : Int)) (k2_1 - 1)).1, ((gi (cut l_2 k_1 (s1.length : Int)) (k2_1 - 1)).2))))) rfl rfl (by kernel_rfl) (by kernel_rfl) (want_none) rfl (fun _ c520 => q_neqAgg (a := ((gi (cut l_2 k_1 (s1.length : Int)) k2_1).1, ((gi (cut l_2 k_1 (s1.length : Int)) k2_1).2))) (b := ((gi (cut l_2 k_1 (s1.length : Int)) (k2_1 - 1)).1, ((gi (cut l_2 k_1 (s1.length : Int)) (k2_1 - 1)).2))) (fun a b w => teq_34 9997 a b w) (by kernel_rfl) rfl rfl rfl rfl) ?_
          refine HA.nil ⟨(hS.own 0 rfl), (Go.Wk.at_nil _ _)⟩ (by kernel_rfl) (thenQ_normal (?_))
          refine HW.cond (!decide ((((gi (cut l_2 k_1 (s1.length : Int)) k2_1).1, ((gi (cut l_2 k_1 (s1.length : Int)) k2_1).2)) : T_api_Addr) = ((gi (cut l_2 k_1 (s1.length : Int)) (k2_1 - 1)).1, ((gi (cut l_2 k_1 (s1.length : Int)) (k2_1 - 1)).2)))) rfl (fun c_5 => ?_) (fun c_5 => ?_)
          · replace hM := hM.1 (nd_true c_5)
            refine HW.seq ?_
            refine HW.region ?_
            refine HO.val (v := vs) (want_none) rfl (q_move rfl) ?_
            refine HO.val (v := .int .i64 k_2) (want_none) rfl (q_move rfl) ?_
            refine HO.val (v := cutV 17 vs (k_1).toNat ((s1.length : Int)).toNat) (want_none) rfl (q_move rfl) ?_
            refine HO.val (v := .int .i64 k2_1) (want_none) rfl (q_move rfl) ?_
            refine HO.val (v := elemPtr 17 (cutV 17 vs (k_1).toNat ((s1.length : Int)).toNat) (k2_1).toNat) (want_none) rfl (q_idx ts_22 (cutIs (hS.own 0 rfl).slice k_1 (s1.length : Int) ho_5.1 ho_5.2.1 ho_5.2.2) rfl rfl ho_6) ?_
            refine HO.val (v := .agg (e_api_Addr ((gi (cut l_2 k_1 (s1.length : Int)) k2_1).1, ((gi (cut l_2 k_1 (s1.length : Int)) k2_1).2))).toArray) (want_none) rfl (q_ldElemAgg (cs := (e_api_Addr ((gi (cut l_2 k_1 (s1.length : Int)) k2_1).1, ((gi (cut l_2 k_1 (s1.length : Int)) k2_1).2)))) ta_34 (cutIs (hS.own 0 rfl).slice k_1 (s1.length : Int) ho_5.1 ho_5.2.1 ho_5.2.2) rfl ho_6 rfl) ?_
            obtain ⟨ho_9, hM⟩ := hM
            refine HO.val (v := elemPtr 17 vs (k_2).toNat) (want_none) rfl (q_idx ts_22 (hS.own 0 rfl).slice rfl rfl ho_9) ?_
            refine HO.sto (want_none) rfl (st_storeElem (a := ((gi (cut l_2 k_1 (s1.length : Int)) k2_1).1, ((gi (cut l_2 k_1 (s1.length : Int)) k2_1).2))) (t := k_2) hS (i := 0) rfl ta_34 rfl ho_9 rfl rfl rfl (one_e_api_Addr _)) ?_
            rintro h_3 ⟨hS, hk⟩
            replace hS : St F_2 (Ow.own 34 17 e_api_Addr vs (l_2.set (k_2).toNat ((gi (cut l_2 k_1 (s1.length : Int)) k2_1).1, ((gi (cut l_2 k_1 (s1.length : Int)) k2_1).2))) :: fr) h_3 := hS
            replace hK := hK.trans hk
            refine HO.nil (thenQ_normal (?_))
            refine HW.region ?_
            refine HO.val (v := .int .i64 k_2) (want_none) rfl (q_move rfl) ?_
            obtain ⟨ho_10, hM⟩ := hM
            refine HO.val (v := .int .i64 (k_2 + 1)) (want_none) rfl (q_addN _ rfl rfl rfl ho_10.1 ho_10.2) ?_
            refine HO.val (v := .int .i64 (k_2 + 1)) (want_none) rfl (q_assign rfl) ?_
            refine HO.nil (blockQ_normal (thenQ_normal (?_)))
            refine HW.region ?_
            refine HO.val (v := .int .i64 k2_1) (want_none) rfl (q_move rfl) ?_
            obtain ⟨ho_11, hM⟩ := hM
            refine HO.val (v := .int .i64 (k2_1 + 1)) (want_none) rfl (q_addN _ rfl rfl rfl ho_11.1 ho_11.2) ?_
            refine HO.val (v := .int .i64 (k2_1 + 1)) (want_none) rfl (q_assign rfl) ?_
            refine HO.nil (thenQ_normal (?_))
            rw [hKe_2] at hM
            exact ⟨(l_2.set (k_2).toNat ((gi (cut l_2 k_1 (s1.length : Int)) k2_1).1, ((gi (cut l_2 k_1 (s1.length : Int)) k2_1).2)), k_2 + 1, k2_1 + 1), ⟨F_2, rfl, rfl, rfl, rfl, rfl, hK, hS, hM.1⟩, hM.2⟩
          · replace hM := hM.2 (nd_false c_5)
            refine HW.skip (blockQ_normal (thenQ_normal (?_)))
            refine HW.region ?_
            refine HO.val (v := .int .i64 k2_1) (want_none) rfl (q_move rfl) ?_
            obtain ⟨ho_12, hM⟩ := hM
            refine HO.val (v := .int .i64 (k2_1 + 1)) (want_none) rfl (q_addN _ rfl rfl rfl ho_12.1 ho_12.2) ?_
            refine HO.val (v := .int .i64 (k2_1 + 1)) (want_none) rfl (q_assign rfl) ?_
            refine HO.nil (thenQ_normal (?_))
            rw [hKe_2] at hM
            exact ⟨(l_2, k_2, k2_1 + 1), ⟨F_2, rfl, rfl, rfl, rfl, rfl, hK, hS, hM.1⟩, hM.2⟩
        · replace hM := hM.2 (of_decide_eq_false c_4)
          refine HW.exit (thenQ_exit (thenQ_exit (blockQ_exit (thenQ_normal (?_)))))
          refine HW.seq ?_
          refine HW.region ?_
          refine HO.val (v := vs) (want_none) rfl (q_move rfl) ?_
          refine HO.val (v := .int .i64 k_2) (want_none) rfl (q_move rfl) ?_
          obtain ⟨ho_13, hM⟩ := hM
          refine HO.val (v := cutV 17 vs (k_2).toNat ((l_2.length : Int)).toNat) (want_none) rfl (q_slL ts_22 (hS.own 0 rfl).slice rfl rfl ho_13) ?_
          obtain ⟨ho_14, hM⟩ := hM
          refine HO.eff (want_none) rfl (st_clearS (lo := k_2) (hi := (l_2.length : Int)) (z := .agg #[.bool false, .int .u8 0, .int .u8 0, .int .u8 0, .int .u8 0, .int .u8 0, .int .u8 0, .int .u8 0, .int .u8 0, .int .u8 0, .int .u8 0, .int .u8 0, .int .u8 0, .int .u8 0, .int .u8 0, .int .u8 0, .int .u8 0]) hS (i := 0) rfl te_22 tz_34 rfl (by intro u hu; simp [e_api_Addr, encI, encN, encB, encT, default] at hu; rcases hu with rfl | rfl | rfl | rfl | rfl | rfl | rfl | rfl | rfl | rfl | rfl | rfl | rfl | rfl | rfl | rfl | rfl <;> rfl) rfl ho_14 rfl) ?_
          rintro _ h_4 ⟨rfl, hS, hk⟩
          replace hS : St F_2 (Ow.own 34 17 e_api_Addr vs (clr l_2 k_2 (l_2.length : Int)) :: fr) h_4 := hS
          replace hK := hK.trans hk
          refine HO.nil (thenQ_normal (?_))
          refine HW.seq ?_
          refine HW.region ?_
          refine HO.val (v := vs) (want_none) rfl (q_move rfl) ?_
          refine HO.val (v := .int .i64 k_2) (want_none) rfl (q_move rfl) ?_
          obtain ⟨ho_15, hM⟩ := hM
          refine HO.val (v := cutV 17 vs (0 : Int).toNat (k_2).toNat) (want_none) rfl (q_slH ts_22 (hS.own 0 rfl).slice rfl rfl ho_15) ?_
          refine HO.val (v := cutV 17 vs (0 : Int).toNat (k_2).toNat) (want_none) rfl (q_assign rfl) ?_
          refine HO.nil (thenQ_normal (?_))
          refine HW.ret (blockQ_ret (thenQ_ret (thenQ_ret (blockQ_ret (thenQ_ret (?_))))))
          refine ⟨.inr rfl, cutV 17 vs (0 : Int).toNat (k_2).toNat, res1 rfl (rt rfl), ?_⟩
          replace hS := hS.shrink 0 rfl k_2 ho_15.1 ho_15.2
          replace hS : St F_2 (Ow.own 34 17 e_api_Addr (cutV 17 vs (0 : Int).toNat (k_2).toNat) (cut (clr l_2 k_2 (l_2.length : Int)) 0 k_2) :: fr) h_4 := hS
          exact ⟨F_2, cut (clr l_2 k_2 (l_2.length : Int)) 0 k_2, cutV 17 vs (0 : Int).toNat (k_2).toNat, rfl, hK, hS, hM⟩
      · replace hM := hM.2 (of_decide_eq_false c_3)
        refine HW.skip (blockQ_normal (thenQ_normal (?_)))
        refine HW.region ?_
        refine HO.val (v := .int .i64 k_1) (want_none) rfl (q_move rfl) ?_
        obtain ⟨ho_16, hM⟩ := hM
        refine HO.val (v := .int .i64 (k_1 + 1)) (want_none) rfl (q_addN _ rfl rfl rfl ho_16.1 ho_16.2) ?_
        refine HO.val (v := .int .i64 (k_1 + 1)) (want_none) rfl (q_assign rfl) ?_
        refine HO.nil (thenQ_normal (?_))
        rw [hKe_1] at hM
        exact ⟨k_1 + 1, ⟨F_1, rfl, rfl, rfl, hK, hS, hM.1⟩, hM.2⟩
    · replace hM := hM.2 (of_decide_eq_false c_2)
      refine HW.exit (thenQ_exit (thenQ_exit (blockQ_exit (thenQ_normal (?_)))))
      refine HW.seq ?_
      refine HW.region ?_
      refine HO.val (v := vs) (want_none) rfl (q_move rfl) ?_
      refine HO.val (v := vs) (want_none) rfl (q_assign rfl) ?_
      refine HO.nil (thenQ_normal (?_))
      refine HW.ret (?_)
      refine ⟨.inr rfl, vs, res1 rfl (rt rfl), ?_⟩
      exact ⟨F_1, s1, vs, rfl, hK, hS, hM⟩

def srcs_Of_W (l : List T_api_Addr) (Q : (List T_api_Addr) → Prop) : Prop :=
  slices_Clone_s_api_Addr_api_Addr_W l (fun r_2 => ∃ cf_1 : T_api_Addr → Bool, (∀ x0, srcs_Of_1_W x0 (fun r => r = cf_1 x0)) ∧ (slices_DeleteFunc_s_api_Addr_api_Addr_W r_2 cf_1 (fun r_3 => ∃ cf_2 : T_api_Addr → T_api_Addr → Int, Swo cf_2 ∧ (∀ x y, addr_Cmp_W x y (fun r => r = cf_2 x y)) ∧ (r_3).length < 4611686018427387904 ∧ ∀ l_1 : List T_api_Addr, List.Perm l_1 r_3 → List.Pairwise (fun x y => ¬ cf_2 y x < 0) l_1 → (slices_Compact_s_api_Addr_api_Addr_W l_1 (fun r_4 => Q r_4)))))
set_option maxHeartbeats 40000000 in
set_option maxRecDepth 100000 in
theorem srcs_Of_walk {F : Fz} {fr : List Ow} {h0 : Heap} (l : List T_api_Addr) (vl : Value) (hS : St F (fr) h0) (hL_l : SliceF F h0 17 e_api_Addr vl l) {Q : (List T_api_Addr) → Prop} (hM : srcs_Of_W l Q) :
    HC Try.prog 30 #[vl] h0 fun u h' => ∃ (F' : Fz) (r_1 : List T_api_Addr) (vr_1 : Value), u = vr_1 ∧ Kp F h0 F' h' ∧ St F' (Ow.own 34 17 e_api_Addr vr_1 r_1 :: fr) h' ∧ (SliceF F' h' 17 e_api_Addr vl l) ∧ Q r_1 := by
  unfold srcs_Of_W at hM
  have hK := Kp.refl F h0
  refine HC.of_HW (n := 11) Try.func30 rfl rfl (Nat.le_of_ble_eq_true rfl) ?_
  refine HW.seq ?_
  refine HW.region ?_
  refine HO.val (v := .slice none 0 0) (want_none) rfl (q_assign rfl) ?_
  refine HO.nil (thenQ_normal (?_))
  refine HW.seq ?_
  refine HW.region ?_
  refine HO.val (v := vl) (want_none) rfl (q_move rfl) ?_
  refine HO.call (want_none) rfl (ec en_41 rfl rfl) (slices_Clone_s_api_Addr_api_Addr_walk (fr := (fr)) l vl hS hL_l hM) ?_
  rintro vr_2 h_1 ⟨F_1, r_2, _, rfl, hk, hS, _, hM⟩
  replace hK := hK.trans hk
  replace hL_l := hL_l.kp hk
  obtain ⟨cf_1, hc_1, hM⟩ := hM
  have hF_1 : FnP Try.prog F_1 h_1 47 #[] #[] (fun x : T_api_Addr => [.agg (e_api_Addr x).toArray]) (fun x => .bool (cf_1 x)) := FnP.of en_47 (fun x h' hk_ => @HC.mono ⟨true⟩ _ _ _ _ _ _ (@srcs_Of_1_walk ⟨true⟩ (allF h') [] h' x  (St.init h')  (fun r => r = cf_1 x) (hc_1 x)) (fun u h'' ⟨F', r, hu, k_, _, hr⟩ => ⟨by rw [hu, hr], F', k_⟩))
  refine HO.call (want_none) rfl (ec en_46 rfl rfl) (slices_DeleteFunc_s_api_Addr_api_Addr_walk (fr := (fr)) r_2 cf_1 vr_2 47 (#[]) (#[]) hS hF_1 hM) ?_
  rintro vr_3 h_2 ⟨F_2, r_3, _, rfl, hk, hS, _, hM⟩
  replace hK := hK.trans hk
  replace hL_l := hL_l.kp hk
  replace hF_1 := hF_1.kp hk
  refine HO.val (v := vr_3) (want_none) rfl (q_assign rfl) ?_
  refine HO.nil (thenQ_normal (?_))
  refine HW.seq ?_
  refine HW.region ?_
  refine HO.val (v := vr_3) (want_none) rfl (q_move rfl) ?_
  obtain ⟨cf_2, ho_1, hc_2, hM⟩ := hM
  obtain ⟨ho_2, hM⟩ := hM
  refine HO.call (want_none) rfl (ec en_49 rfl rfl) (sortFunc_own Try.sortAddr (by decide) (fun w => by kernel_rfl) (fun w => by kernel_rfl) (enc := e_api_Addr) (fun _ => rfl) (by intro a u hu; simp [e_api_Addr, encI, encN, encB, encT] at hu; rcases hu with rfl | rfl | rfl | rfl | rfl | rfl | rfl | rfl | rfl | rfl | rfl | rfl | rfl | rfl | rfl | rfl | rfl <;> rfl) ho_1 hS (fnP2 (enc := e_api_Addr) en_50 (fun x y h' => @addr_Cmp_walk ⟨true⟩ (allF h') [] h' x y (St.init h') (fun r => r = cf_2 x y) (hc_2 x y))) ho_2) ?_
  rintro _ h_3 ⟨l_1, rfl, hk, hS, hp_1, hs_1⟩
  replace hM := hM l_1 hp_1 hs_1
  replace hS : St F_2 (Ow.own 34 17 e_api_Addr vr_3 l_1 :: fr) h_3 := hS
  replace hK := hK.trans hk
  replace hL_l := hL_l.kp hk
  replace hF_1 := hF_1.kp hk
  refine HO.nil (thenQ_normal (?_))
  refine HW.seq ?_
  refine HW.region ?_
  refine HO.val (v := vr_3) (want_none) rfl (q_move rfl) ?_
  refine HO.call (want_none) rfl (ec en_51 rfl rfl) (slices_Compact_s_api_Addr_api_Addr_walk (fr := (fr)) l_1 vr_3 hS hM) ?_
  rintro vr_4 h_4 ⟨F_3, r_4, _, rfl, hk, hS, hM⟩
  replace hK := hK.trans hk
  replace hL_l := hL_l.kp hk
  replace hF_1 := hF_1.kp hk
  refine HO.val (v := vr_4) (want_none) rfl (q_assign rfl) ?_
  refine HO.nil (thenQ_normal (?_))
  refine HW.ret (?_)
  refine ⟨.inr rfl, vr_4, res1 rfl (rt rfl), ?_⟩
  exact ⟨F_3, r_4, vr_4, rfl, hK, hS, hL_l, hM⟩

def filter_own_W (s_Exclude : Bool) (s_On : List T_api_Addr) (s_Off : List T_api_Addr) (Q : Bool → (List T_api_Addr) → (List T_api_Addr) → Prop) : Prop :=
  slices_Clone_s_api_Addr_api_Addr_W s_On (fun r_1 => slices_Clone_s_api_Addr_api_Addr_W s_Off (fun r_2 => Q s_Exclude r_1 r_2))
set_option maxHeartbeats 40000000 in
set_option maxRecDepth 100000 in
theorem filter_own_walk {F : Fz} {fr : List Ow} {h0 : Heap} (s_Exclude : Bool) (s_On : List T_api_Addr) (s_Off : List T_api_Addr) (vs_On : Value) (vs_Off : Value) (hS : St F (fr) h0) (hL_s_On : SliceF F h0 17 e_api_Addr vs_On s_On) (hL_s_Off : SliceF F h0 17 e_api_Addr vs_Off s_Off) {Q : Bool → (List T_api_Addr) → (List T_api_Addr) → Prop} (hM : filter_own_W s_Exclude s_On s_Off Q) :
    HC Try.prog 38 #[.agg #[.bool s_Exclude, vs_On, vs_Off]] h0 fun u h' => ∃ (F' : Fz) (r_0_1 : Bool) (r_1_1 : List T_api_Addr) (r_2_1 : List T_api_Addr) (vr_1_1 : Value) (vr_2_1 : Value), u = .agg #[.bool r_0_1, vr_1_1, vr_2_1] ∧ Kp F h0 F' h' ∧ St F' (Ow.own 34 17 e_api_Addr vr_1_1 r_1_1 :: Ow.own 34 17 e_api_Addr vr_2_1 r_2_1 :: fr) h' ∧ (SliceF F' h' 17 e_api_Addr vs_On s_On) ∧ (SliceF F' h' 17 e_api_Addr vs_Off s_Off) ∧ Q r_0_1 r_1_1 r_2_1 := by
  unfold filter_own_W at hM
  have hK := Kp.refl F h0
  refine HC.of_HW (n := 12) Try.func38 rfl rfl (Nat.le_of_ble_eq_true rfl) ?_
  refine HW.seq ?_
  refine HW.region ?_
  refine HO.eff (want_none) rfl (st_box (c := #[.bool s_Exclude, vs_On, vs_Off]) (k' := 3) hS rfl rfl) ?_
  rintro _ h_1 ⟨b_1, rfl, hS, hk⟩
  replace hK := hK.trans hk
  replace hL_s_On := hL_s_On.kp hk
  replace hL_s_Off := hL_s_Off.kp hk
  refine HO.eff (want_none) rfl (st_alloc (c := #[.bool false, .slice none 0 0, .slice none 0 0]) hS tz_24 rfl) ?_
  rintro _ h_2 ⟨b_2, rfl, hS, hk⟩
  replace hK := hK.trans hk
  replace hL_s_On := hL_s_On.kp hk
  replace hL_s_Off := hL_s_Off.kp hk
  refine HO.nil (thenQ_normal (?_))
  refine HW.seq ?_
  refine HW.regionA 10 mixed (fun h => True) [(7, fun h => (Blk h b_1 (.cells #[.bool s_Exclude, vs_On, vs_Off] 24 (0, 0))))] (by kernel_rfl) ?_
  refine HA.val (k := 0) (v := .pointer (some ⟨b_1, 1, none⟩)) rfl rfl (by kernel_rfl) (by kernel_rfl) (want_none) rfl (fun _ _ => q_fieldAddr fa_24_1 rfl rfl) ?_
  refine Go.Wk.HA.valN (k := 1) (v := vs_On) 0 7 (fun h => (Blk h b_1 (.cells #[.bool s_Exclude, vs_On, vs_Off] 24 (0, 0)))) rfl rfl (by kernel_rfl) (by kernel_rfl) (want_none) rfl rfl (by kernel_rfl) (fun _ _ c203 => q_load to_22 rfl (Blk.cell c203 rfl)) ?_
  refine HA.val (k := 3) (v := .pointer (some ⟨b_1, 2, none⟩)) rfl rfl (by kernel_rfl) (by kernel_rfl) (want_none) rfl (fun _ _ => q_fieldAddr fa_24_2 rfl rfl) ?_
  refine Go.Wk.HA.valN (k := 4) (v := vs_Off) 0 7 (fun h => (Blk h b_1 (.cells #[.bool s_Exclude, vs_On, vs_Off] 24 (0, 0)))) rfl rfl (by kernel_rfl) (by kernel_rfl) (want_none) rfl rfl (by kernel_rfl) (fun _ _ c203 => q_load to_22 rfl (Blk.cell c203 rfl)) ?_
  refine HA.one (k := 2) ⟨trivial, (at_now (hS.box 1 rfl) (Go.Wk.at_nil _ _))⟩ (by kernel_rfl) ?_
  refine HS.call rfl (want_none) rfl (ec en_41 rfl rfl) (slices_Clone_s_api_Addr_api_Addr_walk (fr := (Ow.box b_2 24 #[.bool false, .slice none 0 0, .slice none 0 0] :: Ow.box b_1 24 #[.bool s_Exclude, vs_On, vs_Off] :: fr)) s_On vs_On hS hL_s_On hM) ?_
  rintro vr_1 h_3 ⟨F_1, r_1, _, rfl, hk, hS, _, hM⟩
  replace hK := hK.trans hk
  replace hL_s_On := hL_s_On.kp hk
  replace hL_s_Off := hL_s_Off.kp hk
  refine HA.val (k := 6) (v := .pointer (some ⟨b_1, 1, none⟩)) rfl rfl (by kernel_rfl) (by kernel_rfl) (want_none) rfl (fun _ _ => q_fieldAddr fa_24_1 rfl rfl) ?_
  refine HA.one (k := 5) ⟨trivial, (at_now (hS.box 2 rfl) (Go.Wk.at_nil _ _))⟩ (by kernel_rfl) ?_
  refine HS.call rfl (want_none) rfl (ec en_41 rfl rfl) (slices_Clone_s_api_Addr_api_Addr_walk (fr := (Ow.own 34 17 e_api_Addr vr_1 r_1 :: Ow.box b_2 24 #[.bool false, .slice none 0 0, .slice none 0 0] :: Ow.box b_1 24 #[.bool s_Exclude, vs_On, vs_Off] :: fr)) s_Off vs_Off hS hL_s_Off hM) ?_
  rintro vr_2 h_4 ⟨F_2, r_2, _, rfl, hk, hS, _, hM⟩
  replace hK := hK.trans hk
  replace hL_s_On := hL_s_On.kp hk
  replace hL_s_Off := hL_s_Off.kp hk
  refine HA.one (k := 7) ⟨trivial, (at_now (hS.box 3 rfl) (Go.Wk.at_nil _ _))⟩ (by kernel_rfl) ?_
  refine HS.sto rfl (want_none) rfl (st_store (c' := #[.bool s_Exclude, vr_1, vs_Off]) hS (i := 3) rfl to_22 rfl rfl (shp (hS.own 1 rfl).slice).cells (shp (hS.own 1 rfl).slice).one (Nat.le_of_ble_eq_true rfl) rfl) ?_
  rintro h_5 ⟨hS, hk⟩
  replace hS : St F_2 (Ow.own 34 17 e_api_Addr vr_2 r_2 :: Ow.own 34 17 e_api_Addr vr_1 r_1 :: Ow.box b_2 24 #[.bool false, .slice none 0 0, .slice none 0 0] :: Ow.box b_1 24 #[.bool s_Exclude, vr_1, vs_Off] :: fr) h_5 := hS
  replace hK := hK.trans hk
  replace hL_s_On := hL_s_On.kp hk
  replace hL_s_Off := hL_s_Off.kp hk
  refine Go.Wk.HA.re (fun h => True) [(9, fun h => (Blk h b_1 (.cells #[.bool s_Exclude, vr_1, vs_Off] 24 (0, 0))))] (fun L_ h_ hL_ _ hs_ => ⟨trivial, (at_gone hL_ (by kernel_rfl) (Go.Wk.at_nil _ _))⟩) ?_
  refine HA.val (k := 8) (v := .pointer (some ⟨b_1, 2, none⟩)) rfl rfl (by kernel_rfl) (by kernel_rfl) (want_none) rfl (fun _ _ => q_fieldAddr fa_24_2 rfl rfl) ?_
  refine HA.one (k := 9) ⟨trivial, (at_now (hS.box 3 rfl) (Go.Wk.at_nil _ _))⟩ (by kernel_rfl) ?_
  refine HS.sto rfl (want_none) rfl (st_store (c' := #[.bool s_Exclude, vr_1, vr_2]) hS (i := 3) rfl to_22 rfl rfl (shp (hS.own 0 rfl).slice).cells (shp (hS.own 0 rfl).slice).one (Nat.le_of_ble_eq_true rfl) rfl) ?_
  rintro h_6 ⟨hS, hk⟩
  replace hS : St F_2 (Ow.own 34 17 e_api_Addr vr_2 r_2 :: Ow.own 34 17 e_api_Addr vr_1 r_1 :: Ow.box b_2 24 #[.bool false, .slice none 0 0, .slice none 0 0] :: Ow.box b_1 24 #[.bool s_Exclude, vr_1, vr_2] :: fr) h_6 := hS
  replace hK := hK.trans hk
  replace hL_s_On := hL_s_On.kp hk
  replace hL_s_Off := hL_s_Off.kp hk
  refine HA.nil ⟨trivial, (at_done (by kernel_rfl) (Go.Wk.at_nil _ _))⟩ (by kernel_rfl) (thenQ_normal (?_))
  refine HW.seq ?_
  refine HW.region ?_
  refine HO.val (v := .agg #[.bool s_Exclude, vr_1, vr_2]) (want_none) rfl (q_loadAgg (cs := [.bool s_Exclude, vr_1, vr_2]) ta_24 rfl rfl (Blk.cells (k := 3) (hS.box 3 rfl) rfl)) ?_
  refine HO.sto (want_none) rfl (st_storeAgg (c' := #[.bool s_Exclude, vr_1, vr_2]) hS (i := 2) rfl ta_24 rfl rfl rfl (List.forall_mem_cons.2 ⟨rfl, (List.forall_mem_cons.2 ⟨(shp (hS.own 1 rfl).slice).one, (List.forall_mem_cons.2 ⟨(shp (hS.own 0 rfl).slice).one, (fun _ h => by cases h)⟩)⟩)⟩) (Nat.le_of_ble_eq_true rfl) rfl) ?_
  rintro h_7 ⟨hS, hk⟩
  replace hS : St F_2 (Ow.own 34 17 e_api_Addr vr_2 r_2 :: Ow.own 34 17 e_api_Addr vr_1 r_1 :: Ow.box b_2 24 #[.bool s_Exclude, vr_1, vr_2] :: Ow.box b_1 24 #[.bool s_Exclude, vr_1, vr_2] :: fr) h_7 := hS
  replace hK := hK.trans hk
  replace hL_s_On := hL_s_On.kp hk
  replace hL_s_Off := hL_s_Off.kp hk
  refine HO.nil (thenQ_normal (?_))
  refine HW.ret (?_)
  refine ⟨.inr rfl, .agg #[.bool s_Exclude, vr_1, vr_2], res1 rfl (rca (cs := [.bool s_Exclude, vr_1, vr_2]) ta_24 rfl rfl (Blk.cells (k := 3) (hS.box 2 rfl) rfl)), ?_⟩
  replace hS : St F_2 (Ow.own 34 17 e_api_Addr vr_1 r_1 :: Ow.own 34 17 e_api_Addr vr_2 r_2 :: fr) h_7 := hS.perm2 [1, 0] 4 rfl rfl
  exact ⟨F_2, s_Exclude, r_1, r_2, vr_1, vr_2, rfl, hK, hS, hL_s_On, hL_s_Off, hM⟩

def srcs_walk_1_api_Addr_W (x : T_api_Addr) (is : Bool) (c0_v : List T_api_Addr) (Q : (List T_api_Addr) → Prop) : Prop :=
  (is = true → ((c0_v.length + ([x] : List T_api_Addr).length) * 17 ≤ 140737488355328) ∧ (Q (c0_v ++ ([x] : List T_api_Addr)))) ∧ (is = false → Q c0_v)
set_option maxHeartbeats 40000000 in
set_option maxRecDepth 100000 in
theorem srcs_walk_1_api_Addr_walk {F : Fz} {fr : List Ow} {h0 : Heap} (x : T_api_Addr) (is : Bool) (c0_v : List T_api_Addr) (bc0 : Nat) (vc0_v : Value) (hS : St F (Ow.box bc0 22 #[vc0_v] :: Ow.own 34 17 e_api_Addr vc0_v c0_v :: fr) h0)  {Q : (List T_api_Addr) → Prop} (hM : srcs_walk_1_api_Addr_W x is c0_v Q) :
    HC Try.prog 62 #[.agg (e_api_Addr x).toArray, .bool is, .pointer (some ⟨bc0, 0, none⟩)] h0 fun u h' => ∃ (F' : Fz) (a2_0_2 : List T_api_Addr) (v_1 : Value), u = .tuple #[] ∧ Kp F h0 F' h' ∧ St F' (Ow.box bc0 22 #[v_1] :: Ow.own 34 17 e_api_Addr v_1 a2_0_2 :: fr) h' ∧ Q a2_0_2 := by
  unfold srcs_walk_1_api_Addr_W at hM
  have hK := Kp.refl F h0
  refine HC.of_HW (n := 10) Try.func62 rfl rfl (Nat.le_of_ble_eq_true rfl) ?_
  refine HW.seq ?_
  refine HW.region ?_
  refine HO.eff (want_none) rfl (st_box (c := (e_api_Addr x).toArray) (k' := 17) hS rfl rfl) ?_
  rintro _ h_1 ⟨b_1, rfl, hS, hk⟩
  replace hK := hK.trans hk
  refine HO.nil (thenQ_normal (?_))
  refine HW.seq ?_
  refine HW.region ?_
  refine HO.val (v := .bool is) (want_none) rfl (q_move rfl) ?_
  refine HO.nil (thenQ_normal (?_))
  refine HW.cond is rfl (fun c_1 => ?_) (fun c_1 => ?_)
  · replace hM := hM.1 c_1
    refine HW.region ?_
    refine HO.val (v := vc0_v) (want_none) rfl (q_load to_22 rfl (Blk.cell (hS.box 1 rfl) rfl)) ?_
    refine HO.val (v := .agg (e_api_Addr x).toArray) (want_none) rfl (q_loadAgg (cs := (e_api_Addr x)) ta_34 rfl rfl (Blk.cells (k := 17) (hS.box 0 rfl) rfl)) ?_
    refine HO.eff (want_none) rfl (st_lit (enc := e_api_Addr) (cells := #[.bool x.1, .int .u8 (b8 x.2 0), .int .u8 (b8 x.2 1), .int .u8 (b8 x.2 2), .int .u8 (b8 x.2 3), .int .u8 (b8 x.2 4), .int .u8 (b8 x.2 5), .int .u8 (b8 x.2 6), .int .u8 (b8 x.2 7), .int .u8 (b8 x.2 8), .int .u8 (b8 x.2 9), .int .u8 (b8 x.2 10), .int .u8 (b8 x.2 11), .int .u8 (b8 x.2 12), .int .u8 (b8 x.2 13), .int .u8 (b8 x.2 14), .int .u8 (b8 x.2 15)]) #[.bool false, .int .u8 0, .int .u8 0, .int .u8 0, .int .u8 0, .int .u8 0, .int .u8 0, .int .u8 0, .int .u8 0, .int .u8 0, .int .u8 0, .int .u8 0, .int .u8 0, .int .u8 0, .int .u8 0, .int .u8 0, .int .u8 0] ([x] : List T_api_Addr) hS tl_22 (by decide) (by decide) (by kernel_rfl) (by kernel_rfl) rfl (by intro x hx; rfl) rfl) ?_
    rintro _ h_2 ⟨b_2, rfl, hS, hk⟩
    replace hK := hK.trans hk
    obtain ⟨ho_1, hM⟩ := hM
    refine HO.eff (want_none) rfl (st_append te_22 hS (i := 3) rfl (hS.own 0 rfl).slice rfl rfl rfl (by intro a _ u hu; simp [e_api_Addr, encI, encN, encB, encT] at hu; rcases hu with rfl | rfl | rfl | rfl | rfl | rfl | rfl | rfl | rfl | rfl | rfl | rfl | rfl | rfl | rfl | rfl | rfl <;> rfl) ho_1 (by omega)) ?_
    rintro v_2 h_3 ⟨hS, hk⟩
    replace hS : St F (Ow.own 34 17 e_api_Addr (.slice (some ⟨b_2, 0, none⟩) 1 1) ([x] : List T_api_Addr) :: Ow.box b_1 34 (e_api_Addr x).toArray :: Ow.box bc0 22 #[vc0_v] :: Ow.own 34 17 e_api_Addr v_2 (c0_v ++ ([x] : List T_api_Addr)) :: fr) h_3 := hS
    replace hK := hK.trans hk
    refine HO.sto (want_none) rfl (st_store (c' := #[v_2]) hS (i := 2) rfl to_22 rfl rfl (shp (hS.own 3 rfl).slice).cells (shp (hS.own 3 rfl).slice).one (Nat.le_of_ble_eq_true rfl) rfl) ?_
    rintro h_4 ⟨hS, hk⟩
    replace hS : St F (Ow.own 34 17 e_api_Addr (.slice (some ⟨b_2, 0, none⟩) 1 1) ([x] : List T_api_Addr) :: Ow.box b_1 34 (e_api_Addr x).toArray :: Ow.box bc0 22 #[v_2] :: Ow.own 34 17 e_api_Addr v_2 (c0_v ++ ([x] : List T_api_Addr)) :: fr) h_4 := hS
    replace hK := hK.trans hk
    refine HO.nil (?_)
    refine ⟨.inl rfl, .tuple #[], res0 rfl , ?_⟩
    replace hS : St F (Ow.box bc0 22 #[v_2] :: Ow.own 34 17 e_api_Addr v_2 (c0_v ++ ([x] : List T_api_Addr)) :: fr) h_4 := hS.perm2 [2, 3] 4 rfl rfl
    exact ⟨F, c0_v ++ ([x] : List T_api_Addr), v_2, rfl, hK, hS, hM⟩
  · replace hM := hM.2 c_1
    refine HW.skip (?_)
    refine ⟨.inl rfl, .tuple #[], res0 rfl , ?_⟩
    replace hS : St F (Ow.box bc0 22 #[vc0_v] :: Ow.own 34 17 e_api_Addr vc0_v c0_v :: fr) h_1 := hS.perm2 [1, 2] 3 rfl rfl
    exact ⟨F, c0_v, vc0_v, rfl, hK, hS, hM⟩

def srcs_walk_api_Addr_l3 (second : Bool) (Q : (List T_api_Addr) → Prop) (b_2 : List T_api_Addr) (K_3 : (List T_api_Addr) → Int → Prop) (out_0_3 : List T_api_Addr) (n_2 : Int) : Prop :=
  (n_2 < (b_2.length : Int) → ((0 : Int) ≤ n_2 ∧ n_2 < (b_2.length : Int)) ∧ (srcs_walk_1_api_Addr_W (gi b_2 n_2) second out_0_3 (fun a2_0_5 => (I64 (n_2 + 1)) ∧ (K_3 a2_0_5 (n_2 + 1))))) ∧ (¬ (n_2 < (b_2.length : Int)) → Q out_0_3)
def srcs_walk_api_Addr_l2 (first : Bool) (second : Bool) (Q : (List T_api_Addr) → Prop) (a_1 : List T_api_Addr) (b_2 : List T_api_Addr) (K_2 : (List T_api_Addr) → Int → Prop) (out_0_2 : List T_api_Addr) (n_1 : Int) : Prop :=
  (n_1 < (a_1.length : Int) → ((0 : Int) ≤ n_1 ∧ n_1 < (a_1.length : Int)) ∧ (srcs_walk_1_api_Addr_W (gi a_1 n_1) first out_0_2 (fun a2_0_4 => (I64 (n_1 + 1)) ∧ (K_2 a2_0_4 (n_1 + 1))))) ∧ (¬ (n_1 < (a_1.length : Int)) → loopW (fun (K_3 : (List T_api_Addr × Int) → Prop) (s : List T_api_Addr × Int) => srcs_walk_api_Addr_l3 second Q b_2 (fun out_0_3 n_2 => K_3 (out_0_3, n_2)) s.1 s.2) (out_0_2, 0))
def srcs_walk_api_Addr_j1 (cf_order : T_api_Addr → T_api_Addr → Int) (first : Bool) (both : Bool) (second : Bool) (Q : (List T_api_Addr) → Prop) (a_1 : List T_api_Addr) (b_2 : List T_api_Addr) (out_0_1 : List T_api_Addr) (K_1 : (List T_api_Addr) → (List T_api_Addr) → (List T_api_Addr) → Prop) (b_3 : Bool) : Prop :=
  (b_3 = true → ((0 : Int) ≤ 0 ∧ 0 < (a_1.length : Int)) ∧ (((0 : Int) ≤ 0 ∧ 0 < (b_2.length : Int)) ∧ (((cf_order (gi a_1 0) (gi b_2 0)) < 0 → srcs_walk_1_api_Addr_W (gi a_1 0) first out_0_1 (fun a2_0_1 => ((0 : Int) ≤ 1 ∧ 1 ≤ (a_1.length : Int)) ∧ (K_1 (cut a_1 1 (a_1.length : Int)) b_2 a2_0_1))) ∧ (¬ ((cf_order (gi a_1 0) (gi b_2 0)) < 0) → (0 < (cf_order (gi a_1 0) (gi b_2 0)) → srcs_walk_1_api_Addr_W (gi b_2 0) second out_0_1 (fun a2_0_2 => ((0 : Int) ≤ 1 ∧ 1 ≤ (b_2.length : Int)) ∧ (K_1 a_1 (cut b_2 1 (b_2.length : Int)) a2_0_2))) ∧ (¬ (0 < (cf_order (gi a_1 0) (gi b_2 0))) → srcs_walk_1_api_Addr_W (gi a_1 0) both out_0_1 (fun a2_0_3 => ((0 : Int) ≤ 1 ∧ 1 ≤ (a_1.length : Int)) ∧ (((0 : Int) ≤ 1 ∧ 1 ≤ (b_2.length : Int)) ∧ (K_1 (cut a_1 1 (a_1.length : Int)) (cut b_2 1 (b_2.length : Int)) a2_0_3)))))))) ∧ (b_3 = false → loopW (fun (K_2 : (List T_api_Addr × Int) → Prop) (s : List T_api_Addr × Int) => srcs_walk_api_Addr_l2 first second Q a_1 b_2 (fun out_0_2 n_1 => K_2 (out_0_2, n_1)) s.1 s.2) (out_0_1, 0))
def srcs_walk_api_Addr_l1 (cf_order : T_api_Addr → T_api_Addr → Int) (first : Bool) (both : Bool) (second : Bool) (Q : (List T_api_Addr) → Prop) (K_1 : (List T_api_Addr) → (List T_api_Addr) → (List T_api_Addr) → Prop) (a_1 : List T_api_Addr) (b_2 : List T_api_Addr) (out_0_1 : List T_api_Addr) : Prop :=
  (0 < (a_1.length : Int) → srcs_walk_api_Addr_j1 cf_order first both second Q a_1 b_2 out_0_1 K_1 (decide (0 < (b_2.length : Int)))) ∧ (¬ (0 < (a_1.length : Int)) → srcs_walk_api_Addr_j1 cf_order first both second Q a_1 b_2 out_0_1 K_1 false)
def srcs_walk_api_Addr_W (a : List T_api_Addr) (b : List T_api_Addr) (cf_order : T_api_Addr → T_api_Addr → Int) (first : Bool) (both : Bool) (second : Bool) (Q : (List T_api_Addr) → Prop) : Prop :=
  loopW (fun (K_1 : (List T_api_Addr × List T_api_Addr × List T_api_Addr) → Prop) (s : List T_api_Addr × List T_api_Addr × List T_api_Addr) => srcs_walk_api_Addr_l1 cf_order first both second Q (fun a_1 b_2 out_0_1 => K_1 (a_1, b_2, out_0_1)) s.1 s.2.1 s.2.2) (a, b, [])
set_option maxHeartbeats 40000000 in
set_option maxRecDepth 100000 in
theorem srcs_walk_api_Addr_walk {F : Fz} {fr : List Ow} {h0 : Heap} (a : List T_api_Addr) (b : List T_api_Addr) (cf_order : T_api_Addr → T_api_Addr → Int) (first : Bool) (both : Bool) (second : Bool) (va : Value) (vb : Value) (g_order : Nat) (fs_order : Array Value) (cs_order : Array Value) (hS : St F (fr) h0) (hL_a : SliceF F h0 17 e_api_Addr va a) (hL_b : SliceF F h0 17 e_api_Addr vb b) (hF_cf_order : FnP Try.prog F h0 g_order fs_order cs_order (fun x : T_api_Addr × T_api_Addr => [.agg (e_api_Addr x.1).toArray, .agg (e_api_Addr x.2).toArray]) (fun x => .int .i64 (cf_order x.1 x.2))) {Q : (List T_api_Addr) → Prop} (hM : srcs_walk_api_Addr_W a b cf_order first both second Q) :
    HC Try.prog 53 #[va, vb, .func (.func g_order) fs_order cs_order, .bool first, .bool both, .bool second] h0 fun u h' => ∃ (F' : Fz) (r_1 : List T_api_Addr) (vr_1 : Value), u = vr_1 ∧ Kp F h0 F' h' ∧ St F' (Ow.own 34 17 e_api_Addr vr_1 r_1 :: fr) h' ∧ (SliceF F' h' 17 e_api_Addr va a) ∧ (SliceF F' h' 17 e_api_Addr vb b) ∧ (FnP Try.prog F' h' g_order fs_order cs_order (fun x : T_api_Addr × T_api_Addr => [.agg (e_api_Addr x.1).toArray, .agg (e_api_Addr x.2).toArray]) (fun x => .int .i64 (cf_order x.1 x.2))) ∧ Q r_1 := by
  unfold srcs_walk_api_Addr_W at hM
  have hK := Kp.refl F h0
  refine HC.of_HW (n := 92) Try.func53 rfl rfl (Nat.le_of_ble_eq_true rfl) ?_
  refine HW.seq ?_
  refine HW.region ?_
  refine HO.val (v := .slice none 0 0) (want_none) rfl (q_assign rfl) ?_
  refine HO.nil (thenQ_normal (?_))
  refine HW.seq ?_
  refine HW.region ?_
  refine HO.eff (want_none) rfl (st_alloc (c := #[.slice none 0 0]) hS tz_22 rfl) ?_
  rintro _ h_1 ⟨b_1, rfl, hS, hk⟩
  replace hK := hK.trans hk
  replace hL_a := hL_a.kp hk
  replace hL_b := hL_b.kp hk
  replace hF_cf_order := hF_cf_order.kp hk
  refine HO.nil (thenQ_normal (?_))
  refine HW.seq ?_
  refine HW.region ?_
  refine HO.val (v := .func (.func 62) #[] #[.pointer (some ⟨b_1, 0, none⟩)]) (want_none) rfl (q_makeFunc rfl rfl) ?_
  refine HO.val (v := .func (.func 62) #[] #[.pointer (some ⟨b_1, 0, none⟩)]) (want_none) rfl (q_assign rfl) ?_
  refine HO.nil (thenQ_normal (?_))
  refine HW.seq ?_
  refine HW.block ?_
  obtain ⟨I_1, m_1, hI_1, hR_1⟩ := hM
  replace hS := hS.nilOwn 34 17 e_api_Addr
  replace hS : St F (Ow.box b_1 22 #[.slice none 0 0] :: Ow.own 34 17 e_api_Addr (.slice none 0 0) ([] : List T_api_Addr) :: fr) h_1 := hS.perm2 [1, 0] 2 rfl rfl
  refine HW.loop (S := List T_api_Addr × List T_api_Addr × List T_api_Addr) (fun s f h => match s with | (a_1, b_2, out_0_1) => ∃ (F' : Fz) (va_1 : Value) (vb_1 : Value) (vout_0_1 : Value), f 0 = va_1 ∧ f 1 = vb_1 ∧ f 2 = .func (.func g_order) fs_order cs_order ∧ f 3 = .bool first ∧ f 4 = .bool both ∧ f 5 = .bool second ∧ f 12 = .slice none 0 0 ∧ f 13 = .pointer (some ⟨b_1, 0, none⟩) ∧ f 14 = .func (.func 62) #[] #[.pointer (some ⟨b_1, 0, none⟩)] ∧ Kp F h0 F' h ∧ St F' (Ow.box b_1 22 #[vout_0_1] :: Ow.own 34 17 e_api_Addr vout_0_1 out_0_1 :: fr) h ∧ (SliceF F' h 17 e_api_Addr va a) ∧ (SliceF F' h 17 e_api_Addr vb b) ∧ (FnP Try.prog F' h g_order fs_order cs_order (fun x : T_api_Addr × T_api_Addr => [.agg (e_api_Addr x.1).toArray, .agg (e_api_Addr x.2).toArray]) (fun x => .int .i64 (cf_order x.1 x.2))) ∧ (SliceF F' h 17 e_api_Addr va_1 a_1) ∧ (SliceF F' h 17 e_api_Addr vb_1 b_2) ∧ I_1 (a_1, b_2, out_0_1)) m_1 (a, b, []) ⟨F, va, vb, .slice none 0 0, rfl, rfl, rfl, rfl, rfl, rfl, rfl, rfl, rfl, hK, hS, hL_a, hL_b, hF_cf_order, hL_a, hL_b, hI_1⟩ ?_
  rintro ⟨a_1, b_2, out_0_1⟩ f_1 h_2 ⟨F_1, va_1, vb_1, vout_0_1, e0, e1, e2, e3, e4, e5, e12, e13, e14, hK, hS, hL_a, hL_b, hF_cf_order, hL_1, hL_2, hI0⟩
  obtain ⟨K_1, hKe_1⟩ : ∃ K : (List T_api_Addr) → (List T_api_Addr) → (List T_api_Addr) → Prop, K = fun a_1' b_2' out_0_1' => I_1 (a_1', b_2', out_0_1') ∧ m_1 (a_1', b_2', out_0_1') < m_1 (a_1, b_2, out_0_1) := ⟨_, rfl⟩
  have hM : srcs_walk_api_Addr_l1 cf_order first both second Q K_1 a_1 b_2 out_0_1 := by rw [hKe_1]; exact hR_1 (a_1, b_2, out_0_1) hI0
  unfold srcs_walk_api_Addr_l1 at hM
  refine HW.fr [(0, va_1), (1, vb_1), (2, .func (.func g_order) fs_order cs_order), (3, .bool first), (4, .bool both), (5, .bool second), (12, .slice none 0 0), (13, .pointer (some ⟨b_1, 0, none⟩)), (14, .func (.func 62) #[] #[.pointer (some ⟨b_1, 0, none⟩)])] ⟨e0, e1, e2, e3, e4, e5, e12, e13, e14, trivial⟩ ?_
  refine HW.seq ?_
  refine HW.seq_mid (fun f h => ∃ (F' : Fz) (b_3 : Bool), f 0 = va_1 ∧ f 1 = vb_1 ∧ f 2 = .func (.func g_order) fs_order cs_order ∧ f 3 = .bool first ∧ f 4 = .bool both ∧ f 5 = .bool second ∧ f 12 = .slice none 0 0 ∧ f 13 = .pointer (some ⟨b_1, 0, none⟩) ∧ f 14 = .func (.func 62) #[] #[.pointer (some ⟨b_1, 0, none⟩)] ∧ f 28 = .bool b_3 ∧ Kp F h0 F' h ∧ St F' (Ow.box b_1 22 #[vout_0_1] :: Ow.own 34 17 e_api_Addr vout_0_1 out_0_1 :: fr) h ∧ (SliceF F' h 17 e_api_Addr va a) ∧ (SliceF F' h 17 e_api_Addr vb b) ∧ (FnP Try.prog F' h g_order fs_order cs_order (fun x : T_api_Addr × T_api_Addr => [.agg (e_api_Addr x.1).toArray, .agg (e_api_Addr x.2).toArray]) (fun x => .int .i64 (cf_order x.1 x.2))) ∧ (SliceF F' h 17 e_api_Addr va_1 a_1) ∧ (SliceF F' h 17 e_api_Addr vb_1 b_2) ∧ srcs_walk_api_Addr_j1 cf_order first both second Q a_1 b_2 out_0_1 K_1 b_3) ?_ ?_
  · refine HW.region ?_
    refine HO.val (v := va_1) (want_none) rfl (q_move rfl) ?_
    refine HO.val (v := .int .i64 (a_1.length : Int)) (want_none) rfl (q_len ts_22 (shp hL_1.is) rfl rfl) ?_
    refine HO.val (v := .bool (decide (0 < (a_1.length : Int)))) (want_none) rfl (q_gtr rfl rfl) ?_
    refine HO.val (v := .bool (decide (0 < (a_1.length : Int)))) (want_none) rfl (q_move rfl) ?_
    rcases Bool.eq_false_or_eq_true (decide (0 < (a_1.length : Int))) with c_1 | c_1
    · replace hM := hM.1 (of_decide_eq_true c_1)
      refine HO.val (v := vb_1) (want_by rfl rfl c_1) rfl (q_move rfl) ?_
      refine HO.val (v := .int .i64 (b_2.length : Int)) (want_by rfl rfl c_1) rfl (q_len ts_22 (shp hL_2.is) rfl rfl) ?_
      refine HO.val (v := .bool (decide (0 < (b_2.length : Int)))) (want_by rfl rfl c_1) rfl (q_gtr rfl rfl) ?_
      refine HO.val (v := .bool (decide (0 < (b_2.length : Int)))) (want_none) rfl (q_pickK true rfl c_1 rfl) ?_
      refine HO.nil (thenQ_normal (?_))
      exact ⟨F_1, decide (0 < (b_2.length : Int)), rfl, rfl, rfl, rfl, rfl, rfl, rfl, rfl, rfl, rfl, hK, hS, hL_a, hL_b, hF_cf_order, hL_1, hL_2, hM⟩
    · replace hM := hM.2 (of_decide_eq_false c_1)
      refine HO.past (past_by rfl rfl c_1) rfl ?_
      refine HO.past (past_by rfl rfl c_1) rfl ?_
      refine HO.past (past_by rfl rfl c_1) rfl ?_
      refine HO.val (v := .bool false) (want_none) rfl (q_pickK false rfl c_1 rfl) ?_
      refine HO.nil (thenQ_normal (?_))
      exact ⟨F_1, false, rfl, rfl, rfl, rfl, rfl, rfl, rfl, rfl, rfl, rfl, hK, hS, hL_a, hL_b, hF_cf_order, hL_1, hL_2, hM⟩
  · rintro f_2 h_3 ⟨F_2, b_3, e0, e1, e2, e3, e4, e5, e12, e13, e14, e28, hK, hS, hL_a, hL_b, hF_cf_order, hL_1, hL_2, hM⟩
    unfold srcs_walk_api_Addr_j1 at hM
    refine HW.fr [(0, va_1), (1, vb_1), (2, .func (.func g_order) fs_order cs_order), (3, .bool first), (4, .bool both), (5, .bool second), (12, .slice none 0 0), (13, .pointer (some ⟨b_1, 0, none⟩)), (14, .func (.func 62) #[] #[.pointer (some ⟨b_1, 0, none⟩)]), (28, .bool b_3)] ⟨e0, e1, e2, e3, e4, e5, e12, e13, e14, e28, trivial⟩ ?_
    refine HW.cond b_3 rfl (fun c_2 => ?_) (fun c_2 => ?_)
    · replace hM := hM.1 c_2
      refine HW.skip (thenQ_normal (?_))
      refine HW.block ?_
      refine HW.seq ?_
      refine HW.regionA 9 mixed (fun h => (SliceIs h 17 e_api_Addr va_1 a_1) ∧ (SliceIs h 17 e_api_Addr vb_1 b_2)) [] (by kernel_rfl) ?_
      refine HA.val (k := 0) (v := .func (.func g_order) fs_order cs_order) rfl rfl (by kernel_rfl) (by kernel_rfl) (want_none) rfl (fun _ ⟨hL_1, hL_2⟩ => q_move rfl) ?_
      refine HA.val (k := 1) (v := va_1) rfl rfl (by kernel_rfl) (by kernel_rfl) (want_none) rfl (fun _ ⟨hL_1, hL_2⟩ => q_move rfl) ?_
      obtain ⟨ho_1, hM⟩ := hM
      refine HA.val (k := 2) (v := elemPtr 17 va_1 (0 : Int).toNat) rfl rfl (by kernel_rfl) (by kernel_rfl) (want_none) rfl (fun _ ⟨hL_1, hL_2⟩ => q_idx ts_22 hL_1 rfl rfl ho_1) ?_
      refine HA.val (k := 3) (v := .agg (e_api_Addr (gi a_1 0)).toArray) rfl rfl (by kernel_rfl) (by kernel_rfl) (want_none) rfl (fun _ ⟨hL_1, hL_2⟩ => q_ldElemAgg (cs := (e_api_Addr (gi a_1 0))) ta_34 hL_1 rfl ho_1 rfl) ?_
      refine HA.val (k := 4) (v := vb_1) rfl rfl (by kernel_rfl) (by kernel_rfl) (want_none) rfl (fun _ ⟨hL_1, hL_2⟩ => q_move rfl) ?_
      obtain ⟨ho_2, hM⟩ := hM
      refine HA.val (k := 5) (v := elemPtr 17 vb_1 (0 : Int).toNat) rfl rfl (by kernel_rfl) (by kernel_rfl) (want_none) rfl (fun _ ⟨hL_1, hL_2⟩ => q_idx ts_22 hL_2 rfl rfl ho_2) ?_
      refine HA.val (k := 6) (v := .agg (e_api_Addr (gi b_2 0)).toArray) rfl rfl (by kernel_rfl) (by kernel_rfl) (want_none) rfl (fun _ ⟨hL_1, hL_2⟩ => q_ldElemAgg (cs := (e_api_Addr (gi b_2 0))) ta_34 hL_2 rfl ho_2 rfl) ?_
      refine HA.one (k := 7) ⟨⟨hL_1.is, hL_2.is⟩, (Go.Wk.at_nil _ _)⟩ (by kernel_rfl) ?_
      refine HS.call rfl (want_none) rfl (hF_cf_order.ec ((gi a_1 0), (gi b_2 0)) rfl rfl) (hF_cf_order.hc ((gi a_1 0), (gi b_2 0)) hS) ?_
      rintro _ h_4 ⟨rfl, hS, hk⟩
      replace hK := hK.trans hk
      replace hL_a := hL_a.kp hk
      replace hL_b := hL_b.kp hk
      replace hF_cf_order := hF_cf_order.kp hk
      replace hL_1 := hL_1.kp hk
      replace hL_2 := hL_2.kp hk
      refine HA.val (k := 8) (v := .int .i64 (cf_order (gi a_1 0) (gi b_2 0))) rfl rfl (by kernel_rfl) (by kernel_rfl) (want_none) rfl (fun _ ⟨hL_1, hL_2⟩ => q_assign rfl) ?_
      refine HA.nil ⟨⟨hL_1.is, hL_2.is⟩, (Go.Wk.at_nil _ _)⟩ (by kernel_rfl) (thenQ_normal (?_))
      refine HW.block ?_
      refine HW.seq ?_
      refine HW.region ?_
      refine HO.val (v := .int .i64 (cf_order (gi a_1 0) (gi b_2 0))) (want_none) rfl (q_move rfl) ?_
      refine HO.val (v := .bool (decide ((cf_order (gi a_1 0) (gi b_2 0)) < 0))) (want_none) rfl (q_lss rfl rfl) ?_
      refine HO.val (v := .bool (decide ((cf_order (gi a_1 0) (gi b_2 0)) < 0))) (want_none) rfl (q_assign rfl) ?_
      refine HO.nil (thenQ_normal (?_))
      refine HW.cond (decide ((cf_order (gi a_1 0) (gi b_2 0)) < 0)) rfl (fun c_3 => ?_) (fun c_3 => ?_)
      · replace hM := hM.1 (of_decide_eq_true c_3)
        refine HW.seq ?_
        refine HW.region ?_
        refine HO.val (v := .func (.func 62) #[] #[.pointer (some ⟨b_1, 0, none⟩)]) (want_none) rfl (q_move rfl) ?_
        refine HO.val (v := va_1) (want_none) rfl (q_move rfl) ?_
        refine HO.val (v := elemPtr 17 va_1 (0 : Int).toNat) (want_none) rfl (q_idx ts_22 hL_1.is rfl rfl ho_1) ?_
        refine HO.val (v := .agg (e_api_Addr (gi a_1 0)).toArray) (want_none) rfl (q_ldElemAgg (cs := (e_api_Addr (gi a_1 0))) ta_34 hL_1.is rfl ho_1 rfl) ?_
        refine HO.val (v := .bool first) (want_none) rfl (q_move rfl) ?_
        refine HO.call (want_none) rfl (ec en_62 rfl rfl) (srcs_walk_1_api_Addr_walk (fr := (fr)) (gi a_1 0) first out_0_1 b_1 vout_0_1 hS hM) ?_
        rintro _ h_5 ⟨F_3, a2_0_1, v_1, rfl, hk, hS, hM⟩
        replace hK := hK.trans hk
        replace hL_a := hL_a.kp hk
        replace hL_b := hL_b.kp hk
        replace hF_cf_order := hF_cf_order.kp hk
        replace hL_1 := hL_1.kp hk
        replace hL_2 := hL_2.kp hk
        refine HO.nil (thenQ_normal (?_))
        refine HW.region ?_
        refine HO.val (v := va_1) (want_none) rfl (q_move rfl) ?_
        obtain ⟨ho_3, hM⟩ := hM
        refine HO.val (v := cutV 17 va_1 (1 : Int).toNat ((a_1.length : Int)).toNat) (want_none) rfl (q_slL ts_22 hL_1.is rfl rfl ho_3) ?_
        refine HO.val (v := cutV 17 va_1 (1 : Int).toNat ((a_1.length : Int)).toNat) (want_none) rfl (q_assign rfl) ?_
        refine HO.nil (blockQ_normal (blockQ_normal (thenQ_normal (?_))))
        rw [hKe_1] at hM
        exact ⟨(cut a_1 1 (a_1.length : Int), b_2, a2_0_1), ⟨F_3, cutV 17 va_1 (1 : Int).toNat ((a_1.length : Int)).toNat, vb_1, v_1, rfl, rfl, rfl, rfl, rfl, rfl, rfl, rfl, rfl, hK, hS, hL_a, hL_b, hF_cf_order, (cutF hL_1 1 (a_1.length : Int) ho_3.1 ho_3.2 (Int.le_refl _)), hL_2, hM.1⟩, hM.2⟩
      · replace hM := hM.2 (of_decide_eq_false c_3)
        refine HW.seq ?_
        refine HW.region ?_
        refine HO.val (v := .int .i64 (cf_order (gi a_1 0) (gi b_2 0))) (want_none) rfl (q_move rfl) ?_
        refine HO.val (v := .bool (decide (0 < (cf_order (gi a_1 0) (gi b_2 0))))) (want_none) rfl (q_gtr rfl rfl) ?_
        refine HO.val (v := .bool (decide (0 < (cf_order (gi a_1 0) (gi b_2 0))))) (want_none) rfl (q_assign rfl) ?_
        refine HO.nil (thenQ_normal (?_))
        refine HW.cond (decide (0 < (cf_order (gi a_1 0) (gi b_2 0)))) rfl (fun c_4 => ?_) (fun c_4 => ?_)
        · replace hM := hM.1 (of_decide_eq_true c_4)
          refine HW.seq ?_
          refine HW.region ?_
          refine HO.val (v := .func (.func 62) #[] #[.pointer (some ⟨b_1, 0, none⟩)]) (want_none) rfl (q_move rfl) ?_
          refine HO.val (v := vb_1) (want_none) rfl (q_move rfl) ?_
          refine HO.val (v := elemPtr 17 vb_1 (0 : Int).toNat) (want_none) rfl (q_idx ts_22 hL_2.is rfl rfl ho_2) ?_
          refine HO.val (v := .agg (e_api_Addr (gi b_2 0)).toArray) (want_none) rfl (q_ldElemAgg (cs := (e_api_Addr (gi b_2 0))) ta_34 hL_2.is rfl ho_2 rfl) ?_
          refine HO.val (v := .bool second) (want_none) rfl (q_move rfl) ?_
          refine HO.call (want_none) rfl (ec en_62 rfl rfl) (srcs_walk_1_api_Addr_walk (fr := (fr)) (gi b_2 0) second out_0_1 b_1 vout_0_1 hS hM) ?_
          rintro _ h_6 ⟨F_4, a2_0_2, v_2, rfl, hk, hS, hM⟩
          replace hK := hK.trans hk
          replace hL_a := hL_a.kp hk
          replace hL_b := hL_b.kp hk
          replace hF_cf_order := hF_cf_order.kp hk
          replace hL_1 := hL_1.kp hk
          replace hL_2 := hL_2.kp hk
          refine HO.nil (thenQ_normal (?_))
          refine HW.region ?_
          refine HO.val (v := vb_1) (want_none) rfl (q_move rfl) ?_
          obtain ⟨ho_4, hM⟩ := hM
          refine HO.val (v := cutV 17 vb_1 (1 : Int).toNat ((b_2.length : Int)).toNat) (want_none) rfl (q_slL ts_22 hL_2.is rfl rfl ho_4) ?_
          refine HO.val (v := cutV 17 vb_1 (1 : Int).toNat ((b_2.length : Int)).toNat) (want_none) rfl (q_assign rfl) ?_
          refine HO.nil (blockQ_normal (blockQ_normal (thenQ_normal (?_))))
          rw [hKe_1] at hM
          exact ⟨(a_1, cut b_2 1 (b_2.length : Int), a2_0_2), ⟨F_4, va_1, cutV 17 vb_1 (1 : Int).toNat ((b_2.length : Int)).toNat, v_2, rfl, rfl, rfl, rfl, rfl, rfl, rfl, rfl, rfl, hK, hS, hL_a, hL_b, hF_cf_order, hL_1, (cutF hL_2 1 (b_2.length : Int) ho_4.1 ho_4.2 (Int.le_refl _)), hM.1⟩, hM.2⟩
        · replace hM := hM.2 (of_decide_eq_false c_4)
          refine HW.seq ?_
          refine HW.region ?_
          refine HO.val (v := .func (.func 62) #[] #[.pointer (some ⟨b_1, 0, none⟩)]) (want_none) rfl (q_move rfl) ?_
          refine HO.val (v := va_1) (want_none) rfl (q_move rfl) ?_
          refine HO.val (v := elemPtr 17 va_1 (0 : Int).toNat) (want_none) rfl (q_idx ts_22 hL_1.is rfl rfl ho_1) ?_
          refine HO.val (v := .agg (e_api_Addr (gi a_1 0)).toArray) (want_none) rfl (q_ldElemAgg (cs := (e_api_Addr (gi a_1 0))) ta_34 hL_1.is rfl ho_1 rfl) ?_
          refine HO.val (v := .bool both) (want_none) rfl (q_move rfl) ?_
          refine HO.call (want_none) rfl (ec en_62 rfl rfl) (srcs_walk_1_api_Addr_walk (fr := (fr)) (gi a_1 0) both out_0_1 b_1 vout_0_1 hS hM) ?_
          rintro _ h_7 ⟨F_5, a2_0_3, v_3, rfl, hk, hS, hM⟩
          replace hK := hK.trans hk
          replace hL_a := hL_a.kp hk
          replace hL_b := hL_b.kp hk
          replace hF_cf_order := hF_cf_order.kp hk
          replace hL_1 := hL_1.kp hk
          replace hL_2 := hL_2.kp hk
          refine HO.nil (thenQ_normal (?_))
          refine HW.regionA 6 mixed (fun h => (SliceIs h 17 e_api_Addr va a) ∧ (SliceIs h 17 e_api_Addr vb b) ∧ (True) ∧ (SliceIs h 17 e_api_Addr va_1 a_1) ∧ (SliceIs h 17 e_api_Addr vb_1 b_2) ∧ (Blk h b_1 (.cells #[v_3] 22 (0, 0))) ∧ (OwnIs h 0 34 17 e_api_Addr v_3 a2_0_3)) [] (by kernel_rfl) ?_
          refine HA.val (k := 0) (v := va_1) rfl rfl (by kernel_rfl) (by kernel_rfl) (want_none) rfl (fun _ ⟨hL_a, hL_b, hF_cf_order, hL_1, hL_2, c356, c357⟩ => q_move rfl) ?_
          obtain ⟨ho_5, hM⟩ := hM
          refine HA.val (k := 1) (v := cutV 17 va_1 (1 : Int).toNat ((a_1.length : Int)).toNat) rfl rfl (by kernel_rfl) (by kernel_rfl) (want_none) rfl (fun _ ⟨hL_a, hL_b, hF_cf_order, hL_1, hL_2, c356, c357⟩ => q_slL ts_22 hL_1 rfl rfl ho_5) ?_
          refine HA.val (k := 2) (v := vb_1) rfl rfl (by kernel_rfl) (by kernel_rfl) (want_none) rfl (fun _ ⟨hL_a, hL_b, hF_cf_order, hL_1, hL_2, c356, c357⟩ => q_move rfl) ?_
          obtain ⟨ho_6, hM⟩ := hM
          refine HA.val (k := 3) (v := cutV 17 vb_1 (1 : Int).toNat ((b_2.length : Int)).toNat) rfl rfl (by kernel_rfl) (by kernel_rfl) (want_none) rfl (fun _ ⟨hL_a, hL_b, hF_cf_order, hL_1, hL_2, c356, c357⟩ => q_slL ts_22 hL_2 rfl rfl ho_6) ?_
          refine HA.val (k := 4) (v := cutV 17 va_1 (1 : Int).toNat ((a_1.length : Int)).toNat) rfl rfl (by kernel_rfl) (by kernel_rfl) (want_none) rfl (fun _ ⟨hL_a, hL_b, hF_cf_order, hL_1, hL_2, c356, c357⟩ => q_assign rfl) ?_
          refine HA.val (k := 5) (v := cutV 17 vb_1 (1 : Int).toNat ((b_2.length : Int)).toNat) rfl rfl (by kernel_rfl) (by kernel_rfl) (want_none) rfl (fun _ ⟨hL_a, hL_b, hF_cf_order, hL_1, hL_2, c356, c357⟩ => q_assign rfl) ?_
          refine HA.nil ⟨⟨hL_a.is, hL_b.is, trivial, hL_1.is, hL_2.is, (hS.box 0 rfl), (hS.own 1 rfl)⟩, (Go.Wk.at_nil _ _)⟩ (by kernel_rfl) (blockQ_normal (blockQ_normal (thenQ_normal (?_))))
          rw [hKe_1] at hM
          exact ⟨(cut a_1 1 (a_1.length : Int), cut b_2 1 (b_2.length : Int), a2_0_3), ⟨F_5, cutV 17 va_1 (1 : Int).toNat ((a_1.length : Int)).toNat, cutV 17 vb_1 (1 : Int).toNat ((b_2.length : Int)).toNat, v_3, rfl, rfl, rfl, rfl, rfl, rfl, rfl, rfl, rfl, hK, hS, hL_a, hL_b, hF_cf_order, (cutF hL_1 1 (a_1.length : Int) ho_5.1 ho_5.2 (Int.le_refl _)), (cutF hL_2 1 (b_2.length : Int) ho_6.1 ho_6.2 (Int.le_refl _)), hM.1⟩, hM.2⟩
    · replace hM := hM.2 c_2
      refine HW.exit (thenQ_exit (thenQ_exit (blockQ_exit (thenQ_normal (?_)))))
      refine HW.seq ?_
      refine HW.seq ?_
      refine HW.region ?_
      refine HO.val (v := va_1) (want_none) rfl (q_move rfl) ?_
      refine HO.val (v := .int .i64 (a_1.length : Int)) (want_none) rfl (q_len ts_22 (shp hL_1.is) rfl rfl) ?_
      refine HO.val (v := .int .i64 0) (want_none) rfl (q_move rfl) ?_
      refine HO.nil (thenQ_normal (?_))
      refine HW.block ?_
      obtain ⟨I_2, m_2, hI_2, hR_2⟩ := hM
      refine HW.loop (S := List T_api_Addr × Int) (fun s f h => match s with | (out_0_2, n_1) => ∃ (F' : Fz) (vout_0_2 : Value), f 1 = vb_1 ∧ f 3 = .bool first ∧ f 5 = .bool second ∧ f 12 = .slice none 0 0 ∧ f 13 = .pointer (some ⟨b_1, 0, none⟩) ∧ f 14 = .func (.func 62) #[] #[.pointer (some ⟨b_1, 0, none⟩)] ∧ f 69 = va_1 ∧ f 70 = .int .i64 (a_1.length : Int) ∧ f 71 = .int .i64 n_1 ∧ Kp F h0 F' h ∧ St F' (Ow.box b_1 22 #[vout_0_2] :: Ow.own 34 17 e_api_Addr vout_0_2 out_0_2 :: fr) h ∧ (SliceF F' h 17 e_api_Addr va a) ∧ (SliceF F' h 17 e_api_Addr vb b) ∧ (FnP Try.prog F' h g_order fs_order cs_order (fun x : T_api_Addr × T_api_Addr => [.agg (e_api_Addr x.1).toArray, .agg (e_api_Addr x.2).toArray]) (fun x => .int .i64 (cf_order x.1 x.2))) ∧ (SliceF F' h 17 e_api_Addr va_1 a_1) ∧ (SliceF F' h 17 e_api_Addr vb_1 b_2) ∧ I_2 (out_0_2, n_1)) m_2 (out_0_1, 0) ⟨F_2, vout_0_1, rfl, rfl, rfl, rfl, rfl, rfl, rfl, rfl, rfl, hK, hS, hL_a, hL_b, hF_cf_order, hL_1, hL_2, hI_2⟩ ?_
      rintro ⟨out_0_2, n_1⟩ f_3 h_8 ⟨F_6, vout_0_2, e1, e3, e5, e12, e13, e14, e69, e70, e71, hK, hS, hL_a, hL_b, hF_cf_order, hL_1, hL_2, hI0⟩
      obtain ⟨K_2, hKe_2⟩ : ∃ K : (List T_api_Addr) → Int → Prop, K = fun out_0_2' n_1' => I_2 (out_0_2', n_1') ∧ m_2 (out_0_2', n_1') < m_2 (out_0_2, n_1) := ⟨_, rfl⟩
      have hM : srcs_walk_api_Addr_l2 first second Q a_1 b_2 K_2 out_0_2 n_1 := by rw [hKe_2]; exact hR_2 (out_0_2, n_1) hI0
      unfold srcs_walk_api_Addr_l2 at hM
      refine HW.fr [(1, vb_1), (3, .bool first), (5, .bool second), (12, .slice none 0 0), (13, .pointer (some ⟨b_1, 0, none⟩)), (14, .func (.func 62) #[] #[.pointer (some ⟨b_1, 0, none⟩)]), (69, va_1), (70, .int .i64 (a_1.length : Int)), (71, .int .i64 n_1)] ⟨e1, e3, e5, e12, e13, e14, e69, e70, e71, trivial⟩ ?_
      refine HW.seq ?_
      refine HW.region ?_
      refine HO.val (v := .bool (decide (n_1 < (a_1.length : Int)))) (want_none) rfl (q_lss rfl rfl) ?_
      refine HO.nil (thenQ_normal (?_))
      refine HW.seq ?_
      refine HW.cond (decide (n_1 < (a_1.length : Int))) rfl (fun c_5 => ?_) (fun c_5 => ?_)
      · replace hM := hM.1 (of_decide_eq_true c_5)
        refine HW.skip (thenQ_normal (?_))
        refine HW.seq ?_
        refine HW.block ?_
        refine HW.seq ?_
        refine HW.region ?_
        obtain ⟨ho_7, hM⟩ := hM
        refine HO.val (v := elemPtr 17 va_1 (n_1).toNat) (want_none) rfl (q_idx ts_22 hL_1.is rfl rfl ho_7) ?_
        refine HO.val (v := .agg (e_api_Addr (gi a_1 n_1)).toArray) (want_none) rfl (q_ldElemAgg (cs := (e_api_Addr (gi a_1 n_1))) ta_34 hL_1.is rfl ho_7 rfl) ?_
        refine HO.eff (want_none) rfl (st_alloc (c := (e_api_Addr (false, (default : Ba 16))).toArray) hS tz_34 rfl) ?_
        rintro _ h_9 ⟨b_4, rfl, hS, hk⟩
        replace hK := hK.trans hk
        replace hL_a := hL_a.kp hk
        replace hL_b := hL_b.kp hk
        replace hF_cf_order := hF_cf_order.kp hk
        replace hL_1 := hL_1.kp hk
        replace hL_2 := hL_2.kp hk
        refine HO.sto (want_none) rfl (st_storeAgg (c' := (e_api_Addr (gi a_1 n_1)).toArray) hS (i := 0) rfl ta_34 rfl rfl rfl (one_e_api_Addr _) (Nat.le_of_ble_eq_true rfl) rfl) ?_
        rintro h_10 ⟨hS, hk⟩
        replace hS : St F_6 (Ow.box b_4 34 (e_api_Addr (gi a_1 n_1)).toArray :: Ow.box b_1 22 #[vout_0_2] :: Ow.own 34 17 e_api_Addr vout_0_2 out_0_2 :: fr) h_10 := hS
        replace hK := hK.trans hk
        replace hL_a := hL_a.kp hk
        replace hL_b := hL_b.kp hk
        replace hF_cf_order := hF_cf_order.kp hk
        replace hL_1 := hL_1.kp hk
        replace hL_2 := hL_2.kp hk
        refine HO.nil (thenQ_normal (?_))
        refine HW.region ?_
        refine HO.val (v := .func (.func 62) #[] #[.pointer (some ⟨b_1, 0, none⟩)]) (want_none) rfl (q_move rfl) ?_
        refine HO.val (v := .agg (e_api_Addr (gi a_1 n_1)).toArray) (want_none) rfl (q_loadAgg (cs := (e_api_Addr (gi a_1 n_1))) ta_34 rfl rfl (Blk.cells (k := 17) (hS.box 0 rfl) rfl)) ?_
        refine HO.val (v := .bool first) (want_none) rfl (q_move rfl) ?_
        replace hS : St F_6 (Ow.box b_1 22 #[vout_0_2] :: Ow.own 34 17 e_api_Addr vout_0_2 out_0_2 :: Ow.box b_4 34 (e_api_Addr (gi a_1 n_1)).toArray :: fr) h_10 := hS.perm2 [1, 2, 0] 3 rfl rfl
        refine HO.call (want_none) rfl (ec en_62 rfl rfl) (srcs_walk_1_api_Addr_walk (fr := (Ow.box b_4 34 (e_api_Addr (gi a_1 n_1)).toArray :: fr)) (gi a_1 n_1) first out_0_2 b_1 vout_0_2 hS hM) ?_
        rintro _ h_11 ⟨F_7, a2_0_4, v_4, rfl, hk, hS, hM⟩
        replace hK := hK.trans hk
        replace hL_a := hL_a.kp hk
        replace hL_b := hL_b.kp hk
        replace hF_cf_order := hF_cf_order.kp hk
        replace hL_1 := hL_1.kp hk
        replace hL_2 := hL_2.kp hk
        refine HO.nil (blockQ_normal (thenQ_normal (?_)))
        refine HW.region ?_
        obtain ⟨ho_8, hM⟩ := hM
        refine HO.val (v := .int .i64 (n_1 + 1)) (want_none) rfl (q_addN _ rfl rfl rfl ho_8.1 ho_8.2) ?_
        refine HO.val (v := .int .i64 (n_1 + 1)) (want_none) rfl (q_move rfl) ?_
        refine HO.nil (thenQ_normal (?_))
        replace hS : St F_7 (Ow.box b_1 22 #[v_4] :: Ow.own 34 17 e_api_Addr v_4 a2_0_4 :: fr) h_11 := hS.perm2 [0, 1] 3 rfl rfl
        rw [hKe_2] at hM
        exact ⟨(a2_0_4, n_1 + 1), ⟨F_7, v_4, rfl, rfl, rfl, rfl, rfl, rfl, rfl, rfl, rfl, hK, hS, hL_a, hL_b, hF_cf_order, hL_1, hL_2, hM.1⟩, hM.2⟩
      · replace hM := hM.2 (of_decide_eq_false c_5)
        refine HW.exit (thenQ_exit (thenQ_exit (blockQ_exit (thenQ_normal (?_)))))
        refine HW.seq ?_
        refine HW.seq ?_
        refine HW.region ?_
        refine HO.val (v := vb_1) (want_none) rfl (q_move rfl) ?_
        refine HO.val (v := .int .i64 (b_2.length : Int)) (want_none) rfl (q_len ts_22 (shp hL_2.is) rfl rfl) ?_
        refine HO.val (v := .int .i64 0) (want_none) rfl (q_move rfl) ?_
        refine HO.nil (thenQ_normal (?_))
        refine HW.block ?_
        obtain ⟨I_3, m_3, hI_3, hR_3⟩ := hM
        refine HW.loop (S := List T_api_Addr × Int) (fun s f h => match s with | (out_0_3, n_2) => ∃ (F' : Fz) (vout_0_3 : Value), f 5 = .bool second ∧ f 12 = .slice none 0 0 ∧ f 13 = .pointer (some ⟨b_1, 0, none⟩) ∧ f 14 = .func (.func 62) #[] #[.pointer (some ⟨b_1, 0, none⟩)] ∧ f 80 = vb_1 ∧ f 81 = .int .i64 (b_2.length : Int) ∧ f 82 = .int .i64 n_2 ∧ Kp F h0 F' h ∧ St F' (Ow.box b_1 22 #[vout_0_3] :: Ow.own 34 17 e_api_Addr vout_0_3 out_0_3 :: fr) h ∧ (SliceF F' h 17 e_api_Addr va a) ∧ (SliceF F' h 17 e_api_Addr vb b) ∧ (FnP Try.prog F' h g_order fs_order cs_order (fun x : T_api_Addr × T_api_Addr => [.agg (e_api_Addr x.1).toArray, .agg (e_api_Addr x.2).toArray]) (fun x => .int .i64 (cf_order x.1 x.2))) ∧ (SliceF F' h 17 e_api_Addr va_1 a_1) ∧ (SliceF F' h 17 e_api_Addr vb_1 b_2) ∧ I_3 (out_0_3, n_2)) m_3 (out_0_2, 0) ⟨F_6, vout_0_2, rfl, rfl, rfl, rfl, rfl, rfl, rfl, hK, hS, hL_a, hL_b, hF_cf_order, hL_1, hL_2, hI_3⟩ ?_
        rintro ⟨out_0_3, n_2⟩ f_4 h_12 ⟨F_8, vout_0_3, e5, e12, e13, e14, e80, e81, e82, hK, hS, hL_a, hL_b, hF_cf_order, hL_1, hL_2, hI0⟩
        obtain ⟨K_3, hKe_3⟩ : ∃ K : (List T_api_Addr) → Int → Prop, K = fun out_0_3' n_2' => I_3 (out_0_3', n_2') ∧ m_3 (out_0_3', n_2') < m_3 (out_0_3, n_2) := ⟨_, rfl⟩
        have hM : srcs_walk_api_Addr_l3 second Q b_2 K_3 out_0_3 n_2 := by rw [hKe_3]; exact hR_3 (out_0_3, n_2) hI0
        unfold srcs_walk_api_Addr_l3 at hM
        refine HW.fr [(5, .bool second), (12, .slice none 0 0), (13, .pointer (some ⟨b_1, 0, none⟩)), (14, .func (.func 62) #[] #[.pointer (some ⟨b_1, 0, none⟩)]), (80, vb_1), (81, .int .i64 (b_2.length : Int)), (82, .int .i64 n_2)] ⟨e5, e12, e13, e14, e80, e81, e82, trivial⟩ ?_
        refine HW.seq ?_
        refine HW.region ?_
        refine HO.val (v := .bool (decide (n_2 < (b_2.length : Int)))) (want_none) rfl (q_lss rfl rfl) ?_
        refine HO.nil (thenQ_normal (?_))
        refine HW.seq ?_
        refine HW.cond (decide (n_2 < (b_2.length : Int))) rfl (fun c_6 => ?_) (fun c_6 => ?_)
        · replace hM := hM.1 (of_decide_eq_true c_6)
          refine HW.skip (thenQ_normal (?_))
          refine HW.seq ?_
          refine HW.block ?_
          refine HW.seq ?_
          refine HW.region ?_
          obtain ⟨ho_9, hM⟩ := hM
          refine HO.val (v := elemPtr 17 vb_1 (n_2).toNat) (want_none) rfl (q_idx ts_22 hL_2.is rfl rfl ho_9) ?_
          refine HO.val (v := .agg (e_api_Addr (gi b_2 n_2)).toArray) (want_none) rfl (q_ldElemAgg (cs := (e_api_Addr (gi b_2 n_2))) ta_34 hL_2.is rfl ho_9 rfl) ?_
          refine HO.eff (want_none) rfl (st_alloc (c := (e_api_Addr (false, (default : Ba 16))).toArray) hS tz_34 rfl) ?_
          rintro _ h_13 ⟨b_5, rfl, hS, hk⟩
          replace hK := hK.trans hk
          replace hL_a := hL_a.kp hk
          replace hL_b := hL_b.kp hk
          replace hF_cf_order := hF_cf_order.kp hk
          replace hL_1 := hL_1.kp hk
          replace hL_2 := hL_2.kp hk
          refine HO.sto (want_none) rfl (st_storeAgg (c' := (e_api_Addr (gi b_2 n_2)).toArray) hS (i := 0) rfl ta_34 rfl rfl rfl (one_e_api_Addr _) (Nat.le_of_ble_eq_true rfl) rfl) ?_
          rintro h_14 ⟨hS, hk⟩
          replace hS : St F_8 (Ow.box b_5 34 (e_api_Addr (gi b_2 n_2)).toArray :: Ow.box b_1 22 #[vout_0_3] :: Ow.own 34 17 e_api_Addr vout_0_3 out_0_3 :: fr) h_14 := hS
          replace hK := hK.trans hk
          replace hL_a := hL_a.kp hk
          replace hL_b := hL_b.kp hk
          replace hF_cf_order := hF_cf_order.kp hk
          replace hL_1 := hL_1.kp hk
          replace hL_2 := hL_2.kp hk
          refine HO.nil (thenQ_normal (?_))
          refine HW.region ?_
          refine HO.val (v := .func (.func 62) #[] #[.pointer (some ⟨b_1, 0, none⟩)]) (want_none) rfl (q_move rfl) ?_
          refine HO.val (v := .agg (e_api_Addr (gi b_2 n_2)).toArray) (want_none) rfl (q_loadAgg (cs := (e_api_Addr (gi b_2 n_2))) ta_34 rfl rfl (Blk.cells (k := 17) (hS.box 0 rfl) rfl)) ?_
          refine HO.val (v := .bool second) (want_none) rfl (q_move rfl) ?_
          replace hS : St F_8 (Ow.box b_1 22 #[vout_0_3] :: Ow.own 34 17 e_api_Addr vout_0_3 out_0_3 :: Ow.box b_5 34 (e_api_Addr (gi b_2 n_2)).toArray :: fr) h_14 := hS.perm2 [1, 2, 0] 3 rfl rfl
          refine HO.call (want_none) rfl (ec en_62 rfl rfl) (srcs_walk_1_api_Addr_walk (fr := (Ow.box b_5 34 (e_api_Addr (gi b_2 n_2)).toArray :: fr)) (gi b_2 n_2) second out_0_3 b_1 vout_0_3 hS hM) ?_
          rintro _ h_15 ⟨F_9, a2_0_5, v_5, rfl, hk, hS, hM⟩
          replace hK := hK.trans hk
          replace hL_a := hL_a.kp hk
          replace hL_b := hL_b.kp hk
          replace hF_cf_order := hF_cf_order.kp hk
          replace hL_1 := hL_1.kp hk
          replace hL_2 := hL_2.kp hk
          refine HO.nil (blockQ_normal (thenQ_normal (?_)))
          refine HW.region ?_
          obtain ⟨ho_10, hM⟩ := hM
          refine HO.val (v := .int .i64 (n_2 + 1)) (want_none) rfl (q_addN _ rfl rfl rfl ho_10.1 ho_10.2) ?_
          refine HO.val (v := .int .i64 (n_2 + 1)) (want_none) rfl (q_move rfl) ?_
          refine HO.nil (thenQ_normal (?_))
          replace hS : St F_9 (Ow.box b_1 22 #[v_5] :: Ow.own 34 17 e_api_Addr v_5 a2_0_5 :: fr) h_15 := hS.perm2 [0, 1] 3 rfl rfl
          rw [hKe_3] at hM
          exact ⟨(a2_0_5, n_2 + 1), ⟨F_9, v_5, rfl, rfl, rfl, rfl, rfl, rfl, rfl, hK, hS, hL_a, hL_b, hF_cf_order, hL_1, hL_2, hM.1⟩, hM.2⟩
        · replace hM := hM.2 (of_decide_eq_false c_6)
          refine HW.exit (thenQ_exit (thenQ_exit (blockQ_exit (thenQ_normal (?_)))))
          refine HW.seq ?_
          refine HW.region ?_
          refine HO.val (v := vout_0_3) (want_none) rfl (q_load to_22 rfl (Blk.cell (hS.box 0 rfl) rfl)) ?_
          refine HO.val (v := vout_0_3) (want_none) rfl (q_assign rfl) ?_
          refine HO.nil (thenQ_normal (?_))
          refine HW.ret (?_)
          refine ⟨.inr rfl, vout_0_3, res1 rfl (rt rfl), ?_⟩
          replace hS : St F_8 (Ow.own 34 17 e_api_Addr vout_0_3 out_0_3 :: fr) h_12 := hS.perm2 [1] 2 rfl rfl
          exact ⟨F_8, out_0_3, vout_0_3, rfl, hK, hS, hL_a, hL_b, hF_cf_order, hM⟩

def srcs_minus_W (a : List T_api_Addr) (b : List T_api_Addr) (Q : (List T_api_Addr) → Prop) : Prop :=
  ∃ cf_1 : T_api_Addr → T_api_Addr → Int, (∀ x0 x1, addr_Cmp_W x0 x1 (fun r => r = cf_1 x0 x1)) ∧ (srcs_walk_api_Addr_W a b cf_1 true false false (fun r_2 => Q r_2))
set_option maxHeartbeats 40000000 in
set_option maxRecDepth 100000 in
theorem srcs_minus_walk {F : Fz} {fr : List Ow} {h0 : Heap} (a : List T_api_Addr) (b : List T_api_Addr) (va : Value) (vb : Value) (hS : St F (fr) h0) (hL_a : SliceF F h0 17 e_api_Addr va a) (hL_b : SliceF F h0 17 e_api_Addr vb b) {Q : (List T_api_Addr) → Prop} (hM : srcs_minus_W a b Q) :
    HC Try.prog 54 #[va, vb] h0 fun u h' => ∃ (F' : Fz) (r_1 : List T_api_Addr) (vr_1 : Value), u = vr_1 ∧ Kp F h0 F' h' ∧ St F' (Ow.own 34 17 e_api_Addr vr_1 r_1 :: fr) h' ∧ (SliceF F' h' 17 e_api_Addr va a) ∧ (SliceF F' h' 17 e_api_Addr vb b) ∧ Q r_1 := by
  unfold srcs_minus_W at hM
  have hK := Kp.refl F h0
  refine HC.of_HW (n := 8) Try.func54 rfl rfl (Nat.le_of_ble_eq_true rfl) ?_
  refine HW.seq ?_
  refine HW.region ?_
  refine HO.val (v := .slice none 0 0) (want_none) rfl (q_assign rfl) ?_
  refine HO.nil (thenQ_normal (?_))
  refine HW.seq ?_
  refine HW.region ?_
  refine HO.val (v := va) (want_none) rfl (q_move rfl) ?_
  refine HO.val (v := vb) (want_none) rfl (q_move rfl) ?_
  obtain ⟨cf_1, hc_1, hM⟩ := hM
  have hF_1 : FnP Try.prog F h0 50 #[] #[] (fun x : T_api_Addr × T_api_Addr => [.agg (e_api_Addr x.1).toArray, .agg (e_api_Addr x.2).toArray]) (fun x => .int .i64 (cf_1 x.1 x.2)) := FnP.of en_50 (fun x h' hk_ => @HC.mono ⟨true⟩ _ _ _ _ _ _ (@addr_Cmp_walk ⟨true⟩ (allF h') [] h' x.1 x.2  (St.init h')  (fun r => r = cf_1 x.1 x.2) (hc_1 x.1 x.2)) (fun u h'' ⟨F', r, hu, k_, _, hr⟩ => ⟨by rw [hu, hr], F', k_⟩))
  refine HO.call (want_none) rfl (ec en_53 rfl rfl) (srcs_walk_api_Addr_walk (fr := (fr)) a b cf_1 true false false va vb 50 (#[]) (#[]) hS hL_a hL_b hF_1 hM) ?_
  rintro vr_2 h_1 ⟨F_1, r_2, _, rfl, hk, hS, _, _, _, hM⟩
  replace hK := hK.trans hk
  replace hL_a := hL_a.kp hk
  replace hL_b := hL_b.kp hk
  replace hF_1 := hF_1.kp hk
  refine HO.val (v := vr_2) (want_none) rfl (q_assign rfl) ?_
  refine HO.nil (thenQ_normal (?_))
  refine HW.ret (?_)
  refine ⟨.inr rfl, vr_2, res1 rfl (rt rfl), ?_⟩
  exact ⟨F_1, r_2, vr_2, rfl, hK, hS, hL_a, hL_b, hM⟩

def srcs_Minus_W (a : List T_api_Addr) (b : List T_api_Addr) (Q : (List T_api_Addr) → Prop) : Prop :=
  srcs_minus_W a b (fun r_2 => Q r_2)
set_option maxHeartbeats 40000000 in
set_option maxRecDepth 100000 in
theorem srcs_Minus_walk {F : Fz} {fr : List Ow} {h0 : Heap} (a : List T_api_Addr) (b : List T_api_Addr) (va : Value) (vb : Value) (hS : St F (fr) h0) (hL_a : SliceF F h0 17 e_api_Addr va a) (hL_b : SliceF F h0 17 e_api_Addr vb b) {Q : (List T_api_Addr) → Prop} (hM : srcs_Minus_W a b Q) :
    HC Try.prog 39 #[va, vb] h0 fun u h' => ∃ (F' : Fz) (r_1 : List T_api_Addr) (vr_1 : Value), u = vr_1 ∧ Kp F h0 F' h' ∧ St F' (Ow.own 34 17 e_api_Addr vr_1 r_1 :: fr) h' ∧ (SliceF F' h' 17 e_api_Addr va a) ∧ (SliceF F' h' 17 e_api_Addr vb b) ∧ Q r_1 := by
  unfold srcs_Minus_W at hM
  have hK := Kp.refl F h0
  refine HC.of_HW (n := 8) Try.func39 rfl rfl (Nat.le_of_ble_eq_true rfl) ?_
  refine HW.seq ?_
  refine HW.region ?_
  refine HO.val (v := .slice none 0 0) (want_none) rfl (q_assign rfl) ?_
  refine HO.nil (thenQ_normal (?_))
  refine HW.seq ?_
  refine HW.region ?_
  refine HO.val (v := va) (want_none) rfl (q_move rfl) ?_
  refine HO.val (v := vb) (want_none) rfl (q_move rfl) ?_
  refine HO.call (want_none) rfl (ec en_54 rfl rfl) (srcs_minus_walk (fr := (fr)) a b va vb hS hL_a hL_b hM) ?_
  rintro vr_2 h_1 ⟨F_1, r_2, _, rfl, hk, hS, _, _, hM⟩
  replace hK := hK.trans hk
  replace hL_a := hL_a.kp hk
  replace hL_b := hL_b.kp hk
  refine HO.val (v := vr_2) (want_none) rfl (q_assign rfl) ?_
  refine HO.nil (thenQ_normal (?_))
  refine HW.ret (?_)
  refine ⟨.inr rfl, vr_2, res1 rfl (rt rfl), ?_⟩
  exact ⟨F_1, r_2, vr_2, rfl, hK, hS, hL_a, hL_b, hM⟩

def srcs_And_W (a : List T_api_Addr) (b : List T_api_Addr) (Q : (List T_api_Addr) → Prop) : Prop :=
  ∃ cf_1 : T_api_Addr → T_api_Addr → Int, (∀ x0 x1, addr_Cmp_W x0 x1 (fun r => r = cf_1 x0 x1)) ∧ (srcs_walk_api_Addr_W a b cf_1 false true false (fun r_2 => Q r_2))
set_option maxHeartbeats 40000000 in
set_option maxRecDepth 100000 in
theorem srcs_And_walk {F : Fz} {fr : List Ow} {h0 : Heap} (a : List T_api_Addr) (b : List T_api_Addr) (va : Value) (vb : Value) (hS : St F (fr) h0) (hL_a : SliceF F h0 17 e_api_Addr va a) (hL_b : SliceF F h0 17 e_api_Addr vb b) {Q : (List T_api_Addr) → Prop} (hM : srcs_And_W a b Q) :
    HC Try.prog 37 #[va, vb] h0 fun u h' => ∃ (F' : Fz) (r_1 : List T_api_Addr) (vr_1 : Value), u = vr_1 ∧ Kp F h0 F' h' ∧ St F' (Ow.own 34 17 e_api_Addr vr_1 r_1 :: fr) h' ∧ (SliceF F' h' 17 e_api_Addr va a) ∧ (SliceF F' h' 17 e_api_Addr vb b) ∧ Q r_1 := by
  unfold srcs_And_W at hM
  have hK := Kp.refl F h0
  refine HC.of_HW (n := 8) Try.func37 rfl rfl (Nat.le_of_ble_eq_true rfl) ?_
  refine HW.seq ?_
  refine HW.region ?_
  refine HO.val (v := .slice none 0 0) (want_none) rfl (q_assign rfl) ?_
  refine HO.nil (thenQ_normal (?_))
  refine HW.seq ?_
  refine HW.region ?_
  refine HO.val (v := va) (want_none) rfl (q_move rfl) ?_
  refine HO.val (v := vb) (want_none) rfl (q_move rfl) ?_
  obtain ⟨cf_1, hc_1, hM⟩ := hM
  have hF_1 : FnP Try.prog F h0 50 #[] #[] (fun x : T_api_Addr × T_api_Addr => [.agg (e_api_Addr x.1).toArray, .agg (e_api_Addr x.2).toArray]) (fun x => .int .i64 (cf_1 x.1 x.2)) := FnP.of en_50 (fun x h' hk_ => @HC.mono ⟨true⟩ _ _ _ _ _ _ (@addr_Cmp_walk ⟨true⟩ (allF h') [] h' x.1 x.2  (St.init h')  (fun r => r = cf_1 x.1 x.2) (hc_1 x.1 x.2)) (fun u h'' ⟨F', r, hu, k_, _, hr⟩ => ⟨by rw [hu, hr], F', k_⟩))
  refine HO.call (want_none) rfl (ec en_53 rfl rfl) (srcs_walk_api_Addr_walk (fr := (fr)) a b cf_1 false true false va vb 50 (#[]) (#[]) hS hL_a hL_b hF_1 hM) ?_
  rintro vr_2 h_1 ⟨F_1, r_2, _, rfl, hk, hS, _, _, _, hM⟩
  replace hK := hK.trans hk
  replace hL_a := hL_a.kp hk
  replace hL_b := hL_b.kp hk
  replace hF_1 := hF_1.kp hk
  refine HO.val (v := vr_2) (want_none) rfl (q_assign rfl) ?_
  refine HO.nil (thenQ_normal (?_))
  refine HW.ret (?_)
  refine ⟨.inr rfl, vr_2, res1 rfl (rt rfl), ?_⟩
  exact ⟨F_1, r_2, vr_2, rfl, hK, hS, hL_a, hL_b, hM⟩

def srcs_Or_W (a : List T_api_Addr) (b : List T_api_Addr) (Q : (List T_api_Addr) → Prop) : Prop :=
  ∃ cf_1 : T_api_Addr → T_api_Addr → Int, (∀ x0 x1, addr_Cmp_W x0 x1 (fun r => r = cf_1 x0 x1)) ∧ (srcs_walk_api_Addr_W a b cf_1 true true true (fun r_2 => Q r_2))
set_option maxHeartbeats 40000000 in
set_option maxRecDepth 100000 in
theorem srcs_Or_walk {F : Fz} {fr : List Ow} {h0 : Heap} (a : List T_api_Addr) (b : List T_api_Addr) (va : Value) (vb : Value) (hS : St F (fr) h0) (hL_a : SliceF F h0 17 e_api_Addr va a) (hL_b : SliceF F h0 17 e_api_Addr vb b) {Q : (List T_api_Addr) → Prop} (hM : srcs_Or_W a b Q) :
    HC Try.prog 40 #[va, vb] h0 fun u h' => ∃ (F' : Fz) (r_1 : List T_api_Addr) (vr_1 : Value), u = vr_1 ∧ Kp F h0 F' h' ∧ St F' (Ow.own 34 17 e_api_Addr vr_1 r_1 :: fr) h' ∧ (SliceF F' h' 17 e_api_Addr va a) ∧ (SliceF F' h' 17 e_api_Addr vb b) ∧ Q r_1 := by
  unfold srcs_Or_W at hM
  have hK := Kp.refl F h0
  refine HC.of_HW (n := 8) Try.func40 rfl rfl (Nat.le_of_ble_eq_true rfl) ?_
  refine HW.seq ?_
  refine HW.region ?_
  refine HO.val (v := .slice none 0 0) (want_none) rfl (q_assign rfl) ?_
  refine HO.nil (thenQ_normal (?_))
  refine HW.seq ?_
  refine HW.region ?_
  refine HO.val (v := va) (want_none) rfl (q_move rfl) ?_
  refine HO.val (v := vb) (want_none) rfl (q_move rfl) ?_
  obtain ⟨cf_1, hc_1, hM⟩ := hM
  have hF_1 : FnP Try.prog F h0 50 #[] #[] (fun x : T_api_Addr × T_api_Addr => [.agg (e_api_Addr x.1).toArray, .agg (e_api_Addr x.2).toArray]) (fun x => .int .i64 (cf_1 x.1 x.2)) := FnP.of en_50 (fun x h' hk_ => @HC.mono ⟨true⟩ _ _ _ _ _ _ (@addr_Cmp_walk ⟨true⟩ (allF h') [] h' x.1 x.2  (St.init h')  (fun r => r = cf_1 x.1 x.2) (hc_1 x.1 x.2)) (fun u h'' ⟨F', r, hu, k_, _, hr⟩ => ⟨by rw [hu, hr], F', k_⟩))
  refine HO.call (want_none) rfl (ec en_53 rfl rfl) (srcs_walk_api_Addr_walk (fr := (fr)) a b cf_1 true true true va vb 50 (#[]) (#[]) hS hL_a hL_b hF_1 hM) ?_
  rintro vr_2 h_1 ⟨F_1, r_2, _, rfl, hk, hS, _, _, _, hM⟩
  replace hK := hK.trans hk
  replace hL_a := hL_a.kp hk
  replace hL_b := hL_b.kp hk
  replace hF_1 := hF_1.kp hk
  refine HO.val (v := vr_2) (want_none) rfl (q_assign rfl) ?_
  refine HO.nil (thenQ_normal (?_))
  refine HW.ret (?_)
  refine ⟨.inr rfl, vr_2, res1 rfl (rt rfl), ?_⟩
  exact ⟨F_1, r_2, vr_2, rfl, hK, hS, hL_a, hL_b, hM⟩

def filter_Expire_W (s_Exclude : Bool) (s_On : List T_api_Addr) (s_Off : List T_api_Addr) (l : List T_api_Addr) (Q : Bool → (List T_api_Addr) → (List T_api_Addr) → Prop) : Prop :=
  srcs_Of_W l (fun r_1 => filter_own_W s_Exclude s_On s_Off (fun r_0_2 r_1_2 r_2_2 => srcs_Minus_W s_On r_1 (fun r_2 => (s_Exclude = true → srcs_And_W s_On r_1 (fun r_3 => srcs_Or_W s_Off r_3 (fun r_4 => Q r_0_2 r_2 r_4))) ∧ (s_Exclude = false → Q r_0_2 r_2 r_2_2))))
set_option maxHeartbeats 40000000 in
set_option maxRecDepth 100000 in
theorem filter_Expire_walk {F : Fz} {fr : List Ow} {h0 : Heap} (s_Exclude : Bool) (s_On : List T_api_Addr) (s_Off : List T_api_Addr) (l : List T_api_Addr) (vs_On : Value) (vs_Off : Value) (vl : Value) (hS : St F (fr) h0) (hL_s_On : SliceF F h0 17 e_api_Addr vs_On s_On) (hL_s_Off : SliceF F h0 17 e_api_Addr vs_Off s_Off) (hL_l : SliceF F h0 17 e_api_Addr vl l) {Q : Bool → (List T_api_Addr) → (List T_api_Addr) → Prop} (hM : filter_Expire_W s_Exclude s_On s_Off l Q) :
    HC Try.prog 19 #[.agg #[.bool s_Exclude, vs_On, vs_Off], vl] h0 fun u h' => ∃ (F' : Fz) (r_0_1 : Bool) (r_1_1 : List T_api_Addr) (r_2_1 : List T_api_Addr) (vr_1_1 : Value) (vr_2_1 : Value), u = .agg #[.bool r_0_1, vr_1_1, vr_2_1] ∧ Kp F h0 F' h' ∧ St F' (Ow.own 34 17 e_api_Addr vr_1_1 r_1_1 :: Ow.own 34 17 e_api_Addr vr_2_1 r_2_1 :: fr) h' ∧ (SliceF F' h' 17 e_api_Addr vs_On s_On) ∧ (SliceF F' h' 17 e_api_Addr vs_Off s_Off) ∧ (SliceF F' h' 17 e_api_Addr vl l) ∧ Q r_0_1 r_1_1 r_2_1 := by
  unfold filter_Expire_W at hM
  have hK := Kp.refl F h0
  refine HC.of_HW (n := 27) Try.func19 rfl rfl (Nat.le_of_ble_eq_true rfl) ?_
  refine HW.seq ?_
  refine HW.region ?_
  refine HO.eff (want_none) rfl (st_box (c := #[.bool s_Exclude, vs_On, vs_Off]) (k' := 3) hS rfl rfl) ?_
  rintro _ h_1 ⟨b_1, rfl, hS, hk⟩
  replace hK := hK.trans hk
  replace hL_s_On := hL_s_On.kp hk
  replace hL_s_Off := hL_s_Off.kp hk
  replace hL_l := hL_l.kp hk
  refine HO.eff (want_none) rfl (st_alloc (c := #[.bool false, .slice none 0 0, .slice none 0 0]) hS tz_24 rfl) ?_
  rintro _ h_2 ⟨b_2, rfl, hS, hk⟩
  replace hK := hK.trans hk
  replace hL_s_On := hL_s_On.kp hk
  replace hL_s_Off := hL_s_Off.kp hk
  replace hL_l := hL_l.kp hk
  refine HO.nil (thenQ_normal (?_))
  refine HW.seq ?_
  refine HW.region ?_
  refine HO.val (v := vl) (want_none) rfl (q_move rfl) ?_
  refine HO.call (want_none) rfl (ec en_30 rfl rfl) (srcs_Of_walk (fr := (Ow.box b_2 24 #[.bool false, .slice none 0 0, .slice none 0 0] :: Ow.box b_1 24 #[.bool s_Exclude, vs_On, vs_Off] :: fr)) l vl hS hL_l hM) ?_
  rintro vr_1 h_3 ⟨F_1, r_1, _, rfl, hk, hS, _, hM⟩
  replace hK := hK.trans hk
  replace hL_s_On := hL_s_On.kp hk
  replace hL_s_Off := hL_s_Off.kp hk
  replace hL_l := hL_l.kp hk
  refine HO.val (v := vr_1) (want_none) rfl (q_assign rfl) ?_
  refine HO.nil (thenQ_normal (?_))
  refine HW.seq ?_
  refine HW.region ?_
  refine HO.val (v := .agg #[.bool s_Exclude, vs_On, vs_Off]) (want_none) rfl (q_loadAgg (cs := [.bool s_Exclude, vs_On, vs_Off]) ta_24 rfl rfl (Blk.cells (k := 3) (hS.box 2 rfl) rfl)) ?_
  refine HO.call (want_none) rfl (ec en_38 rfl rfl) (filter_own_walk (fr := (Ow.own 34 17 e_api_Addr vr_1 r_1 :: Ow.box b_2 24 #[.bool false, .slice none 0 0, .slice none 0 0] :: Ow.box b_1 24 #[.bool s_Exclude, vs_On, vs_Off] :: fr)) s_Exclude s_On s_Off vs_On vs_Off hS hL_s_On hL_s_Off hM) ?_
  rintro _ h_4 ⟨F_2, r_0_2, r_1_2, r_2_2, vr_1_2, vr_2_2, rfl, hk, hS, _, _, hM⟩
  replace hK := hK.trans hk
  replace hL_s_On := hL_s_On.kp hk
  replace hL_s_Off := hL_s_Off.kp hk
  replace hL_l := hL_l.kp hk
  refine HO.eff (want_none) rfl (st_alloc (c := #[.bool false, .slice none 0 0, .slice none 0 0]) hS tz_24 rfl) ?_
  rintro _ h_5 ⟨b_3, rfl, hS, hk⟩
  replace hK := hK.trans hk
  replace hL_s_On := hL_s_On.kp hk
  replace hL_s_Off := hL_s_Off.kp hk
  replace hL_l := hL_l.kp hk
  refine HO.sto (want_none) rfl (st_storeAgg (c' := #[.bool r_0_2, vr_1_2, vr_2_2]) hS (i := 0) rfl ta_24 rfl rfl rfl (List.forall_mem_cons.2 ⟨rfl, (List.forall_mem_cons.2 ⟨(shp (hS.own 1 rfl).slice).one, (List.forall_mem_cons.2 ⟨(shp (hS.own 2 rfl).slice).one, (fun _ h => by cases h)⟩)⟩)⟩) (Nat.le_of_ble_eq_true rfl) rfl) ?_
  rintro h_6 ⟨hS, hk⟩
  replace hS : St F_2 (Ow.box b_3 24 #[.bool r_0_2, vr_1_2, vr_2_2] :: Ow.own 34 17 e_api_Addr vr_1_2 r_1_2 :: Ow.own 34 17 e_api_Addr vr_2_2 r_2_2 :: Ow.own 34 17 e_api_Addr vr_1 r_1 :: Ow.box b_2 24 #[.bool false, .slice none 0 0, .slice none 0 0] :: Ow.box b_1 24 #[.bool s_Exclude, vs_On, vs_Off] :: fr) h_6 := hS
  replace hK := hK.trans hk
  replace hL_s_On := hL_s_On.kp hk
  replace hL_s_Off := hL_s_Off.kp hk
  replace hL_l := hL_l.kp hk
  refine HO.nil (thenQ_normal (?_))
  refine HW.seq ?_
  refine HW.region ?_
  refine HO.val (v := .pointer (some ⟨b_1, 1, none⟩)) (want_none) rfl (q_fieldAddr fa_24_1 rfl rfl) ?_
  refine HO.val (v := vs_On) (want_none) rfl (q_load to_22 rfl (Blk.cell (hS.box 5 rfl) rfl)) ?_
  refine HO.val (v := vr_1) (want_none) rfl (q_move rfl) ?_
  replace hS : St F_2 (Ow.own 34 17 e_api_Addr vr_1 r_1 :: Ow.box b_3 24 #[.bool r_0_2, vr_1_2, vr_2_2] :: Ow.own 34 17 e_api_Addr vr_1_2 r_1_2 :: Ow.own 34 17 e_api_Addr vr_2_2 r_2_2 :: Ow.box b_2 24 #[.bool false, .slice none 0 0, .slice none 0 0] :: Ow.box b_1 24 #[.bool s_Exclude, vs_On, vs_Off] :: fr) h_6 := hS.perm2 [3, 0, 1, 2, 4, 5] 6 rfl rfl
  have hZ_1 := hS
  have hkz_1 := (hS.freeze).2
  replace hS := hS.freeze.1
  have hL_1 : SliceF (fun b => F_2 b ∨ (Ow.own 34 17 e_api_Addr vr_1 r_1).foot b) h_6 17 e_api_Addr vr_1 r_1 := ⟨(hZ_1.own 0 rfl).slice, fun _ b hb => .inr hb⟩
  refine HO.call (want_none) rfl (ec en_39 rfl rfl) (srcs_Minus_walk (fr := (Ow.box b_3 24 #[.bool r_0_2, vr_1_2, vr_2_2] :: Ow.own 34 17 e_api_Addr vr_1_2 r_1_2 :: Ow.own 34 17 e_api_Addr vr_2_2 r_2_2 :: Ow.box b_2 24 #[.bool false, .slice none 0 0, .slice none 0 0] :: Ow.box b_1 24 #[.bool s_Exclude, vs_On, vs_Off] :: fr)) s_On r_1 vs_On vr_1 hS (hL_s_On.kp hkz_1) hL_1 hM) ?_
  rintro vr_2 h_7 ⟨F_3, r_2, _, rfl, hk, hS, _, _, hM⟩
  obtain ⟨hS, hk⟩ := hZ_1.back hk hS
  generalize (fun b => F_3 b ∧ ¬ (Ow.own 34 17 e_api_Addr vr_1 r_1).foot b) = F_4 at hS hk
  replace hK := hK.trans hk
  replace hL_s_On := hL_s_On.kp hk
  replace hL_s_Off := hL_s_Off.kp hk
  replace hL_l := hL_l.kp hk
  refine HO.val (v := .pointer (some ⟨b_3, 1, none⟩)) (want_none) rfl (q_fieldAddr fa_24_1 rfl rfl) ?_
  refine HO.sto (want_none) rfl (st_store (c' := #[.bool r_0_2, vr_2, vr_2_2]) hS (i := 2) rfl to_22 rfl rfl (shp (hS.own 1 rfl).slice).cells (shp (hS.own 1 rfl).slice).one (Nat.le_of_ble_eq_true rfl) rfl) ?_
  rintro h_8 ⟨hS, hk⟩
  replace hS : St F_4 (Ow.own 34 17 e_api_Addr vr_1 r_1 :: Ow.own 34 17 e_api_Addr vr_2 r_2 :: Ow.box b_3 24 #[.bool r_0_2, vr_2, vr_2_2] :: Ow.own 34 17 e_api_Addr vr_1_2 r_1_2 :: Ow.own 34 17 e_api_Addr vr_2_2 r_2_2 :: Ow.box b_2 24 #[.bool false, .slice none 0 0, .slice none 0 0] :: Ow.box b_1 24 #[.bool s_Exclude, vs_On, vs_Off] :: fr) h_8 := hS
  replace hK := hK.trans hk
  replace hL_s_On := hL_s_On.kp hk
  replace hL_s_Off := hL_s_Off.kp hk
  replace hL_l := hL_l.kp hk
  refine HO.nil (thenQ_normal (?_))
  refine HW.seq ?_
  refine HW.seq ?_
  refine HW.region ?_
  refine HO.val (v := .pointer (some ⟨b_1, 0, none⟩)) (want_none) rfl (q_fieldAddr fa_24_0 rfl rfl) ?_
  refine HO.val (v := .bool s_Exclude) (want_none) rfl (q_load to_4 rfl (Blk.cell (hS.box 6 rfl) rfl)) ?_
  refine HO.nil (thenQ_normal (?_))
  refine HW.cond s_Exclude rfl (fun c_1 => ?_) (fun c_1 => ?_)
  · replace hM := hM.1 c_1
    refine HW.regionA 9 mixed (fun h => (Blk h b_1 (.cells #[.bool s_Exclude, vs_On, vs_Off] 24 (0, 0)))) [] (by kernel_rfl) ?_
    refine HA.val (k := 0) (v := .pointer (some ⟨b_1, 2, none⟩)) rfl rfl (by kernel_rfl) (by kernel_rfl) (want_none) rfl (fun _ c203 => q_fieldAddr fa_24_2 rfl rfl) ?_
    refine HA.val (k := 1) (v := vs_Off) rfl rfl (by kernel_rfl) (by kernel_rfl) (want_none) rfl (fun _ c203 => q_load to_22 rfl (Blk.cell c203 rfl)) ?_
    refine HA.val (k := 2) (v := .pointer (some ⟨b_1, 1, none⟩)) rfl rfl (by kernel_rfl) (by kernel_rfl) (want_none) rfl (fun _ c203 => q_fieldAddr fa_24_1 rfl rfl) ?_
    refine HA.val (k := 3) (v := vs_On) rfl rfl (by kernel_rfl) (by kernel_rfl) (want_none) rfl (fun _ c203 => q_load to_22 rfl (Blk.cell c203 rfl)) ?_
    refine HA.val (k := 4) (v := vr_1) rfl rfl (by kernel_rfl) (by kernel_rfl) (want_none) rfl (fun _ c203 => q_move rfl) ?_
    refine HA.one (k := 5) ⟨(hS.box 6 rfl), (Go.Wk.at_nil _ _)⟩ (by kernel_rfl) ?_
    have hZ_2 := hS
    have hkz_2 := (hS.freeze).2
    replace hS := hS.freeze.1
    have hL_2 : SliceF (fun b => F_4 b ∨ (Ow.own 34 17 e_api_Addr vr_1 r_1).foot b) h_8 17 e_api_Addr vr_1 r_1 := ⟨(hZ_2.own 0 rfl).slice, fun _ b hb => .inr hb⟩
    refine HS.call rfl (want_none) rfl (ec en_37 rfl rfl) (srcs_And_walk (fr := (Ow.own 34 17 e_api_Addr vr_2 r_2 :: Ow.box b_3 24 #[.bool r_0_2, vr_2, vr_2_2] :: Ow.own 34 17 e_api_Addr vr_1_2 r_1_2 :: Ow.own 34 17 e_api_Addr vr_2_2 r_2_2 :: Ow.box b_2 24 #[.bool false, .slice none 0 0, .slice none 0 0] :: Ow.box b_1 24 #[.bool s_Exclude, vs_On, vs_Off] :: fr)) s_On r_1 vs_On vr_1 hS (hL_s_On.kp hkz_2) hL_2 hM) ?_
    rintro vr_3 h_9 ⟨F_5, r_3, _, rfl, hk, hS, _, _, hM⟩
    obtain ⟨hS, hk⟩ := hZ_2.back hk hS
    generalize (fun b => F_5 b ∧ ¬ (Ow.own 34 17 e_api_Addr vr_1 r_1).foot b) = F_6 at hS hk
    replace hK := hK.trans hk
    replace hL_s_On := hL_s_On.kp hk
    replace hL_s_Off := hL_s_Off.kp hk
    replace hL_l := hL_l.kp hk
    refine HA.one (k := 6) ⟨(hS.box 7 rfl), (Go.Wk.at_nil _ _)⟩ (by kernel_rfl) ?_
    replace hS : St F_6 (Ow.own 34 17 e_api_Addr vr_3 r_3 :: Ow.own 34 17 e_api_Addr vr_1 r_1 :: Ow.own 34 17 e_api_Addr vr_2 r_2 :: Ow.box b_3 24 #[.bool r_0_2, vr_2, vr_2_2] :: Ow.own 34 17 e_api_Addr vr_1_2 r_1_2 :: Ow.own 34 17 e_api_Addr vr_2_2 r_2_2 :: Ow.box b_2 24 #[.bool false, .slice none 0 0, .slice none 0 0] :: Ow.box b_1 24 #[.bool s_Exclude, vs_On, vs_Off] :: fr) h_9 := hS.perm2 [1, 0, 2, 3, 4, 5, 6, 7] 8 rfl rfl
    have hZ_3 := hS
    have hkz_3 := (hS.freeze).2
    replace hS := hS.freeze.1
    have hL_3 : SliceF (fun b => F_6 b ∨ (Ow.own 34 17 e_api_Addr vr_3 r_3).foot b) h_9 17 e_api_Addr vr_3 r_3 := ⟨(hZ_3.own 0 rfl).slice, fun _ b hb => .inr hb⟩
    refine HS.call rfl (want_none) rfl (ec en_40 rfl rfl) (srcs_Or_walk (fr := (Ow.own 34 17 e_api_Addr vr_1 r_1 :: Ow.own 34 17 e_api_Addr vr_2 r_2 :: Ow.box b_3 24 #[.bool r_0_2, vr_2, vr_2_2] :: Ow.own 34 17 e_api_Addr vr_1_2 r_1_2 :: Ow.own 34 17 e_api_Addr vr_2_2 r_2_2 :: Ow.box b_2 24 #[.bool false, .slice none 0 0, .slice none 0 0] :: Ow.box b_1 24 #[.bool s_Exclude, vs_On, vs_Off] :: fr)) s_Off r_3 vs_Off vr_3 hS (hL_s_Off.kp hkz_3) hL_3 hM) ?_
    rintro vr_4 h_10 ⟨F_7, r_4, _, rfl, hk, hS, _, _, hM⟩
    obtain ⟨hS, hk⟩ := hZ_3.back hk hS
    generalize (fun b => F_7 b ∧ ¬ (Ow.own 34 17 e_api_Addr vr_3 r_3).foot b) = F_8 at hS hk
    replace hK := hK.trans hk
    replace hL_s_On := hL_s_On.kp hk
    replace hL_s_Off := hL_s_Off.kp hk
    replace hL_l := hL_l.kp hk
    refine HA.val (k := 7) (v := .pointer (some ⟨b_3, 2, none⟩)) rfl rfl (by kernel_rfl) (by kernel_rfl) (want_none) rfl (fun _ c203 => q_fieldAddr fa_24_2 rfl rfl) ?_
    refine HA.one (k := 8) ⟨(hS.box 8 rfl), (Go.Wk.at_nil _ _)⟩ (by kernel_rfl) ?_
    refine HS.sto rfl (want_none) rfl (st_store (c' := #[.bool r_0_2, vr_2, vr_4]) hS (i := 4) rfl to_22 rfl rfl (shp (hS.own 1 rfl).slice).cells (shp (hS.own 1 rfl).slice).one (Nat.le_of_ble_eq_true rfl) rfl) ?_
    rintro h_11 ⟨hS, hk⟩
    replace hS : St F_8 (Ow.own 34 17 e_api_Addr vr_3 r_3 :: Ow.own 34 17 e_api_Addr vr_4 r_4 :: Ow.own 34 17 e_api_Addr vr_1 r_1 :: Ow.own 34 17 e_api_Addr vr_2 r_2 :: Ow.box b_3 24 #[.bool r_0_2, vr_2, vr_4] :: Ow.own 34 17 e_api_Addr vr_1_2 r_1_2 :: Ow.own 34 17 e_api_Addr vr_2_2 r_2_2 :: Ow.box b_2 24 #[.bool false, .slice none 0 0, .slice none 0 0] :: Ow.box b_1 24 #[.bool s_Exclude, vs_On, vs_Off] :: fr) h_11 := hS
    replace hK := hK.trans hk
    replace hL_s_On := hL_s_On.kp hk
    replace hL_s_Off := hL_s_Off.kp hk
    replace hL_l := hL_l.kp hk
    refine HA.nil ⟨(hS.box 8 rfl), (Go.Wk.at_nil _ _)⟩ (by kernel_rfl) (thenQ_normal (?_))
    refine HW.seq ?_
    refine HW.region ?_
    refine HO.val (v := .agg #[.bool r_0_2, vr_2, vr_4]) (want_none) rfl (q_loadAgg (cs := [.bool r_0_2, vr_2, vr_4]) ta_24 rfl rfl (Blk.cells (k := 3) (hS.box 4 rfl) rfl)) ?_
    refine HO.sto (want_none) rfl (st_storeAgg (c' := #[.bool r_0_2, vr_2, vr_4]) hS (i := 7) rfl ta_24 rfl rfl rfl (List.forall_mem_cons.2 ⟨rfl, (List.forall_mem_cons.2 ⟨(shp (hS.own 3 rfl).slice).one, (List.forall_mem_cons.2 ⟨(shp (hS.own 1 rfl).slice).one, (fun _ h => by cases h)⟩)⟩)⟩) (Nat.le_of_ble_eq_true rfl) rfl) ?_
    rintro h_12 ⟨hS, hk⟩
    replace hS : St F_8 (Ow.own 34 17 e_api_Addr vr_3 r_3 :: Ow.own 34 17 e_api_Addr vr_4 r_4 :: Ow.own 34 17 e_api_Addr vr_1 r_1 :: Ow.own 34 17 e_api_Addr vr_2 r_2 :: Ow.box b_3 24 #[.bool r_0_2, vr_2, vr_4] :: Ow.own 34 17 e_api_Addr vr_1_2 r_1_2 :: Ow.own 34 17 e_api_Addr vr_2_2 r_2_2 :: Ow.box b_2 24 #[.bool r_0_2, vr_2, vr_4] :: Ow.box b_1 24 #[.bool s_Exclude, vs_On, vs_Off] :: fr) h_12 := hS
    replace hK := hK.trans hk
    replace hL_s_On := hL_s_On.kp hk
    replace hL_s_Off := hL_s_Off.kp hk
    replace hL_l := hL_l.kp hk
    refine HO.nil (thenQ_normal (?_))
    refine HW.ret (?_)
    refine ⟨.inr rfl, .agg #[.bool r_0_2, vr_2, vr_4], res1 rfl (rca (cs := [.bool r_0_2, vr_2, vr_4]) ta_24 rfl rfl (Blk.cells (k := 3) (hS.box 7 rfl) rfl)), ?_⟩
    replace hS : St F_8 (Ow.own 34 17 e_api_Addr vr_2 r_2 :: Ow.own 34 17 e_api_Addr vr_4 r_4 :: fr) h_12 := hS.perm2 [3, 1] 9 rfl rfl
    exact ⟨F_8, r_0_2, r_2, r_4, vr_2, vr_4, rfl, hK, hS, hL_s_On, hL_s_Off, hL_l, hM⟩
  · replace hM := hM.2 c_1
    refine HW.skip (thenQ_normal (?_))
    refine HW.seq ?_
    refine HW.region ?_
    refine HO.val (v := .agg #[.bool r_0_2, vr_2, vr_2_2]) (want_none) rfl (q_loadAgg (cs := [.bool r_0_2, vr_2, vr_2_2]) ta_24 rfl rfl (Blk.cells (k := 3) (hS.box 2 rfl) rfl)) ?_
    refine HO.sto (want_none) rfl (st_storeAgg (c' := #[.bool r_0_2, vr_2, vr_2_2]) hS (i := 5) rfl ta_24 rfl rfl rfl (List.forall_mem_cons.2 ⟨rfl, (List.forall_mem_cons.2 ⟨(shp (hS.own 1 rfl).slice).one, (List.forall_mem_cons.2 ⟨(shp (hS.own 4 rfl).slice).one, (fun _ h => by cases h)⟩)⟩)⟩) (Nat.le_of_ble_eq_true rfl) rfl) ?_
    rintro h_13 ⟨hS, hk⟩
    replace hS : St F_4 (Ow.own 34 17 e_api_Addr vr_1 r_1 :: Ow.own 34 17 e_api_Addr vr_2 r_2 :: Ow.box b_3 24 #[.bool r_0_2, vr_2, vr_2_2] :: Ow.own 34 17 e_api_Addr vr_1_2 r_1_2 :: Ow.own 34 17 e_api_Addr vr_2_2 r_2_2 :: Ow.box b_2 24 #[.bool r_0_2, vr_2, vr_2_2] :: Ow.box b_1 24 #[.bool s_Exclude, vs_On, vs_Off] :: fr) h_13 := hS
    replace hK := hK.trans hk
    replace hL_s_On := hL_s_On.kp hk
    replace hL_s_Off := hL_s_Off.kp hk
    replace hL_l := hL_l.kp hk
    refine HO.nil (thenQ_normal (?_))
    refine HW.ret (?_)
    refine ⟨.inr rfl, .agg #[.bool r_0_2, vr_2, vr_2_2], res1 rfl (rca (cs := [.bool r_0_2, vr_2, vr_2_2]) ta_24 rfl rfl (Blk.cells (k := 3) (hS.box 5 rfl) rfl)), ?_⟩
    replace hS : St F_4 (Ow.own 34 17 e_api_Addr vr_2 r_2 :: Ow.own 34 17 e_api_Addr vr_2_2 r_2_2 :: fr) h_13 := hS.perm2 [1, 4] 7 rfl rfl
    exact ⟨F_4, r_0_2, r_2, r_2_2, vr_2, vr_2_2, rfl, hK, hS, hL_s_On, hL_s_Off, hL_l, hM⟩

def filter_Turn_W (s_Exclude : Bool) (s_On : List T_api_Addr) (s_Off : List T_api_Addr) (Q : Bool → (List T_api_Addr) → (List T_api_Addr) → Prop) : Prop :=
  slices_Clone_s_api_Addr_api_Addr_W s_On (fun r_1 => Q false r_1 [])
set_option maxHeartbeats 40000000 in
set_option maxRecDepth 100000 in
theorem filter_Turn_walk {F : Fz} {fr : List Ow} {h0 : Heap} (s_Exclude : Bool) (s_On : List T_api_Addr) (s_Off : List T_api_Addr) (vs_On : Value) (vs_Off : Value) (hS : St F (fr) h0) (hL_s_On : SliceF F h0 17 e_api_Addr vs_On s_On) (hL_s_Off : SliceF F h0 17 e_api_Addr vs_Off s_Off) {Q : Bool → (List T_api_Addr) → (List T_api_Addr) → Prop} (hM : filter_Turn_W s_Exclude s_On s_Off Q) :
    HC Try.prog 20 #[.agg #[.bool s_Exclude, vs_On, vs_Off]] h0 fun u h' => ∃ (F' : Fz) (r_0_1 : Bool) (r_1_1 : List T_api_Addr) (r_2_1 : List T_api_Addr) (vr_1_1 : Value) (vr_2_1 : Value), u = .agg #[.bool r_0_1, vr_1_1, vr_2_1] ∧ Kp F h0 F' h' ∧ St F' (Ow.own 34 17 e_api_Addr vr_1_1 r_1_1 :: Ow.own 34 17 e_api_Addr vr_2_1 r_2_1 :: fr) h' ∧ (SliceF F' h' 17 e_api_Addr vs_On s_On) ∧ (SliceF F' h' 17 e_api_Addr vs_Off s_Off) ∧ Q r_0_1 r_1_1 r_2_1 := by
  unfold filter_Turn_W at hM
  have hK := Kp.refl F h0
  refine HC.of_HW (n := 7) Try.func20 rfl rfl (Nat.le_of_ble_eq_true rfl) ?_
  refine HW.seq ?_
  refine HW.region ?_
  refine HO.eff (want_none) rfl (st_box (c := #[.bool s_Exclude, vs_On, vs_Off]) (k' := 3) hS rfl rfl) ?_
  rintro _ h_1 ⟨b_1, rfl, hS, hk⟩
  replace hK := hK.trans hk
  replace hL_s_On := hL_s_On.kp hk
  replace hL_s_Off := hL_s_Off.kp hk
  refine HO.eff (want_none) rfl (st_alloc (c := #[.bool false, .slice none 0 0, .slice none 0 0]) hS tz_24 rfl) ?_
  rintro _ h_2 ⟨b_2, rfl, hS, hk⟩
  replace hK := hK.trans hk
  replace hL_s_On := hL_s_On.kp hk
  replace hL_s_Off := hL_s_Off.kp hk
  refine HO.nil (thenQ_normal (?_))
  refine HW.seq ?_
  refine HW.region ?_
  refine HO.val (v := .pointer (some ⟨b_1, 1, none⟩)) (want_none) rfl (q_fieldAddr fa_24_1 rfl rfl) ?_
  refine HO.val (v := vs_On) (want_none) rfl (q_load to_22 rfl (Blk.cell (hS.box 1 rfl) rfl)) ?_
  refine HO.call (want_none) rfl (ec en_41 rfl rfl) (slices_Clone_s_api_Addr_api_Addr_walk (fr := (Ow.box b_2 24 #[.bool false, .slice none 0 0, .slice none 0 0] :: Ow.box b_1 24 #[.bool s_Exclude, vs_On, vs_Off] :: fr)) s_On vs_On hS hL_s_On hM) ?_
  rintro vr_1 h_3 ⟨F_1, r_1, _, rfl, hk, hS, _, hM⟩
  replace hK := hK.trans hk
  replace hL_s_On := hL_s_On.kp hk
  replace hL_s_Off := hL_s_Off.kp hk
  refine HO.val (v := .agg #[.bool false, vr_1, .slice none 0 0]) (want_none) rfl (q_build tp_24 (fill_cons (cs' := #[.bool false, vr_1, .slice none 0 0]) (vc := #[vr_1]) rfl (shp (hS.own 0 rfl).slice).cells rfl (Nat.le_of_ble_eq_true rfl) rfl rfl)) ?_
  refine HO.sto (want_none) rfl (st_storeAgg (c' := #[.bool false, vr_1, .slice none 0 0]) hS (i := 1) rfl ta_24 rfl rfl rfl (List.forall_mem_cons.2 ⟨rfl, (List.forall_mem_cons.2 ⟨(shp (hS.own 0 rfl).slice).one, (List.forall_mem_cons.2 ⟨rfl, (fun _ h => by cases h)⟩)⟩)⟩) (Nat.le_of_ble_eq_true rfl) rfl) ?_
  rintro h_4 ⟨hS, hk⟩
  replace hS : St F_1 (Ow.own 34 17 e_api_Addr vr_1 r_1 :: Ow.box b_2 24 #[.bool false, vr_1, .slice none 0 0] :: Ow.box b_1 24 #[.bool s_Exclude, vs_On, vs_Off] :: fr) h_4 := hS
  replace hK := hK.trans hk
  replace hL_s_On := hL_s_On.kp hk
  replace hL_s_Off := hL_s_Off.kp hk
  refine HO.nil (thenQ_normal (?_))
  refine HW.ret (?_)
  refine ⟨.inr rfl, .agg #[.bool false, vr_1, .slice none 0 0], res1 rfl (rca (cs := [.bool false, vr_1, .slice none 0 0]) ta_24 rfl rfl (Blk.cells (k := 3) (hS.box 1 rfl) rfl)), ?_⟩
  replace hS := hS.nilOwn 34 17 e_api_Addr
  replace hS : St F_1 (Ow.own 34 17 e_api_Addr vr_1 r_1 :: Ow.own 34 17 e_api_Addr (.slice none 0 0) ([] : List T_api_Addr) :: fr) h_4 := hS.perm2 [1, 0] 4 rfl rfl
  exact ⟨F_1, false, r_1, [], vr_1, .slice none 0 0, rfl, hK, hS, hL_s_On, hL_s_Off, hM⟩

def ref11_Has_l1 (l : List T_api_Addr) (a : T_api_Addr) (Q : Bool → Prop) (K_1 : Int → Prop) (i_1 : Int) : Prop :=
  (i_1 < (l.length : Int) → ((0 : Int) ≤ i_1 ∧ i_1 < (l.length : Int)) ∧ ((((gi l i_1) : T_api_Addr) = a → Q true) ∧ (¬ (((gi l i_1) : T_api_Addr) = a) → (I64 (i_1 + 1)) ∧ (K_1 (i_1 + 1))))) ∧ (¬ (i_1 < (l.length : Int)) → Q false)
def ref11_Has_W (l : List T_api_Addr) (a : T_api_Addr) (Q : Bool → Prop) : Prop :=
  loopW (fun (K_1 : Int → Prop) (s : Int) => ref11_Has_l1 l a Q K_1 s) 0
set_option maxHeartbeats 40000000 in
set_option maxRecDepth 100000 in
theorem ref11_Has_walk {F : Fz} {fr : List Ow} {h0 : Heap} (l : List T_api_Addr) (a : T_api_Addr) (vl : Value) (hS : St F (fr) h0) (hL_l : SliceF F h0 17 e_api_Addr vl l) {Q : Bool → Prop} (hM : ref11_Has_W l a Q) :
    HC Try.prog 13 #[vl, .agg (e_api_Addr a).toArray] h0 fun u h' => ∃ (F' : Fz) (r_1 : Bool), u = .bool r_1 ∧ Kp F h0 F' h' ∧ St F' (fr) h' ∧ (SliceF F' h' 17 e_api_Addr vl l) ∧ Q r_1 := by
  unfold ref11_Has_W at hM
  have hK := Kp.refl F h0
  refine HC.of_HW (n := 18) Try.func13 rfl rfl (Nat.le_of_ble_eq_true rfl) ?_
  refine HW.seq ?_
  refine HW.region ?_
  refine HO.eff (want_none) rfl (st_box (c := (e_api_Addr a).toArray) (k' := 17) hS rfl rfl) ?_
  rintro _ h_1 ⟨b_1, rfl, hS, hk⟩
  replace hK := hK.trans hk
  replace hL_l := hL_l.kp hk
  refine HO.val (v := .bool false) (want_none) rfl (q_assign rfl) ?_
  refine HO.nil (thenQ_normal (?_))
  refine HW.seq ?_
  refine HW.seq ?_
  refine HW.region ?_
  refine HO.val (v := .int .i64 0) (want_none) rfl (q_assign rfl) ?_
  refine HO.nil (thenQ_normal (?_))
  refine HW.block ?_
  obtain ⟨I_1, m_1, hI_1, hR_1⟩ := hM
  refine HW.loop (S := Int) (fun i_1 f h => ∃ (F' : Fz), f 0 = vl ∧ f 3 = .pointer (some ⟨b_1, 0, none⟩) ∧ f 4 = .bool false ∧ f 5 = .int .i64 i_1 ∧ Kp F h0 F' h ∧ St F' (Ow.box b_1 34 (e_api_Addr a).toArray :: fr) h ∧ (SliceF F' h 17 e_api_Addr vl l) ∧ I_1 i_1) m_1 0 ⟨F, rfl, rfl, rfl, rfl, hK, hS, hL_l, hI_1⟩ ?_
  rintro i_1 f_1 h_2 ⟨F_1, e0, e3, e4, e5, hK, hS, hL_l, hI0⟩
  obtain ⟨K_1, hKe_1⟩ : ∃ K : Int → Prop, K = fun i_1' => I_1 i_1' ∧ m_1 i_1' < m_1 i_1 := ⟨_, rfl⟩
  have hM : ref11_Has_l1 l a Q K_1 i_1 := by rw [hKe_1]; exact hR_1 i_1 hI0
  unfold ref11_Has_l1 at hM
  refine HW.fr [(0, vl), (3, .pointer (some ⟨b_1, 0, none⟩)), (4, .bool false), (5, .int .i64 i_1)] ⟨e0, e3, e4, e5, trivial⟩ ?_
  refine HW.seq ?_
  refine HW.seq ?_
  refine HW.region ?_
  refine HO.val (v := .int .i64 i_1) (want_none) rfl (q_move rfl) ?_
  refine HO.val (v := vl) (want_none) rfl (q_move rfl) ?_
  refine HO.val (v := .int .i64 (l.length : Int)) (want_none) rfl (q_len ts_22 (shp hL_l.is) rfl rfl) ?_
  refine HO.val (v := .bool (decide (i_1 < (l.length : Int)))) (want_none) rfl (q_lss rfl rfl) ?_
  refine HO.nil (thenQ_normal (?_))
  refine HW.cond (decide (i_1 < (l.length : Int))) rfl (fun c_1 => ?_) (fun c_1 => ?_)
  · replace hM := hM.1 (of_decide_eq_true c_1)
    refine HW.skip (thenQ_normal (?_))
    refine HW.seq ?_
    refine HW.block ?_
    refine HW.seq ?_
    refine HW.regionA 6 mixed (fun h => (SliceIs h 17 e_api_Addr vl l) ∧ (Blk h b_1 (.cells (e_api_Addr a).toArray 34 (0, 0)))) [] (by kernel_rfl) ?_
    refine HA.val (k := 0) (v := vl) rfl rfl (by kernel_rfl) (by kernel_rfl) (want_none) rfl (fun _ ⟨hL_l, c302⟩ => q_move rfl) ?_
    refine HA.val (k := 1) (v := .int .i64 i_1) rfl rfl (by kernel_rfl) (by kernel_rfl) (want_none) rfl (fun _ ⟨hL_l, c302⟩ => q_move rfl) ?_
    obtain ⟨ho_1, hM⟩ := hM
    refine HA.val (k := 2) (v := elemPtr 17 vl (i_1).toNat) rfl rfl (by kernel_rfl) (by kernel_rfl) (want_none) rfl (fun _ ⟨hL_l, c302⟩ => q_idx ts_22 hL_l rfl rfl ho_1) ?_
    refine HA.val (k := 3) (v := .agg (e_api_Addr (gi l i_1)).toArray) rfl rfl (by kernel_rfl) (by kernel_rfl) (want_none) rfl (fun _ ⟨hL_l, c302⟩ => q_ldElemAgg (cs := (e_api_Addr (gi l i_1))) ta_34 hL_l rfl ho_1 rfl) ?_
    refine HA.val (k := 4) (v := .agg (e_api_Addr a).toArray) rfl rfl (by kernel_rfl) (by kernel_rfl) (want_none) rfl (fun _ ⟨hL_l, c302⟩ => q_loadAgg (cs := (e_api_Addr a)) ta_34 rfl rfl (Blk.cells (k := 17) c302 rfl)) ?_
    refine HA.val (k := 5) (v := .bool (decide (((gi l i_1) : T_api_Addr) = a))) rfl rfl (by kernel_rfl) (by kernel_rfl) (want_none) rfl (fun _ ⟨hL_l, c302⟩ => q_eqlAgg (a := (gi l i_1)) (b := a) (fun a b w => teq_34 9997 a b w) (by kernel_rfl) rfl rfl rfl rfl) ?_
    refine HA.nil ⟨⟨hL_l.is, (hS.box 0 rfl)⟩, (Go.Wk.at_nil _ _)⟩ (by kernel_rfl) (thenQ_normal (?_))
    refine HW.cond (decide (((gi l i_1) : T_api_Addr) = a)) rfl (fun c_2 => ?_) (fun c_2 => ?_)
    · replace hM := hM.1 (of_decide_eq_true c_2)
      refine HW.seq ?_
      refine HW.region ?_
      refine HO.val (v := .bool true) (want_none) rfl (q_assign rfl) ?_
      refine HO.nil (thenQ_normal (?_))
      refine HW.ret (blockQ_ret (thenQ_ret (thenQ_ret (blockQ_ret (thenQ_ret (?_))))))
      refine ⟨.inr rfl, .bool true, res1 rfl (rt rfl), ?_⟩
      replace hS : St F_1 (fr) h_2 := hS.perm2 [] 1 rfl rfl
      exact ⟨F_1, true, rfl, hK, hS, hL_l, hM⟩
    · replace hM := hM.2 (of_decide_eq_false c_2)
      refine HW.skip (blockQ_normal (thenQ_normal (?_)))
      refine HW.region ?_
      refine HO.val (v := .int .i64 i_1) (want_none) rfl (q_move rfl) ?_
      obtain ⟨ho_2, hM⟩ := hM
      refine HO.val (v := .int .i64 (i_1 + 1)) (want_none) rfl (q_addN _ rfl rfl rfl ho_2.1 ho_2.2) ?_
      refine HO.val (v := .int .i64 (i_1 + 1)) (want_none) rfl (q_assign rfl) ?_
      refine HO.nil (thenQ_normal (?_))
      rw [hKe_1] at hM
      exact ⟨i_1 + 1, ⟨F_1, rfl, rfl, rfl, rfl, hK, hS, hL_l, hM.1⟩, hM.2⟩
  · replace hM := hM.2 (of_decide_eq_false c_1)
    refine HW.exit (thenQ_exit (thenQ_exit (blockQ_exit (thenQ_normal (?_)))))
    refine HW.seq ?_
    refine HW.region ?_
    refine HO.val (v := .bool false) (want_none) rfl (q_assign rfl) ?_
    refine HO.nil (thenQ_normal (?_))
    refine HW.ret (?_)
    refine ⟨.inr rfl, .bool false, res1 rfl (rt rfl), ?_⟩
    replace hS : St F_1 (fr) h_2 := hS.perm2 [] 1 rfl rfl
    exact ⟨F_1, false, rfl, hK, hS, hL_l, hM⟩

def ref11_Pick_l1 (a : List T_api_Addr) (b : List T_api_Addr) (in1 : Bool) (Q : (List T_api_Addr) → Prop) (K_1 : (List T_api_Addr) → Int → Prop) (out_1 : List T_api_Addr) (i_1 : Int) : Prop :=
  (i_1 < (a.length : Int) → ((0 : Int) ≤ i_1 ∧ i_1 < (a.length : Int)) ∧ (ref11_Has_W b (gi a i_1) (fun r_2 => ((r_2 == in1) = true → ((out_1.length + ([(gi a i_1)] : List T_api_Addr).length) * 17 ≤ 140737488355328) ∧ ((I64 (i_1 + 1)) ∧ (K_1 (out_1 ++ ([(gi a i_1)] : List T_api_Addr)) (i_1 + 1)))) ∧ ((r_2 == in1) = false → (I64 (i_1 + 1)) ∧ (K_1 out_1 (i_1 + 1)))))) ∧ (¬ (i_1 < (a.length : Int)) → Q out_1)
def ref11_Pick_W (a : List T_api_Addr) (b : List T_api_Addr) (in1 : Bool) (Q : (List T_api_Addr) → Prop) : Prop :=
  loopW (fun (K_1 : (List T_api_Addr × Int) → Prop) (s : List T_api_Addr × Int) => ref11_Pick_l1 a b in1 Q (fun out_1 i_1 => K_1 (out_1, i_1)) s.1 s.2) ([], 0)
set_option maxHeartbeats 40000000 in
set_option maxRecDepth 100000 in
theorem ref11_Pick_walk {F : Fz} {fr : List Ow} {h0 : Heap} (a : List T_api_Addr) (b : List T_api_Addr) (in1 : Bool) (va : Value) (vb : Value) (hS : St F (fr) h0) (hL_a : SliceF F h0 17 e_api_Addr va a) (hL_b : SliceF F h0 17 e_api_Addr vb b) {Q : (List T_api_Addr) → Prop} (hM : ref11_Pick_W a b in1 Q) :
    HC Try.prog 42 #[va, vb, .bool in1] h0 fun u h' => ∃ (F' : Fz) (r_1 : List T_api_Addr) (vr_1 : Value), u = vr_1 ∧ Kp F h0 F' h' ∧ St F' (Ow.own 34 17 e_api_Addr vr_1 r_1 :: fr) h' ∧ (SliceF F' h' 17 e_api_Addr va a) ∧ (SliceF F' h' 17 e_api_Addr vb b) ∧ Q r_1 := by
  unfold ref11_Pick_W at hM
  have hK := Kp.refl F h0
  refine HC.of_HW (n := 32) Try.func42 rfl rfl (Nat.le_of_ble_eq_true rfl) ?_
  refine HW.seq ?_
  refine HW.region ?_
  refine HO.val (v := .slice none 0 0) (want_none) rfl (q_assign rfl) ?_
  refine HO.nil (thenQ_normal (?_))
  refine HW.seq ?_
  refine HW.region ?_
  refine HO.eff (want_none) rfl (st_litEmpty (α := T_api_Addr) e_api_Addr hS tl_22) ?_
  rintro _ h_1 ⟨b_1, rfl, hS, hk⟩
  replace hK := hK.trans hk
  replace hL_a := hL_a.kp hk
  replace hL_b := hL_b.kp hk
  refine HO.val (v := .slice (some ⟨b_1, 0, none⟩) 0 0) (want_none) rfl (q_assign rfl) ?_
  refine HO.nil (thenQ_normal (?_))
  refine HW.seq ?_
  refine HW.seq ?_
  refine HW.region ?_
  refine HO.val (v := .int .i64 0) (want_none) rfl (q_assign rfl) ?_
  refine HO.nil (thenQ_normal (?_))
  refine HW.block ?_
  obtain ⟨I_1, m_1, hI_1, hR_1⟩ := hM
  refine HW.loop (S := List T_api_Addr × Int) (fun s f h => match s with | (out_1, i_1) => ∃ (F' : Fz) (vout_1 : Value), f 0 = va ∧ f 1 = vb ∧ f 2 = .bool in1 ∧ f 6 = .slice none 0 0 ∧ f 7 = vout_1 ∧ f 8 = .int .i64 i_1 ∧ Kp F h0 F' h ∧ St F' (Ow.own 34 17 e_api_Addr vout_1 out_1 :: fr) h ∧ (SliceF F' h 17 e_api_Addr va a) ∧ (SliceF F' h 17 e_api_Addr vb b) ∧ I_1 (out_1, i_1)) m_1 ([], 0) ⟨F, .slice (some ⟨b_1, 0, none⟩) 0 0, rfl, rfl, rfl, rfl, rfl, rfl, hK, hS, hL_a, hL_b, hI_1⟩ ?_
  rintro ⟨out_1, i_1⟩ f_1 h_2 ⟨F_1, vout_1, e0, e1, e2, e6, e7, e8, hK, hS, hL_a, hL_b, hI0⟩
  obtain ⟨K_1, hKe_1⟩ : ∃ K : (List T_api_Addr) → Int → Prop, K = fun out_1' i_1' => I_1 (out_1', i_1') ∧ m_1 (out_1', i_1') < m_1 (out_1, i_1) := ⟨_, rfl⟩
  have hM : ref11_Pick_l1 a b in1 Q K_1 out_1 i_1 := by rw [hKe_1]; exact hR_1 (out_1, i_1) hI0
  unfold ref11_Pick_l1 at hM
  refine HW.fr [(0, va), (1, vb), (2, .bool in1), (6, .slice none 0 0), (7, vout_1), (8, .int .i64 i_1)] ⟨e0, e1, e2, e6, e7, e8, trivial⟩ ?_
  refine HW.seq ?_
  refine HW.seq ?_
  refine HW.region ?_
  refine HO.val (v := .int .i64 i_1) (want_none) rfl (q_move rfl) ?_
  refine HO.val (v := va) (want_none) rfl (q_move rfl) ?_
  refine HO.val (v := .int .i64 (a.length : Int)) (want_none) rfl (q_len ts_22 (shp hL_a.is) rfl rfl) ?_
  refine HO.val (v := .bool (decide (i_1 < (a.length : Int)))) (want_none) rfl (q_lss rfl rfl) ?_
  refine HO.nil (thenQ_normal (?_))
  refine HW.cond (decide (i_1 < (a.length : Int))) rfl (fun c_1 => ?_) (fun c_1 => ?_)
  · replace hM := hM.1 (of_decide_eq_true c_1)
    refine HW.skip (thenQ_normal (?_))
    refine HW.seq ?_
    refine HW.block ?_
    refine HW.seq ?_
    refine HW.region ?_
    refine HO.val (v := vb) (want_none) rfl (q_move rfl) ?_
    refine HO.val (v := va) (want_none) rfl (q_move rfl) ?_
    refine HO.val (v := .int .i64 i_1) (want_none) rfl (q_move rfl) ?_
    obtain ⟨ho_1, hM⟩ := hM
    refine HO.val (v := elemPtr 17 va (i_1).toNat) (want_none) rfl (q_idx ts_22 hL_a.is rfl rfl ho_1) ?_
    refine HO.val (v := .agg (e_api_Addr (gi a i_1)).toArray) (want_none) rfl (q_ldElemAgg (cs := (e_api_Addr (gi a i_1))) ta_34 hL_a.is rfl ho_1 rfl) ?_
    refine HO.call (want_none) rfl (ec en_13 rfl rfl) (ref11_Has_walk (fr := (Ow.own 34 17 e_api_Addr vout_1 out_1 :: fr)) b (gi a i_1) vb hS hL_b hM) ?_
    rintro _ h_3 ⟨F_2, r_2, rfl, hk, hS, _, hM⟩
    replace hK := hK.trans hk
    replace hL_a := hL_a.kp hk
    replace hL_b := hL_b.kp hk
    refine HO.val (v := .bool in1) (want_none) rfl (q_move rfl) ?_
    refine HO.val (v := .bool (r_2 == in1)) (want_none) rfl (q_eqlB Try.underlying4 rfl rfl) ?_
    refine HO.nil (thenQ_normal (?_))
    refine HW.cond (r_2 == in1) rfl (fun c_2 => ?_) (fun c_2 => ?_)
    · replace hM := hM.1 c_2
      refine HW.region ?_
      refine HO.val (v := vout_1) (want_none) rfl (q_move rfl) ?_
      refine HO.val (v := va) (want_none) rfl (q_move rfl) ?_
      refine HO.val (v := .int .i64 i_1) (want_none) rfl (q_move rfl) ?_
      refine HO.val (v := elemPtr 17 va (i_1).toNat) (want_none) rfl (q_idx ts_22 hL_a.is rfl rfl ho_1) ?_
      refine HO.val (v := .agg (e_api_Addr (gi a i_1)).toArray) (want_none) rfl (q_ldElemAgg (cs := (e_api_Addr (gi a i_1))) ta_34 hL_a.is rfl ho_1 rfl) ?_
      refine HO.eff (want_none) rfl (st_lit (enc := e_api_Addr) (cells := #[.bool ((gi a i_1).1), .int .u8 (b8 ((gi a i_1).2) 0), .int .u8 (b8 ((gi a i_1).2) 1), .int .u8 (b8 ((gi a i_1).2) 2), .int .u8 (b8 ((gi a i_1).2) 3), .int .u8 (b8 ((gi a i_1).2) 4), .int .u8 (b8 ((gi a i_1).2) 5), .int .u8 (b8 ((gi a i_1).2) 6), .int .u8 (b8 ((gi a i_1).2) 7), .int .u8 (b8 ((gi a i_1).2) 8), .int .u8 (b8 ((gi a i_1).2) 9), .int .u8 (b8 ((gi a i_1).2) 10), .int .u8 (b8 ((gi a i_1).2) 11), .int .u8 (b8 ((gi a i_1).2) 12), .int .u8 (b8 ((gi a i_1).2) 13), .int .u8 (b8 ((gi a i_1).2) 14), .int .u8 (b8 ((gi a i_1).2) 15)]) #[.bool false, .int .u8 0, .int .u8 0, .int .u8 0, .int .u8 0, .int .u8 0, .int .u8 0, .int .u8 0, .int .u8 0, .int .u8 0, .int .u8 0, .int .u8 0, .int .u8 0, .int .u8 0, .int .u8 0, .int .u8 0, .int .u8 0] ([(gi a i_1)] : List T_api_Addr) hS tl_22 (by decide) (by decide) (by kernel_rfl) (by kernel_rfl) rfl (by intro x hx; rfl) rfl) ?_
      rintro _ h_4 ⟨b_2, rfl, hS, hk⟩
      replace hK := hK.trans hk
      replace hL_a := hL_a.kp hk
      replace hL_b := hL_b.kp hk
      obtain ⟨ho_2, hM⟩ := hM
      refine HO.eff (want_none) rfl (st_append te_22 hS (i := 1) rfl (hS.own 0 rfl).slice rfl rfl rfl (by intro a _ u hu; simp [e_api_Addr, encI, encN, encB, encT] at hu; rcases hu with rfl | rfl | rfl | rfl | rfl | rfl | rfl | rfl | rfl | rfl | rfl | rfl | rfl | rfl | rfl | rfl | rfl <;> rfl) ho_2 (by omega)) ?_
      rintro v_1 h_5 ⟨hS, hk⟩
      replace hS : St F_2 (Ow.own 34 17 e_api_Addr (.slice (some ⟨b_2, 0, none⟩) 1 1) ([(gi a i_1)] : List T_api_Addr) :: Ow.own 34 17 e_api_Addr v_1 (out_1 ++ ([(gi a i_1)] : List T_api_Addr)) :: fr) h_5 := hS
      replace hK := hK.trans hk
      replace hL_a := hL_a.kp hk
      replace hL_b := hL_b.kp hk
      refine HO.val (v := v_1) (want_none) rfl (q_assign rfl) ?_
      refine HO.nil (blockQ_normal (thenQ_normal (?_)))
      refine HW.region ?_
      refine HO.val (v := .int .i64 i_1) (want_none) rfl (q_move rfl) ?_
      obtain ⟨ho_3, hM⟩ := hM
      refine HO.val (v := .int .i64 (i_1 + 1)) (want_none) rfl (q_addN _ rfl rfl rfl ho_3.1 ho_3.2) ?_
      refine HO.val (v := .int .i64 (i_1 + 1)) (want_none) rfl (q_assign rfl) ?_
      refine HO.nil (thenQ_normal (?_))
      replace hS : St F_2 (Ow.own 34 17 e_api_Addr v_1 (out_1 ++ ([(gi a i_1)] : List T_api_Addr)) :: fr) h_5 := hS.perm2 [1] 2 rfl rfl
      rw [hKe_1] at hM
      exact ⟨(out_1 ++ ([(gi a i_1)] : List T_api_Addr), i_1 + 1), ⟨F_2, v_1, rfl, rfl, rfl, rfl, rfl, rfl, hK, hS, hL_a, hL_b, hM.1⟩, hM.2⟩
    · replace hM := hM.2 c_2
      refine HW.skip (blockQ_normal (thenQ_normal (?_)))
      refine HW.region ?_
      refine HO.val (v := .int .i64 i_1) (want_none) rfl (q_move rfl) ?_
      obtain ⟨ho_4, hM⟩ := hM
      refine HO.val (v := .int .i64 (i_1 + 1)) (want_none) rfl (q_addN _ rfl rfl rfl ho_4.1 ho_4.2) ?_
      refine HO.val (v := .int .i64 (i_1 + 1)) (want_none) rfl (q_assign rfl) ?_
      refine HO.nil (thenQ_normal (?_))
      rw [hKe_1] at hM
      exact ⟨(out_1, i_1 + 1), ⟨F_2, vout_1, rfl, rfl, rfl, rfl, rfl, rfl, hK, hS, hL_a, hL_b, hM.1⟩, hM.2⟩
  · replace hM := hM.2 (of_decide_eq_false c_1)
    refine HW.exit (thenQ_exit (thenQ_exit (blockQ_exit (thenQ_normal (?_)))))
    refine HW.seq ?_
    refine HW.region ?_
    refine HO.val (v := vout_1) (want_none) rfl (q_move rfl) ?_
    refine HO.val (v := vout_1) (want_none) rfl (q_assign rfl) ?_
    refine HO.nil (thenQ_normal (?_))
    refine HW.ret (?_)
    refine ⟨.inr rfl, vout_1, res1 rfl (rt rfl), ?_⟩
    exact ⟨F_1, out_1, vout_1, rfl, hK, hS, hL_a, hL_b, hM⟩

def ref03_Good_l1 (a : T_api_Addr) (Q : Bool → Prop) (K_1 : Int → Prop) (i_1 : Int) : Prop :=
  (i_1 < 16 → ((!a.1) = true → ((0 : Int) ≤ i_1 ∧ i_1 < 16) ∧ ((¬ ((b8 a.2 i_1) = 0) → Q false) ∧ ((b8 a.2 i_1) = 0 → (I64 (i_1 + 1)) ∧ (K_1 (i_1 + 1))))) ∧ ((!a.1) = false → (I64 (i_1 + 1)) ∧ (K_1 (i_1 + 1)))) ∧ (¬ (i_1 < 16) → Q true)
def ref03_Good_W (a : T_api_Addr) (Q : Bool → Prop) : Prop :=
  loopW (fun (K_1 : Int → Prop) (s : Int) => ref03_Good_l1 a Q K_1 s) 4
set_option maxHeartbeats 40000000 in
set_option maxRecDepth 100000 in
theorem ref03_Good_walk {F : Fz} {fr : List Ow} {h0 : Heap} (a : T_api_Addr) (hS : St F (fr) h0)  {Q : Bool → Prop} (hM : ref03_Good_W a Q) :
    HC Try.prog 44 #[.agg (e_api_Addr a).toArray] h0 fun u h' => ∃ (F' : Fz) (r_1 : Bool), u = .bool r_1 ∧ Kp F h0 F' h' ∧ St F' (fr) h' ∧ Q r_1 := by
  unfold ref03_Good_W at hM
  have hK := Kp.refl F h0
  refine HC.of_HW (n := 18) Try.func44 rfl rfl (Nat.le_of_ble_eq_true rfl) ?_
  refine HW.seq ?_
  refine HW.region ?_
  refine HO.eff (want_none) rfl (st_box (c := (e_api_Addr a).toArray) (k' := 17) hS rfl rfl) ?_
  rintro _ h_1 ⟨b_1, rfl, hS, hk⟩
  replace hK := hK.trans hk
  refine HO.val (v := .bool false) (want_none) rfl (q_assign rfl) ?_
  refine HO.nil (thenQ_normal (?_))
  refine HW.seq ?_
  refine HW.seq ?_
  refine HW.region ?_
  refine HO.val (v := .int .i64 4) (want_none) rfl (q_assign rfl) ?_
  refine HO.nil (thenQ_normal (?_))
  refine HW.block ?_
  obtain ⟨I_1, m_1, hI_1, hR_1⟩ := hM
  refine HW.loop (S := Int) (fun i_1 f h => ∃ (F' : Fz), f 1 = .pointer (some ⟨b_1, 0, none⟩) ∧ f 2 = .bool false ∧ f 3 = .int .i64 i_1 ∧ Kp F h0 F' h ∧ St F' (Ow.box b_1 34 (e_api_Addr a).toArray :: fr) h ∧ I_1 i_1) m_1 4 ⟨F, rfl, rfl, rfl, hK, hS, hI_1⟩ ?_
  rintro i_1 f_1 h_2 ⟨F_1, e1, e2, e3, hK, hS, hI0⟩
  obtain ⟨K_1, hKe_1⟩ : ∃ K : Int → Prop, K = fun i_1' => I_1 i_1' ∧ m_1 i_1' < m_1 i_1 := ⟨_, rfl⟩
  have hM : ref03_Good_l1 a Q K_1 i_1 := by rw [hKe_1]; exact hR_1 i_1 hI0
  unfold ref03_Good_l1 at hM
  refine HW.fr [(1, .pointer (some ⟨b_1, 0, none⟩)), (2, .bool false), (3, .int .i64 i_1)] ⟨e1, e2, e3, trivial⟩ ?_
  refine HW.seq ?_
  refine HW.seq ?_
  refine HW.region ?_
  refine HO.val (v := .int .i64 i_1) (want_none) rfl (q_move rfl) ?_
  refine HO.val (v := .bool (decide (i_1 < 16))) (want_none) rfl (q_lss rfl rfl) ?_
  refine HO.nil (thenQ_normal (?_))
  refine HW.cond (decide (i_1 < 16)) rfl (fun c_1 => ?_) (fun c_1 => ?_)
  · replace hM := hM.1 (of_decide_eq_true c_1)
    refine HW.skip (thenQ_normal (?_))
    refine HW.seq ?_
    refine HW.block ?_
    refine HW.seq ?_
    refine HW.region ?_
    refine HO.val (v := .pointer (some ⟨b_1, 0, none⟩)) (want_none) rfl (q_fieldAddr fa_34_0 rfl rfl) ?_
    refine HO.val (v := .bool a.1) (want_none) rfl (q_load to_4 rfl (Blk.cell (hS.box 0 rfl) rfl)) ?_
    refine HO.val (v := .bool (!a.1)) (want_none) rfl (q_not rfl) ?_
    refine HO.val (v := .bool (!a.1)) (want_none) rfl (q_move rfl) ?_
    rcases Bool.eq_false_or_eq_true (!a.1) with c_2 | c_2
    · replace hM := hM.1 c_2
      refine HO.val (v := .int .i64 i_1) (want_by rfl rfl c_2) rfl (q_move rfl) ?_
      refine HO.val (v := .pointer (some ⟨b_1, 1, none⟩)) (want_by rfl rfl c_2) rfl (q_fieldAddr fa_34_1 rfl rfl) ?_
      obtain ⟨ho_1, hM⟩ := hM
      refine HO.val (v := .pointer (some ⟨b_1, 1 + (i_1).toNat, none⟩)) (want_by rfl rfl c_2) rfl (q_idxA (o := 1) (t := i_1) tr_32 rfl rfl ho_1) ?_
      refine HO.val (v := .int .u8 (b8 a.2 i_1)) (want_by rfl rfl c_2) rfl (q_ldArr (o := 1) (t := i_1) (X := a.2) to_5 rfl (hS.box 0 rfl) rfl ho_1) ?_
      refine HO.val (v := .bool (!decide ((b8 a.2 i_1) = 0))) (want_by rfl rfl c_2) rfl (q_neq rfl rfl) ?_
      refine HO.val (v := .bool (!decide ((b8 a.2 i_1) = 0))) (want_none) rfl (q_pickK true rfl c_2 rfl) ?_
      refine HO.nil (thenQ_normal (?_))
      refine HW.cond (!decide ((b8 a.2 i_1) = 0)) rfl (fun c_3 => ?_) (fun c_3 => ?_)
      · replace hM := hM.1 (nd_true c_3)
        refine HW.seq ?_
        refine HW.region ?_
        refine HO.val (v := .bool false) (want_none) rfl (q_assign rfl) ?_
        refine HO.nil (thenQ_normal (?_))
        refine HW.ret (blockQ_ret (thenQ_ret (thenQ_ret (blockQ_ret (thenQ_ret (?_))))))
        refine ⟨.inr rfl, .bool false, res1 rfl (rt rfl), ?_⟩
        replace hS : St F_1 (fr) h_2 := hS.perm2 [] 1 rfl rfl
        exact ⟨F_1, false, rfl, hK, hS, hM⟩
      · replace hM := hM.2 (nd_false c_3)
        refine HW.skip (blockQ_normal (thenQ_normal (?_)))
        refine HW.region ?_
        refine HO.val (v := .int .i64 i_1) (want_none) rfl (q_move rfl) ?_
        obtain ⟨ho_2, hM⟩ := hM
        refine HO.val (v := .int .i64 (i_1 + 1)) (want_none) rfl (q_addN _ rfl rfl rfl ho_2.1 ho_2.2) ?_
        refine HO.val (v := .int .i64 (i_1 + 1)) (want_none) rfl (q_assign rfl) ?_
        refine HO.nil (thenQ_normal (?_))
        rw [hKe_1] at hM
        exact ⟨i_1 + 1, ⟨F_1, rfl, rfl, rfl, hK, hS, hM.1⟩, hM.2⟩
    · replace hM := hM.2 c_2
      refine HO.past (past_by rfl rfl c_2) rfl ?_
      refine HO.past (past_by rfl rfl c_2) rfl ?_
      refine HO.past (past_by rfl rfl c_2) rfl ?_
      refine HO.past (past_by rfl rfl c_2) rfl ?_
      refine HO.past (past_by rfl rfl c_2) rfl ?_
      refine HO.val (v := .bool false) (want_none) rfl (q_pickK false rfl c_2 rfl) ?_
      refine HO.nil (thenQ_normal (?_))
      refine HW.condF rfl ?_
      refine HW.skip (blockQ_normal (thenQ_normal (?_)))
      refine HW.region ?_
      refine HO.val (v := .int .i64 i_1) (want_none) rfl (q_move rfl) ?_
      obtain ⟨ho_3, hM⟩ := hM
      refine HO.val (v := .int .i64 (i_1 + 1)) (want_none) rfl (q_addN _ rfl rfl rfl ho_3.1 ho_3.2) ?_
      refine HO.val (v := .int .i64 (i_1 + 1)) (want_none) rfl (q_assign rfl) ?_
      refine HO.nil (thenQ_normal (?_))
      rw [hKe_1] at hM
      exact ⟨i_1 + 1, ⟨F_1, rfl, rfl, rfl, hK, hS, hM.1⟩, hM.2⟩
  · replace hM := hM.2 (of_decide_eq_false c_1)
    refine HW.exit (thenQ_exit (thenQ_exit (blockQ_exit (thenQ_normal (?_)))))
    refine HW.seq ?_
    refine HW.region ?_
    refine HO.val (v := .bool true) (want_none) rfl (q_assign rfl) ?_
    refine HO.nil (thenQ_normal (?_))
    refine HW.ret (?_)
    refine ⟨.inr rfl, .bool true, res1 rfl (rt rfl), ?_⟩
    replace hS : St F_1 (fr) h_2 := hS.perm2 [] 1 rfl rfl
    exact ⟨F_1, true, rfl, hK, hS, hM⟩

def ref03_Cmp_j1 (a : T_api_Addr) (b : T_api_Addr) (Q : Int → Prop) (i_1 : Int) (K_1 : Int → Prop) : Prop :=
  ((0 : Int) ≤ i_1 ∧ i_1 < 16) ∧ (((b8 a.2 i_1) < (b8 b.2 i_1) → Q (-1)) ∧ (¬ ((b8 a.2 i_1) < (b8 b.2 i_1)) → ((b8 b.2 i_1) < (b8 a.2 i_1) → Q 1) ∧ (¬ ((b8 b.2 i_1) < (b8 a.2 i_1)) → (I64 (i_1 + 1)) ∧ (K_1 (i_1 + 1)))))
def ref03_Cmp_l1 (a : T_api_Addr) (b : T_api_Addr) (Q : Int → Prop) (K_1 : Int → Prop) (i_1 : Int) : Prop :=
  (i_1 < 16 → (a.1 = true → ref03_Cmp_j1 a b Q i_1 K_1) ∧ (a.1 = false → (i_1 < 4 → ref03_Cmp_j1 a b Q i_1 K_1) ∧ (¬ (i_1 < 4) → Q 0))) ∧ (¬ (i_1 < 16) → Q 0)
def ref03_Cmp_W (a : T_api_Addr) (b : T_api_Addr) (Q : Int → Prop) : Prop :=
  ((!(a.1 == b.1)) = true → (b.1 = true → Q (-1)) ∧ (b.1 = false → Q 1)) ∧ ((!(a.1 == b.1)) = false → loopW (fun (K_1 : Int → Prop) (s : Int) => ref03_Cmp_l1 a b Q K_1 s) 0)
set_option maxHeartbeats 40000000 in
set_option maxRecDepth 100000 in
theorem ref03_Cmp_walk {F : Fz} {fr : List Ow} {h0 : Heap} (a : T_api_Addr) (b : T_api_Addr) (hS : St F (fr) h0)  {Q : Int → Prop} (hM : ref03_Cmp_W a b Q) :
    HC Try.prog 45 #[.agg (e_api_Addr a).toArray, .agg (e_api_Addr b).toArray] h0 fun u h' => ∃ (F' : Fz) (r_1 : Int), u = .int .i64 r_1 ∧ Kp F h0 F' h' ∧ St F' (fr) h' ∧ Q r_1 := by
  unfold ref03_Cmp_W at hM
  have hK := Kp.refl F h0
  refine HC.of_HW (n := 43) Try.func45 rfl rfl (Nat.le_of_ble_eq_true rfl) ?_
  refine HW.seq ?_
  refine HW.region ?_
  refine HO.eff (want_none) rfl (st_box (c := (e_api_Addr a).toArray) (k' := 17) hS rfl rfl) ?_
  rintro _ h_1 ⟨b_1, rfl, hS, hk⟩
  replace hK := hK.trans hk
  refine HO.eff (want_none) rfl (st_box (c := (e_api_Addr b).toArray) (k' := 17) hS rfl rfl) ?_
  rintro _ h_2 ⟨b_2, rfl, hS, hk⟩
  replace hK := hK.trans hk
  refine HO.val (v := .int .i64 0) (want_none) rfl (q_assign rfl) ?_
  refine HO.nil (thenQ_normal (?_))
  refine HW.seq ?_
  refine HW.seq ?_
  refine HW.region ?_
  refine HO.val (v := .pointer (some ⟨b_1, 0, none⟩)) (want_none) rfl (q_fieldAddr fa_34_0 rfl rfl) ?_
  refine HO.val (v := .bool a.1) (want_none) rfl (q_load to_4 rfl (Blk.cell (hS.box 1 rfl) rfl)) ?_
  refine HO.val (v := .pointer (some ⟨b_2, 0, none⟩)) (want_none) rfl (q_fieldAddr fa_34_0 rfl rfl) ?_
  refine HO.val (v := .bool b.1) (want_none) rfl (q_load to_4 rfl (Blk.cell (hS.box 0 rfl) rfl)) ?_
  refine HO.val (v := .bool (!(a.1 == b.1))) (want_none) rfl (q_neqB Try.underlying4 rfl rfl) ?_
  refine HO.nil (thenQ_normal (?_))
  refine HW.cond (!(a.1 == b.1)) rfl (fun c_1 => ?_) (fun c_1 => ?_)
  · replace hM := hM.1 c_1
    refine HW.seq ?_
    refine HW.seq ?_
    refine HW.region ?_
    refine HO.val (v := .pointer (some ⟨b_2, 0, none⟩)) (want_none) rfl (q_fieldAddr fa_34_0 rfl rfl) ?_
    refine HO.val (v := .bool b.1) (want_none) rfl (q_load to_4 rfl (Blk.cell (hS.box 0 rfl) rfl)) ?_
    refine HO.nil (thenQ_normal (?_))
    refine HW.cond b.1 rfl (fun c_2 => ?_) (fun c_2 => ?_)
    · replace hM := hM.1 c_2
      refine HW.seq ?_
      refine HW.region ?_
      refine HO.val (v := .int .i64 (-1)) (want_none) rfl (q_assign rfl) ?_
      refine HO.nil (thenQ_normal (?_))
      refine HW.ret (thenQ_ret (thenQ_ret (?_)))
      refine ⟨.inr rfl, .int .i64 (-1), res1 rfl (rt rfl), ?_⟩
      replace hS : St F (fr) h_2 := hS.perm2 [] 2 rfl rfl
      exact ⟨F, (-1), rfl, hK, hS, hM⟩
    · replace hM := hM.2 c_2
      refine HW.skip (thenQ_normal (?_))
      refine HW.seq ?_
      refine HW.region ?_
      refine HO.val (v := .int .i64 1) (want_none) rfl (q_assign rfl) ?_
      refine HO.nil (thenQ_normal (?_))
      refine HW.ret (thenQ_ret (?_))
      refine ⟨.inr rfl, .int .i64 1, res1 rfl (rt rfl), ?_⟩
      replace hS : St F (fr) h_2 := hS.perm2 [] 2 rfl rfl
      exact ⟨F, 1, rfl, hK, hS, hM⟩
  · replace hM := hM.2 c_1
    refine HW.skip (thenQ_normal (?_))
    refine HW.seq ?_
    refine HW.seq ?_
    refine HW.region ?_
    refine HO.val (v := .int .i64 0) (want_none) rfl (q_assign rfl) ?_
    refine HO.nil (thenQ_normal (?_))
    refine HW.block ?_
    obtain ⟨I_1, m_1, hI_1, hR_1⟩ := hM
    replace hS : St F (Ow.box b_1 34 (e_api_Addr a).toArray :: Ow.box b_2 34 (e_api_Addr b).toArray :: fr) h_2 := hS.perm2 [1, 0] 2 rfl rfl
    refine HW.loop (S := Int) (fun i_1 f h => ∃ (F' : Fz), f 2 = .pointer (some ⟨b_1, 0, none⟩) ∧ f 3 = .pointer (some ⟨b_2, 0, none⟩) ∧ f 4 = .int .i64 0 ∧ f 5 = .int .i64 i_1 ∧ Kp F h0 F' h ∧ St F' (Ow.box b_1 34 (e_api_Addr a).toArray :: Ow.box b_2 34 (e_api_Addr b).toArray :: fr) h ∧ I_1 i_1) m_1 0 ⟨F, rfl, rfl, rfl, rfl, hK, hS, hI_1⟩ ?_
    rintro i_1 f_1 h_3 ⟨F_1, e2, e3, e4, e5, hK, hS, hI0⟩
    obtain ⟨K_1, hKe_1⟩ : ∃ K : Int → Prop, K = fun i_1' => I_1 i_1' ∧ m_1 i_1' < m_1 i_1 := ⟨_, rfl⟩
    have hM : ref03_Cmp_l1 a b Q K_1 i_1 := by rw [hKe_1]; exact hR_1 i_1 hI0
    unfold ref03_Cmp_l1 at hM
    refine HW.fr [(2, .pointer (some ⟨b_1, 0, none⟩)), (3, .pointer (some ⟨b_2, 0, none⟩)), (4, .int .i64 0), (5, .int .i64 i_1)] ⟨e2, e3, e4, e5, trivial⟩ ?_
    refine HW.seq_mid (fun f h => ∃ (F' : Fz), f 2 = .pointer (some ⟨b_1, 0, none⟩) ∧ f 3 = .pointer (some ⟨b_2, 0, none⟩) ∧ f 4 = .int .i64 0 ∧ f 5 = .int .i64 i_1 ∧ Kp F h0 F' h ∧ St F' (Ow.box b_1 34 (e_api_Addr a).toArray :: Ow.box b_2 34 (e_api_Addr b).toArray :: fr) h ∧ ref03_Cmp_j1 a b Q i_1 K_1) ?_ ?_
    · refine HW.seq ?_
      refine HW.region ?_
      refine HO.val (v := .int .i64 i_1) (want_none) rfl (q_move rfl) ?_
      refine HO.val (v := .bool (decide (i_1 < 16))) (want_none) rfl (q_lss rfl rfl) ?_
      refine HO.val (v := .bool (decide (i_1 < 16))) (want_none) rfl (q_move rfl) ?_
      rcases Bool.eq_false_or_eq_true (decide (i_1 < 16)) with c_3 | c_3
      · replace hM := hM.1 (of_decide_eq_true c_3)
        refine HO.val (v := .pointer (some ⟨b_1, 0, none⟩)) (want_by rfl rfl c_3) rfl (q_fieldAddr fa_34_0 rfl rfl) ?_
        refine HO.val (v := .bool a.1) (want_by rfl rfl c_3) rfl (q_load to_4 rfl (Blk.cell (hS.box 0 rfl) rfl)) ?_
        refine HO.val (v := .bool a.1) (want_by rfl rfl c_3) rfl (q_move rfl) ?_
        rcases Bool.eq_false_or_eq_true a.1 with c_4 | c_4
        · replace hM := hM.1 c_4
          refine HO.past (past_by rfl rfl c_4) rfl ?_
          refine HO.past (past_by rfl rfl c_4) rfl ?_
          refine HO.val (v := .bool true) (want_by rfl rfl c_3) rfl (q_pickK true rfl c_4 rfl) ?_
          refine HO.val (v := .bool true) (want_none) rfl (q_pickK true rfl c_3 rfl) ?_
          refine HO.nil (thenQ_normal (?_))
          refine HW.condT rfl ?_
          refine HW.skip (thenQ_normal (?_))
          exact ⟨F_1, rfl, rfl, rfl, rfl, hK, hS, hM⟩
        · replace hM := hM.2 c_4
          refine HO.val (v := .int .i64 i_1) (want_by rfl rfl c_4) rfl (q_move rfl) ?_
          refine HO.val (v := .bool (decide (i_1 < 4))) (want_by rfl rfl c_4) rfl (q_lss rfl rfl) ?_
          refine HO.val (v := .bool (decide (i_1 < 4))) (want_by rfl rfl c_3) rfl (q_pickK false rfl c_4 rfl) ?_
          refine HO.val (v := .bool (decide (i_1 < 4))) (want_none) rfl (q_pickK true rfl c_3 rfl) ?_
          refine HO.nil (thenQ_normal (?_))
          refine HW.cond (decide (i_1 < 4)) rfl (fun c_5 => ?_) (fun c_5 => ?_)
          · replace hM := hM.1 (of_decide_eq_true c_5)
            refine HW.skip (thenQ_normal (?_))
            exact ⟨F_1, rfl, rfl, rfl, rfl, hK, hS, hM⟩
          · replace hM := hM.2 (of_decide_eq_false c_5)
            refine HW.exit (thenQ_exit (thenQ_exit (blockQ_exit (thenQ_normal (?_)))))
            refine HW.seq ?_
            refine HW.region ?_
            refine HO.val (v := .int .i64 0) (want_none) rfl (q_assign rfl) ?_
            refine HO.nil (thenQ_normal (?_))
            refine HW.ret (?_)
            refine ⟨.inr rfl, .int .i64 0, res1 rfl (rt rfl), ?_⟩
            replace hS : St F_1 (fr) h_3 := hS.perm2 [] 2 rfl rfl
            exact ⟨F_1, 0, rfl, hK, hS, hM⟩
      · replace hM := hM.2 (of_decide_eq_false c_3)
        refine HO.past (past_by rfl rfl c_3) rfl ?_
        refine HO.past (past_by rfl rfl c_3) rfl ?_
        refine HO.past (past_by rfl rfl c_3) rfl ?_
        refine HO.past (past_undef rfl rfl) rfl ?_
        refine HO.past (past_undef rfl rfl) rfl ?_
        refine HO.past (past_by rfl rfl c_3) rfl ?_
        refine HO.val (v := .bool false) (want_none) rfl (q_pickK false rfl c_3 rfl) ?_
        refine HO.nil (thenQ_normal (?_))
        refine HW.condF rfl ?_
        refine HW.exit (thenQ_exit (thenQ_exit (blockQ_exit (thenQ_normal (?_)))))
        refine HW.seq ?_
        refine HW.region ?_
        refine HO.val (v := .int .i64 0) (want_none) rfl (q_assign rfl) ?_
        refine HO.nil (thenQ_normal (?_))
        refine HW.ret (?_)
        refine ⟨.inr rfl, .int .i64 0, res1 rfl (rt rfl), ?_⟩
        replace hS : St F_1 (fr) h_3 := hS.perm2 [] 2 rfl rfl
        exact ⟨F_1, 0, rfl, hK, hS, hM⟩
    · rintro f_2 h_4 ⟨F_2, e2, e3, e4, e5, hK, hS, hM⟩
      unfold ref03_Cmp_j1 at hM
      refine HW.fr [(2, .pointer (some ⟨b_1, 0, none⟩)), (3, .pointer (some ⟨b_2, 0, none⟩)), (4, .int .i64 0), (5, .int .i64 i_1)] ⟨e2, e3, e4, e5, trivial⟩ ?_
      refine HW.seq ?_
      refine HW.block ?_
      refine HW.seq ?_
      refine HW.seq ?_
      refine HW.regionA 9 mixed (fun h => (Blk h b_1 (.cells (e_api_Addr a).toArray 34 (0, 0))) ∧ (Blk h b_2 (.cells (e_api_Addr b).toArray 34 (0, 0)))) [] (by kernel_rfl) ?_
      refine HA.val (k := 0) (v := .int .i64 i_1) rfl rfl (by kernel_rfl) (by kernel_rfl) (want_none) rfl (fun _ ⟨c305, c306⟩ => q_move rfl) ?_
      refine HA.val (k := 1) (v := .pointer (some ⟨b_1, 1, none⟩)) rfl rfl (by kernel_rfl) (by kernel_rfl) (want_none) rfl (fun _ ⟨c305, c306⟩ => q_fieldAddr fa_34_1 rfl rfl) ?_
      obtain ⟨ho_1, hM⟩ := hM
      refine HA.val (k := 2) (v := .pointer (some ⟨b_1, 1 + (i_1).toNat, none⟩)) rfl rfl (by kernel_rfl) (by kernel_rfl) (want_none) rfl (fun _ ⟨c305, c306⟩ => q_idxA (o := 1) (t := i_1) tr_32 rfl rfl ho_1) ?_
      refine HA.val (k := 3) (v := .int .u8 (b8 a.2 i_1)) rfl rfl (by kernel_rfl) (by kernel_rfl) (want_none) rfl (fun _ ⟨c305, c306⟩ => q_ldArr (o := 1) (t := i_1) (X := a.2) to_5 rfl c305 rfl ho_1) ?_
      refine HA.val (k := 4) (v := .int .i64 i_1) rfl rfl (by kernel_rfl) (by kernel_rfl) (want_none) rfl (fun _ ⟨c305, c306⟩ => q_move rfl) ?_
      refine HA.val (k := 5) (v := .pointer (some ⟨b_2, 1, none⟩)) rfl rfl (by kernel_rfl) (by kernel_rfl) (want_none) rfl (fun _ ⟨c305, c306⟩ => q_fieldAddr fa_34_1 rfl rfl) ?_
      refine HA.val (k := 6) (v := .pointer (some ⟨b_2, 1 + (i_1).toNat, none⟩)) rfl rfl (by kernel_rfl) (by kernel_rfl) (want_none) rfl (fun _ ⟨c305, c306⟩ => q_idxA (o := 1) (t := i_1) tr_32 rfl rfl ho_1) ?_
      refine HA.val (k := 7) (v := .int .u8 (b8 b.2 i_1)) rfl rfl (by kernel_rfl) (by kernel_rfl) (want_none) rfl (fun _ ⟨c305, c306⟩ => q_ldArr (o := 1) (t := i_1) (X := b.2) to_5 rfl c306 rfl ho_1) ?_
      refine HA.val (k := 8) (v := .bool (decide ((b8 a.2 i_1) < (b8 b.2 i_1)))) rfl rfl (by kernel_rfl) (by kernel_rfl) (want_none) rfl (fun _ ⟨c305, c306⟩ => q_lss rfl rfl) ?_
      refine HA.nil ⟨⟨(hS.box 0 rfl), (hS.box 1 rfl)⟩, (Go.Wk.at_nil _ _)⟩ (by kernel_rfl) (thenQ_normal (?_))
      refine HW.cond (decide ((b8 a.2 i_1) < (b8 b.2 i_1))) rfl (fun c_6 => ?_) (fun c_6 => ?_)
      · replace hM := hM.1 (of_decide_eq_true c_6)
        refine HW.seq ?_
        refine HW.region ?_
        refine HO.val (v := .int .i64 (-1)) (want_none) rfl (q_assign rfl) ?_
        refine HO.nil (thenQ_normal (?_))
        refine HW.ret (thenQ_ret (blockQ_ret (thenQ_ret (thenQ_ret (blockQ_ret (thenQ_ret (?_)))))))
        refine ⟨.inr rfl, .int .i64 (-1), res1 rfl (rt rfl), ?_⟩
        replace hS : St F_2 (fr) h_4 := hS.perm2 [] 2 rfl rfl
        exact ⟨F_2, (-1), rfl, hK, hS, hM⟩
      · replace hM := hM.2 (of_decide_eq_false c_6)
        refine HW.skip (thenQ_normal (?_))
        refine HW.seq ?_
        refine HW.regionA 9 mixed (fun h => (Blk h b_1 (.cells (e_api_Addr a).toArray 34 (0, 0))) ∧ (Blk h b_2 (.cells (e_api_Addr b).toArray 34 (0, 0)))) [] (by kernel_rfl) ?_
        refine HA.val (k := 0) (v := .int .i64 i_1) rfl rfl (by kernel_rfl) (by kernel_rfl) (want_none) rfl (fun _ ⟨c305, c306⟩ => q_move rfl) ?_
        refine HA.val (k := 1) (v := .pointer (some ⟨b_1, 1, none⟩)) rfl rfl (by kernel_rfl) (by kernel_rfl) (want_none) rfl (fun _ ⟨c305, c306⟩ => q_fieldAddr fa_34_1 rfl rfl) ?_
        refine HA.val (k := 2) (v := .pointer (some ⟨b_1, 1 + (i_1).toNat, none⟩)) rfl rfl (by kernel_rfl) (by kernel_rfl) (want_none) rfl (fun _ ⟨c305, c306⟩ => q_idxA (o := 1) (t := i_1) tr_32 rfl rfl ho_1) ?_
        refine HA.val (k := 3) (v := .int .u8 (b8 a.2 i_1)) rfl rfl (by kernel_rfl) (by kernel_rfl) (want_none) rfl (fun _ ⟨c305, c306⟩ => q_ldArr (o := 1) (t := i_1) (X := a.2) to_5 rfl c305 rfl ho_1) ?_
        refine HA.val (k := 4) (v := .int .i64 i_1) rfl rfl (by kernel_rfl) (by kernel_rfl) (want_none) rfl (fun _ ⟨c305, c306⟩ => q_move rfl) ?_
        refine HA.val (k := 5) (v := .pointer (some ⟨b_2, 1, none⟩)) rfl rfl (by kernel_rfl) (by kernel_rfl) (want_none) rfl (fun _ ⟨c305, c306⟩ => q_fieldAddr fa_34_1 rfl rfl) ?_
        refine HA.val (k := 6) (v := .pointer (some ⟨b_2, 1 + (i_1).toNat, none⟩)) rfl rfl (by kernel_rfl) (by kernel_rfl) (want_none) rfl (fun _ ⟨c305, c306⟩ => q_idxA (o := 1) (t := i_1) tr_32 rfl rfl ho_1) ?_
        refine HA.val (k := 7) (v := .int .u8 (b8 b.2 i_1)) rfl rfl (by kernel_rfl) (by kernel_rfl) (want_none) rfl (fun _ ⟨c305, c306⟩ => q_ldArr (o := 1) (t := i_1) (X := b.2) to_5 rfl c306 rfl ho_1) ?_
        refine HA.val (k := 8) (v := .bool (decide ((b8 b.2 i_1) < (b8 a.2 i_1)))) rfl rfl (by kernel_rfl) (by kernel_rfl) (want_none) rfl (fun _ ⟨c305, c306⟩ => q_gtr rfl rfl) ?_
        refine HA.nil ⟨⟨(hS.box 0 rfl), (hS.box 1 rfl)⟩, (Go.Wk.at_nil _ _)⟩ (by kernel_rfl) (thenQ_normal (?_))
        refine HW.cond (decide ((b8 b.2 i_1) < (b8 a.2 i_1))) rfl (fun c_7 => ?_) (fun c_7 => ?_)
        · replace hM := hM.1 (of_decide_eq_true c_7)
          refine HW.seq ?_
          refine HW.region ?_
          refine HO.val (v := .int .i64 1) (want_none) rfl (q_assign rfl) ?_
          refine HO.nil (thenQ_normal (?_))
          refine HW.ret (blockQ_ret (thenQ_ret (thenQ_ret (blockQ_ret (thenQ_ret (?_))))))
          refine ⟨.inr rfl, .int .i64 1, res1 rfl (rt rfl), ?_⟩
          replace hS : St F_2 (fr) h_4 := hS.perm2 [] 2 rfl rfl
          exact ⟨F_2, 1, rfl, hK, hS, hM⟩
        · replace hM := hM.2 (of_decide_eq_false c_7)
          refine HW.skip (blockQ_normal (thenQ_normal (?_)))
          refine HW.region ?_
          refine HO.val (v := .int .i64 i_1) (want_none) rfl (q_move rfl) ?_
          obtain ⟨ho_2, hM⟩ := hM
          refine HO.val (v := .int .i64 (i_1 + 1)) (want_none) rfl (q_addN _ rfl rfl rfl ho_2.1 ho_2.2) ?_
          refine HO.val (v := .int .i64 (i_1 + 1)) (want_none) rfl (q_assign rfl) ?_
          refine HO.nil (thenQ_normal (?_))
          rw [hKe_1] at hM
          exact ⟨i_1 + 1, ⟨F_2, rfl, rfl, rfl, rfl, hK, hS, hM.1⟩, hM.2⟩

def ref11_Add_j2 (l : List T_api_Addr) (a : T_api_Addr) (Q : (List T_api_Addr) → Prop) (n_1 : Int) : Prop :=
  ((0 : Int) ≤ n_1 ∧ n_1 ≤ (l.length : Int)) ∧ (((([] : List T_api_Addr).length + (cut l 0 n_1).length) * 17 ≤ 140737488355328) ∧ ((((([] : List T_api_Addr) ++ (cut l 0 n_1)).length + ([a] : List T_api_Addr).length) * 17 ≤ 140737488355328) ∧ (((((([] : List T_api_Addr) ++ (cut l 0 n_1)) ++ ([a] : List T_api_Addr)).length + (cut l n_1 (l.length : Int)).length) * 17 ≤ 140737488355328) ∧ (Q (((([] : List T_api_Addr) ++ (cut l 0 n_1)) ++ ([a] : List T_api_Addr)) ++ (cut l n_1 (l.length : Int)))))))
def ref11_Add_l1 (l : List T_api_Addr) (a : T_api_Addr) (Q : (List T_api_Addr) → Prop) (K_1 : Int → Prop) (n_2 : Int) : Prop :=
  (n_2 < (l.length : Int) → ((0 : Int) ≤ n_2 ∧ n_2 < (l.length : Int)) ∧ (ref03_Cmp_W (gi l n_2) a (fun r_4 => (r_4 < 0 → (I64 (n_2 + 1)) ∧ (K_1 (n_2 + 1))) ∧ (¬ (r_4 < 0) → ref11_Add_j2 l a Q n_2)))) ∧ (¬ (n_2 < (l.length : Int)) → ref11_Add_j2 l a Q n_2)
def ref11_Add_j1 (l : List T_api_Addr) (a : T_api_Addr) (Q : (List T_api_Addr) → Prop) (b_2 : Bool) : Prop :=
  (b_2 = true → Q l) ∧ (b_2 = false → loopW (fun (K_1 : Int → Prop) (s : Int) => ref11_Add_l1 l a Q K_1 s) 0)
def ref11_Add_W (l : List T_api_Addr) (a : T_api_Addr) (Q : (List T_api_Addr) → Prop) : Prop :=
  ref11_Has_W l a (fun r_2 => (r_2 = true → ref11_Add_j1 l a Q true) ∧ (r_2 = false → ref03_Good_W a (fun r_3 => ref11_Add_j1 l a Q (!r_3))))
set_option maxHeartbeats 40000000 in
set_option maxRecDepth 100000 in
theorem ref11_Add_walk {F : Fz} {fr : List Ow} {h0 : Heap} (l : List T_api_Addr) (a : T_api_Addr) (vl : Value) (hS : St F (fr) h0) (hL_l : SliceF F h0 17 e_api_Addr vl l) {Q : (List T_api_Addr) → Prop} (hM : ref11_Add_W l a Q) :
    HC Try.prog 29 #[vl, .agg (e_api_Addr a).toArray] h0 fun u h' => ∃ (F' : Fz) (r_1 : List T_api_Addr) (vr_1 : Value), u = vr_1 ∧ Kp F h0 F' h' ∧ St F' (fr) h' ∧ (SliceF F' h' 17 e_api_Addr vl l) ∧ (SliceF F' h' 17 e_api_Addr vr_1 r_1) ∧ Q r_1 := by
  unfold ref11_Add_W at hM
  have hK := Kp.refl F h0
  refine HC.of_HW (n := 42) Try.func29 rfl rfl (Nat.le_of_ble_eq_true rfl) ?_
  refine HW.seq ?_
  refine HW.region ?_
  refine HO.eff (want_none) rfl (st_box (c := (e_api_Addr a).toArray) (k' := 17) hS rfl rfl) ?_
  rintro _ h_1 ⟨b_1, rfl, hS, hk⟩
  replace hK := hK.trans hk
  replace hL_l := hL_l.kp hk
  refine HO.val (v := .slice none 0 0) (want_none) rfl (q_assign rfl) ?_
  refine HO.nil (thenQ_normal (?_))
  refine HW.seq ?_
  refine HW.seq_mid (fun f h => ∃ (F' : Fz) (b_2 : Bool), f 0 = vl ∧ f 3 = .pointer (some ⟨b_1, 0, none⟩) ∧ f 4 = .slice none 0 0 ∧ f 13 = .bool b_2 ∧ Kp F h0 F' h ∧ St F' (Ow.box b_1 34 (e_api_Addr a).toArray :: fr) h ∧ (SliceF F' h 17 e_api_Addr vl l) ∧ ref11_Add_j1 l a Q b_2) ?_ ?_
  · refine HW.region ?_
    refine HO.val (v := vl) (want_none) rfl (q_move rfl) ?_
    refine HO.val (v := .agg (e_api_Addr a).toArray) (want_none) rfl (q_loadAgg (cs := (e_api_Addr a)) ta_34 rfl rfl (Blk.cells (k := 17) (hS.box 0 rfl) rfl)) ?_
    refine HO.call (want_none) rfl (ec en_13 rfl rfl) (ref11_Has_walk (fr := (Ow.box b_1 34 (e_api_Addr a).toArray :: fr)) l a vl hS hL_l hM) ?_
    rintro _ h_2 ⟨F_1, r_2, rfl, hk, hS, _, hM⟩
    replace hK := hK.trans hk
    replace hL_l := hL_l.kp hk
    refine HO.val (v := .bool r_2) (want_none) rfl (q_move rfl) ?_
    rcases Bool.eq_false_or_eq_true r_2 with c_1 | c_1
    · replace hM := hM.1 c_1
      refine HO.past (past_by rfl rfl c_1) rfl ?_
      refine HO.past (past_by rfl rfl c_1) rfl ?_
      refine HO.past (past_by rfl rfl c_1) rfl ?_
      refine HO.val (v := .bool true) (want_none) rfl (q_pickK true rfl c_1 rfl) ?_
      refine HO.nil (thenQ_normal (?_))
      exact ⟨F_1, true, rfl, rfl, rfl, rfl, hK, hS, hL_l, hM⟩
    · replace hM := hM.2 c_1
      refine HO.val (v := .agg (e_api_Addr a).toArray) (want_by rfl rfl c_1) rfl (q_loadAgg (cs := (e_api_Addr a)) ta_34 rfl rfl (Blk.cells (k := 17) (hS.box 0 rfl) rfl)) ?_
      refine HO.call (want_by rfl rfl c_1) rfl (ec en_44 rfl rfl) (ref03_Good_walk (fr := (Ow.box b_1 34 (e_api_Addr a).toArray :: fr)) a hS hM) ?_
      rintro _ h_3 ⟨F_2, r_3, rfl, hk, hS, hM⟩
      replace hK := hK.trans hk
      replace hL_l := hL_l.kp hk
      refine HO.val (v := .bool (!r_3)) (want_by rfl rfl c_1) rfl (q_not rfl) ?_
      refine HO.val (v := .bool (!r_3)) (want_none) rfl (q_pickK false rfl c_1 rfl) ?_
      refine HO.nil (thenQ_normal (?_))
      exact ⟨F_2, !r_3, rfl, rfl, rfl, rfl, hK, hS, hL_l, hM⟩
  · rintro f_1 h_4 ⟨F_3, b_2, e0, e3, e4, e13, hK, hS, hL_l, hM⟩
    unfold ref11_Add_j1 at hM
    refine HW.fr [(0, vl), (3, .pointer (some ⟨b_1, 0, none⟩)), (4, .slice none 0 0), (13, .bool b_2)] ⟨e0, e3, e4, e13, trivial⟩ ?_
    refine HW.cond b_2 rfl (fun c_2 => ?_) (fun c_2 => ?_)
    · replace hM := hM.1 c_2
      refine HW.seq ?_
      refine HW.region ?_
      refine HO.val (v := vl) (want_none) rfl (q_move rfl) ?_
      refine HO.val (v := vl) (want_none) rfl (q_assign rfl) ?_
      refine HO.nil (thenQ_normal (?_))
      refine HW.ret (thenQ_ret (?_))
      refine ⟨.inr rfl, vl, res1 rfl (rt rfl), ?_⟩
      replace hS : St F_3 (fr) h_4 := hS.perm2 [] 1 rfl rfl
      exact ⟨F_3, l, vl, rfl, hK, hS, hL_l, hL_l, hM⟩
    · replace hM := hM.2 c_2
      refine HW.skip (thenQ_normal (?_))
      refine HW.seq ?_
      refine HW.region ?_
      refine HO.val (v := .int .i64 0) (want_none) rfl (q_assign rfl) ?_
      refine HO.nil (thenQ_normal (?_))
      refine HW.seq_mid (fun f h => ∃ (F' : Fz) (n_1 : Int), f 0 = vl ∧ f 3 = .pointer (some ⟨b_1, 0, none⟩) ∧ f 4 = .slice none 0 0 ∧ f 5 = .int .i64 n_1 ∧ Kp F h0 F' h ∧ St F' (Ow.box b_1 34 (e_api_Addr a).toArray :: fr) h ∧ (SliceF F' h 17 e_api_Addr vl l) ∧ ref11_Add_j2 l a Q n_1) ?_ ?_
      · refine HW.block ?_
        obtain ⟨I_1, m_1, hI_1, hR_1⟩ := hM
        refine HW.loop (S := Int) (fun n_2 f h => ∃ (F' : Fz), f 0 = vl ∧ f 3 = .pointer (some ⟨b_1, 0, none⟩) ∧ f 4 = .slice none 0 0 ∧ f 5 = .int .i64 n_2 ∧ Kp F h0 F' h ∧ St F' (Ow.box b_1 34 (e_api_Addr a).toArray :: fr) h ∧ (SliceF F' h 17 e_api_Addr vl l) ∧ I_1 n_2) m_1 0 ⟨F_3, rfl, rfl, rfl, rfl, hK, hS, hL_l, hI_1⟩ ?_
        rintro n_2 f_2 h_5 ⟨F_4, e0, e3, e4, e5, hK, hS, hL_l, hI0⟩
        obtain ⟨K_1, hKe_1⟩ : ∃ K : Int → Prop, K = fun n_2' => I_1 n_2' ∧ m_1 n_2' < m_1 n_2 := ⟨_, rfl⟩
        have hM : ref11_Add_l1 l a Q K_1 n_2 := by rw [hKe_1]; exact hR_1 n_2 hI0
        unfold ref11_Add_l1 at hM
        refine HW.fr [(0, vl), (3, .pointer (some ⟨b_1, 0, none⟩)), (4, .slice none 0 0), (5, .int .i64 n_2)] ⟨e0, e3, e4, e5, trivial⟩ ?_
        refine HW.seq ?_
        refine HW.seq ?_
        refine HW.regionA 13 mixed (fun h => (SliceIs h 17 e_api_Addr vl l) ∧ (Blk h b_1 (.cells (e_api_Addr a).toArray 34 (0, 0)))) [] (by kernel_rfl) ?_
        refine HA.val (k := 0) (v := .int .i64 n_2) rfl rfl (by kernel_rfl) (by kernel_rfl) (want_none) rfl (fun _ ⟨hL_l, c304⟩ => q_move rfl) ?_
        refine HA.val (k := 1) (v := vl) rfl rfl (by kernel_rfl) (by kernel_rfl) (want_none) rfl (fun _ ⟨hL_l, c304⟩ => q_move rfl) ?_
        refine HA.val (k := 2) (v := .int .i64 (l.length : Int)) rfl rfl (by kernel_rfl) (by kernel_rfl) (want_none) rfl (fun _ ⟨hL_l, c304⟩ => q_len ts_22 (shp hL_l) rfl rfl) ?_
        refine HA.val (k := 3) (v := .bool (decide (n_2 < (l.length : Int)))) rfl rfl (by kernel_rfl) (by kernel_rfl) (want_none) rfl (fun _ ⟨hL_l, c304⟩ => q_lss rfl rfl) ?_
        refine HA.val (k := 4) (v := .bool (decide (n_2 < (l.length : Int)))) rfl rfl (by kernel_rfl) (by kernel_rfl) (want_none) rfl (fun _ ⟨hL_l, c304⟩ => q_move rfl) ?_
        rcases Bool.eq_false_or_eq_true (decide (n_2 < (l.length : Int))) with c_3 | c_3
        · replace hM := hM.1 (of_decide_eq_true c_3)
          refine HA.val (k := 5) (v := vl) rfl rfl (by kernel_rfl) (by kernel_rfl) (want_by rfl rfl c_3) rfl (fun _ ⟨hL_l, c304⟩ => q_move rfl) ?_
          refine HA.val (k := 6) (v := .int .i64 n_2) rfl rfl (by kernel_rfl) (by kernel_rfl) (want_by rfl rfl c_3) rfl (fun _ ⟨hL_l, c304⟩ => q_move rfl) ?_
          obtain ⟨ho_1, hM⟩ := hM
          refine HA.val (k := 7) (v := elemPtr 17 vl (n_2).toNat) rfl rfl (by kernel_rfl) (by kernel_rfl) (want_by rfl rfl c_3) rfl (fun _ ⟨hL_l, c304⟩ => q_idx ts_22 hL_l rfl rfl ho_1) ?_
          refine HA.val (k := 8) (v := .agg (e_api_Addr (gi l n_2)).toArray) rfl rfl (by kernel_rfl) (by kernel_rfl) (want_by rfl rfl c_3) rfl (fun _ ⟨hL_l, c304⟩ => q_ldElemAgg (cs := (e_api_Addr (gi l n_2))) ta_34 hL_l rfl ho_1 rfl) ?_
          refine HA.val (k := 9) (v := .agg (e_api_Addr a).toArray) rfl rfl (by kernel_rfl) (by kernel_rfl) (want_by rfl rfl c_3) rfl (fun _ ⟨hL_l, c304⟩ => q_loadAgg (cs := (e_api_Addr a)) ta_34 rfl rfl (Blk.cells (k := 17) c304 rfl)) ?_
          refine HA.one (k := 10) ⟨⟨hL_l.is, (hS.box 0 rfl)⟩, (Go.Wk.at_nil _ _)⟩ (by kernel_rfl) ?_
          refine HS.call rfl (want_by rfl rfl c_3) rfl (ec en_45 rfl rfl) (ref03_Cmp_walk (fr := (Ow.box b_1 34 (e_api_Addr a).toArray :: fr)) (gi l n_2) a hS hM) ?_
          rintro _ h_6 ⟨F_5, r_4, rfl, hk, hS, hM⟩
          replace hK := hK.trans hk
          replace hL_l := hL_l.kp hk
          refine HA.val (k := 11) (v := .bool (decide (r_4 < 0))) rfl rfl (by kernel_rfl) (by kernel_rfl) (want_by rfl rfl c_3) rfl (fun _ ⟨hL_l, c304⟩ => q_lss rfl rfl) ?_
          refine HA.val (k := 12) (v := .bool (decide (r_4 < 0))) rfl rfl (by kernel_rfl) (by kernel_rfl) (want_none) rfl (fun _ ⟨hL_l, c304⟩ => q_pickK true rfl c_3 rfl) ?_
          refine HA.nil ⟨⟨hL_l.is, (hS.box 0 rfl)⟩, (Go.Wk.at_nil _ _)⟩ (by kernel_rfl) (thenQ_normal (?_))
          refine HW.cond (decide (r_4 < 0)) rfl (fun c_4 => ?_) (fun c_4 => ?_)
          · replace hM := hM.1 (of_decide_eq_true c_4)
            refine HW.skip (thenQ_normal (?_))
            refine HW.block ?_
            refine HW.region ?_
            refine HO.val (v := .int .i64 n_2) (want_none) rfl (q_move rfl) ?_
            obtain ⟨ho_2, hM⟩ := hM
            refine HO.val (v := .int .i64 (n_2 + 1)) (want_none) rfl (q_addN _ rfl rfl rfl ho_2.1 ho_2.2) ?_
            refine HO.val (v := .int .i64 (n_2 + 1)) (want_none) rfl (q_assign rfl) ?_
            refine HO.nil (blockQ_normal (thenQ_normal (?_)))
            rw [hKe_1] at hM
            exact ⟨n_2 + 1, ⟨F_5, rfl, rfl, rfl, rfl, hK, hS, hL_l, hM.1⟩, hM.2⟩
          · replace hM := hM.2 (of_decide_eq_false c_4)
            refine HW.exit (thenQ_exit (thenQ_exit (blockQ_exit (thenQ_normal (?_)))))
            exact ⟨F_5, n_2, rfl, rfl, rfl, rfl, hK, hS, hL_l, hM⟩
        · replace hM := hM.2 (of_decide_eq_false c_3)
          refine HA.past (k := 5) rfl rfl (by kernel_rfl) (by kernel_rfl) (past_by rfl rfl c_3) rfl ?_
          refine HA.past (k := 6) rfl rfl (by kernel_rfl) (by kernel_rfl) (past_by rfl rfl c_3) rfl ?_
          refine HA.past (k := 7) rfl rfl (by kernel_rfl) (by kernel_rfl) (past_by rfl rfl c_3) rfl ?_
          refine HA.past (k := 8) rfl rfl (by kernel_rfl) (by kernel_rfl) (past_by rfl rfl c_3) rfl ?_
          refine HA.past (k := 9) rfl rfl (by kernel_rfl) (by kernel_rfl) (past_by rfl rfl c_3) rfl ?_
          refine HA.one (k := 10) ⟨⟨hL_l.is, (hS.box 0 rfl)⟩, (Go.Wk.at_nil _ _)⟩ (by kernel_rfl) ?_
          refine HS.past rfl (past_by rfl rfl c_3) rfl ?_
          refine HA.past (k := 11) rfl rfl (by kernel_rfl) (by kernel_rfl) (past_by rfl rfl c_3) rfl ?_
          refine HA.val (k := 12) (v := .bool false) rfl rfl (by kernel_rfl) (by kernel_rfl) (want_none) rfl (fun _ ⟨hL_l, c304⟩ => q_pickK false rfl c_3 rfl) ?_
          refine HA.nil ⟨⟨hL_l.is, (hS.box 0 rfl)⟩, (Go.Wk.at_nil _ _)⟩ (by kernel_rfl) (thenQ_normal (?_))
          refine HW.condF rfl ?_
          refine HW.exit (thenQ_exit (thenQ_exit (blockQ_exit (thenQ_normal (?_)))))
          exact ⟨F_4, n_2, rfl, rfl, rfl, rfl, hK, hS, hL_l, hM⟩
      · rintro f_3 h_7 ⟨F_6, n_1, e0, e3, e4, e5, hK, hS, hL_l, hM⟩
        unfold ref11_Add_j2 at hM
        refine HW.fr [(0, vl), (3, .pointer (some ⟨b_1, 0, none⟩)), (4, .slice none 0 0), (5, .int .i64 n_1)] ⟨e0, e3, e4, e5, trivial⟩ ?_
        refine HW.seq ?_
        obtain ⟨ho_3, hM⟩ := hM
        obtain ⟨ho_4, hM⟩ := hM
        obtain ⟨ho_5, hM⟩ := hM
        obtain ⟨ho_6, hM⟩ := hM
        refine HW.regionA 13 mixed (fun h => (SliceIs h 17 e_api_Addr vl l) ∧ (Blk h b_1 (.cells (e_api_Addr a).toArray 34 (0, 0)))) [] (by kernel_rfl) ?_
        refine HA.val (k := 1) (v := vl) rfl rfl (by kernel_rfl) (by kernel_rfl) (want_none) rfl (fun _ ⟨hL_l, c203⟩ => q_move rfl) ?_
        refine HA.val (k := 2) (v := .int .i64 n_1) rfl rfl (by kernel_rfl) (by kernel_rfl) (want_none) rfl (fun _ ⟨hL_l, c203⟩ => q_move rfl) ?_
        refine HA.val (k := 3) (v := cutV 17 vl (0 : Int).toNat (n_1).toNat) rfl rfl (by kernel_rfl) (by kernel_rfl) (want_none) rfl (fun _ ⟨hL_l, c203⟩ => q_slH ts_22 hL_l rfl rfl ho_3) ?_
        refine HA.val (k := 5) (v := .agg (e_api_Addr a).toArray) rfl rfl (by kernel_rfl) (by kernel_rfl) (want_none) rfl (fun _ ⟨hL_l, c203⟩ => q_loadAgg (cs := (e_api_Addr a)) ta_34 rfl rfl (Blk.cells (k := 17) c203 rfl)) ?_
        refine HA.val (k := 8) (v := vl) rfl rfl (by kernel_rfl) (by kernel_rfl) (want_none) rfl (fun _ ⟨hL_l, c203⟩ => q_move rfl) ?_
        refine HA.val (k := 9) (v := .int .i64 n_1) rfl rfl (by kernel_rfl) (by kernel_rfl) (want_none) rfl (fun _ ⟨hL_l, c203⟩ => q_move rfl) ?_
        refine HA.val (k := 10) (v := cutV 17 vl (n_1).toNat ((l.length : Int)).toNat) rfl rfl (by kernel_rfl) (by kernel_rfl) (want_none) rfl (fun _ ⟨hL_l, c203⟩ => q_slL ts_22 hL_l rfl rfl ho_3) ?_
        refine HA.two (k := 0) (k' := 6) ⟨⟨hL_l.is, (hS.box 0 rfl)⟩, (Go.Wk.at_nil _ _)⟩ (by kernel_rfl) ?_ ?_
        · refine HS.eff rfl (want_none) rfl (st_litEmpty (α := T_api_Addr) e_api_Addr hS tl_22) ?_
          rintro _ h_8 ⟨b_3, rfl, hS, hk⟩
          replace hK := hK.trans hk
          replace hL_l := hL_l.kp hk
          refine HA.two (k := 4) (k' := 6) ⟨⟨hL_l.is, (hS.box 1 rfl)⟩, (Go.Wk.at_nil _ _)⟩ (by kernel_rfl) ?_ ?_
          · refine HS.eff rfl (want_none) rfl (st_append te_22 hS (i := 0) rfl (cutIs hL_l.is 0 n_1 (Int.le_refl _) ho_3.1 ho_3.2) rfl rfl rfl (by intro a _ u hu; simp [e_api_Addr, encI, encN, encB, encT] at hu; rcases hu with rfl | rfl | rfl | rfl | rfl | rfl | rfl | rfl | rfl | rfl | rfl | rfl | rfl | rfl | rfl | rfl | rfl <;> rfl) ho_4 (by omega)) ?_
            rintro v_1 h_9 ⟨hS, hk⟩
            replace hS : St F_6 (Ow.own 34 17 e_api_Addr v_1 (([] : List T_api_Addr) ++ (cut l 0 n_1)) :: Ow.box b_1 34 (e_api_Addr a).toArray :: fr) h_9 := hS
            replace hK := hK.trans hk
            replace hL_l := hL_l.kp hk
            refine HA.one (k := 6) ⟨⟨hL_l.is, (hS.box 1 rfl)⟩, (Go.Wk.at_nil _ _)⟩ (by kernel_rfl) ?_
            refine HS.eff rfl (want_none) rfl (st_lit (enc := e_api_Addr) (cells := #[.bool a.1, .int .u8 (b8 a.2 0), .int .u8 (b8 a.2 1), .int .u8 (b8 a.2 2), .int .u8 (b8 a.2 3), .int .u8 (b8 a.2 4), .int .u8 (b8 a.2 5), .int .u8 (b8 a.2 6), .int .u8 (b8 a.2 7), .int .u8 (b8 a.2 8), .int .u8 (b8 a.2 9), .int .u8 (b8 a.2 10), .int .u8 (b8 a.2 11), .int .u8 (b8 a.2 12), .int .u8 (b8 a.2 13), .int .u8 (b8 a.2 14), .int .u8 (b8 a.2 15)]) #[.bool false, .int .u8 0, .int .u8 0, .int .u8 0, .int .u8 0, .int .u8 0, .int .u8 0, .int .u8 0, .int .u8 0, .int .u8 0, .int .u8 0, .int .u8 0, .int .u8 0, .int .u8 0, .int .u8 0, .int .u8 0, .int .u8 0] ([a] : List T_api_Addr) hS tl_22 (by decide) (by decide) (by kernel_rfl) (by kernel_rfl) rfl (by intro x hx; rfl) rfl) ?_
            rintro _ h_10 ⟨b_4, rfl, hS, hk⟩
            replace hK := hK.trans hk
            replace hL_l := hL_l.kp hk
            refine HA.one (k := 7) ⟨⟨hL_l.is, (hS.box 2 rfl)⟩, (Go.Wk.at_nil _ _)⟩ (by kernel_rfl) ?_
            refine HS.eff rfl (want_none) rfl (st_append te_22 hS (i := 1) rfl (hS.own 0 rfl).slice rfl rfl rfl (by intro a _ u hu; simp [e_api_Addr, encI, encN, encB, encT] at hu; rcases hu with rfl | rfl | rfl | rfl | rfl | rfl | rfl | rfl | rfl | rfl | rfl | rfl | rfl | rfl | rfl | rfl | rfl <;> rfl) ho_5 (by omega)) ?_
            rintro v_2 h_11 ⟨hS, hk⟩
            replace hS : St F_6 (Ow.own 34 17 e_api_Addr (.slice (some ⟨b_4, 0, none⟩) 1 1) ([a] : List T_api_Addr) :: Ow.own 34 17 e_api_Addr v_2 ((([] : List T_api_Addr) ++ (cut l 0 n_1)) ++ ([a] : List T_api_Addr)) :: Ow.box b_1 34 (e_api_Addr a).toArray :: fr) h_11 := hS
            replace hK := hK.trans hk
            replace hL_l := hL_l.kp hk
            refine HA.one (k := 11) ⟨⟨hL_l.is, (hS.box 2 rfl)⟩, (Go.Wk.at_nil _ _)⟩ (by kernel_rfl) ?_
            refine HS.eff rfl (want_none) rfl (st_append te_22 hS (i := 1) rfl (cutIs hL_l.is n_1 (l.length : Int) ho_3.1 ho_3.2 (Int.le_refl _)) rfl rfl rfl (by intro a _ u hu; simp [e_api_Addr, encI, encN, encB, encT] at hu; rcases hu with rfl | rfl | rfl | rfl | rfl | rfl | rfl | rfl | rfl | rfl | rfl | rfl | rfl | rfl | rfl | rfl | rfl <;> rfl) ho_6 (by omega)) ?_
            rintro v_3 h_12 ⟨hS, hk⟩
            replace hS : St F_6 (Ow.own 34 17 e_api_Addr (.slice (some ⟨b_4, 0, none⟩) 1 1) ([a] : List T_api_Addr) :: Ow.own 34 17 e_api_Addr v_3 (((([] : List T_api_Addr) ++ (cut l 0 n_1)) ++ ([a] : List T_api_Addr)) ++ (cut l n_1 (l.length : Int))) :: Ow.box b_1 34 (e_api_Addr a).toArray :: fr) h_12 := hS
            replace hK := hK.trans hk
            replace hL_l := hL_l.kp hk
            refine HA.val (k := 12) (v := v_3) rfl rfl (by kernel_rfl) (by kernel_rfl) (want_none) rfl (fun _ ⟨hL_l, c203⟩ => q_assign rfl) ?_
            refine HA.nil ⟨⟨hL_l.is, (hS.box 2 rfl)⟩, (Go.Wk.at_nil _ _)⟩ (by kernel_rfl) (thenQ_normal (?_))
            refine HW.ret (?_)
            refine ⟨.inr rfl, v_3, res1 rfl (rt rfl), ?_⟩
            replace hS : St F_6 (Ow.own 34 17 e_api_Addr v_3 (((([] : List T_api_Addr) ++ (cut l 0 n_1)) ++ ([a] : List T_api_Addr)) ++ (cut l n_1 (l.length : Int))) :: Ow.own 34 17 e_api_Addr (.slice (some ⟨b_4, 0, none⟩) 1 1) ([a] : List T_api_Addr) :: Ow.box b_1 34 (e_api_Addr a).toArray :: fr) h_12 := hS.perm2 [1, 0, 2] 3 rfl rfl
            obtain ⟨F_7, hS, hk, hL_2⟩ := hS.freezeOwn
            replace hK := hK.trans hk
            replace hL_l := hL_l.kp hk
            replace hS : St F_7 (fr) h_12 := hS.perm2 [] 2 rfl rfl
            exact ⟨F_7, ((([] : List T_api_Addr) ++ (cut l 0 n_1)) ++ ([a] : List T_api_Addr)) ++ (cut l n_1 (l.length : Int)), v_3, rfl, hK, hS, hL_l, hL_2, hM⟩
          · refine HS.eff rfl (want_none) rfl (st_lit (enc := e_api_Addr) (cells := #[.bool a.1, .int .u8 (b8 a.2 0), .int .u8 (b8 a.2 1), .int .u8 (b8 a.2 2), .int .u8 (b8 a.2 3), .int .u8 (b8 a.2 4), .int .u8 (b8 a.2 5), .int .u8 (b8 a.2 6), .int .u8 (b8 a.2 7), .int .u8 (b8 a.2 8), .int .u8 (b8 a.2 9), .int .u8 (b8 a.2 10), .int .u8 (b8 a.2 11), .int .u8 (b8 a.2 12), .int .u8 (b8 a.2 13), .int .u8 (b8 a.2 14), .int .u8 (b8 a.2 15)]) #[.bool false, .int .u8 0, .int .u8 0, .int .u8 0, .int .u8 0, .int .u8 0, .int .u8 0, .int .u8 0, .int .u8 0, .int .u8 0, .int .u8 0, .int .u8 0, .int .u8 0, .int .u8 0, .int .u8 0, .int .u8 0, .int .u8 0] ([a] : List T_api_Addr) hS tl_22 (by decide) (by decide) (by kernel_rfl) (by kernel_rfl) rfl (by intro x hx; rfl) rfl) ?_
            rintro _ h_9 ⟨b_4, rfl, hS, hk⟩
            replace hK := hK.trans hk
            replace hL_l := hL_l.kp hk
            refine HA.one (k := 4) ⟨⟨hL_l.is, (hS.box 2 rfl)⟩, (Go.Wk.at_nil _ _)⟩ (by kernel_rfl) ?_
            refine HS.eff rfl (want_none) rfl (st_append te_22 hS (i := 1) rfl (cutIs hL_l.is 0 n_1 (Int.le_refl _) ho_3.1 ho_3.2) rfl rfl rfl (by intro a _ u hu; simp [e_api_Addr, encI, encN, encB, encT] at hu; rcases hu with rfl | rfl | rfl | rfl | rfl | rfl | rfl | rfl | rfl | rfl | rfl | rfl | rfl | rfl | rfl | rfl | rfl <;> rfl) ho_4 (by omega)) ?_
            rintro v_1 h_10 ⟨hS, hk⟩
            replace hS : St F_6 (Ow.own 34 17 e_api_Addr (.slice (some ⟨b_4, 0, none⟩) 1 1) ([a] : List T_api_Addr) :: Ow.own 34 17 e_api_Addr v_1 (([] : List T_api_Addr) ++ (cut l 0 n_1)) :: Ow.box b_1 34 (e_api_Addr a).toArray :: fr) h_10 := hS
            replace hK := hK.trans hk
            replace hL_l := hL_l.kp hk
            refine HA.one (k := 7) ⟨⟨hL_l.is, (hS.box 2 rfl)⟩, (Go.Wk.at_nil _ _)⟩ (by kernel_rfl) ?_
            refine HS.eff rfl (want_none) rfl (st_append te_22 hS (i := 1) rfl (hS.own 0 rfl).slice rfl rfl rfl (by intro a _ u hu; simp [e_api_Addr, encI, encN, encB, encT] at hu; rcases hu with rfl | rfl | rfl | rfl | rfl | rfl | rfl | rfl | rfl | rfl | rfl | rfl | rfl | rfl | rfl | rfl | rfl <;> rfl) ho_5 (by omega)) ?_
            rintro v_2 h_11 ⟨hS, hk⟩
            replace hS : St F_6 (Ow.own 34 17 e_api_Addr (.slice (some ⟨b_4, 0, none⟩) 1 1) ([a] : List T_api_Addr) :: Ow.own 34 17 e_api_Addr v_2 ((([] : List T_api_Addr) ++ (cut l 0 n_1)) ++ ([a] : List T_api_Addr)) :: Ow.box b_1 34 (e_api_Addr a).toArray :: fr) h_11 := hS
            replace hK := hK.trans hk
            replace hL_l := hL_l.kp hk
            refine HA.one (k := 11) ⟨⟨hL_l.is, (hS.box 2 rfl)⟩, (Go.Wk.at_nil _ _)⟩ (by kernel_rfl) ?_
            refine HS.eff rfl (want_none) rfl (st_append te_22 hS (i := 1) rfl (cutIs hL_l.is n_1 (l.length : Int) ho_3.1 ho_3.2 (Int.le_refl _)) rfl rfl rfl (by intro a _ u hu; simp [e_api_Addr, encI, encN, encB, encT] at hu; rcases hu with rfl | rfl | rfl | rfl | rfl | rfl | rfl | rfl | rfl | rfl | rfl | rfl | rfl | rfl | rfl | rfl | rfl <;> rfl) ho_6 (by omega)) ?_
            rintro v_3 h_12 ⟨hS, hk⟩
            replace hS : St F_6 (Ow.own 34 17 e_api_Addr (.slice (some ⟨b_4, 0, none⟩) 1 1) ([a] : List T_api_Addr) :: Ow.own 34 17 e_api_Addr v_3 (((([] : List T_api_Addr) ++ (cut l 0 n_1)) ++ ([a] : List T_api_Addr)) ++ (cut l n_1 (l.length : Int))) :: Ow.box b_1 34 (e_api_Addr a).toArray :: fr) h_12 := hS
            replace hK := hK.trans hk
            replace hL_l := hL_l.kp hk
            refine HA.val (k := 12) (v := v_3) rfl rfl (by kernel_rfl) (by kernel_rfl) (want_none) rfl (fun _ ⟨hL_l, c203⟩ => q_assign rfl) ?_
            refine HA.nil ⟨⟨hL_l.is, (hS.box 2 rfl)⟩, (Go.Wk.at_nil _ _)⟩ (by kernel_rfl) (thenQ_normal (?_))
            refine HW.ret (?_)
            refine ⟨.inr rfl, v_3, res1 rfl (rt rfl), ?_⟩
            replace hS : St F_6 (Ow.own 34 17 e_api_Addr v_3 (((([] : List T_api_Addr) ++ (cut l 0 n_1)) ++ ([a] : List T_api_Addr)) ++ (cut l n_1 (l.length : Int))) :: Ow.own 34 17 e_api_Addr (.slice (some ⟨b_4, 0, none⟩) 1 1) ([a] : List T_api_Addr) :: Ow.box b_1 34 (e_api_Addr a).toArray :: fr) h_12 := hS.perm2 [1, 0, 2] 3 rfl rfl
            obtain ⟨F_7, hS, hk, hL_2⟩ := hS.freezeOwn
            replace hK := hK.trans hk
            replace hL_l := hL_l.kp hk
            replace hS : St F_7 (fr) h_12 := hS.perm2 [] 2 rfl rfl
            exact ⟨F_7, ((([] : List T_api_Addr) ++ (cut l 0 n_1)) ++ ([a] : List T_api_Addr)) ++ (cut l n_1 (l.length : Int)), v_3, rfl, hK, hS, hL_l, hL_2, hM⟩
        · refine HS.eff rfl (want_none) rfl (st_lit (enc := e_api_Addr) (cells := #[.bool a.1, .int .u8 (b8 a.2 0), .int .u8 (b8 a.2 1), .int .u8 (b8 a.2 2), .int .u8 (b8 a.2 3), .int .u8 (b8 a.2 4), .int .u8 (b8 a.2 5), .int .u8 (b8 a.2 6), .int .u8 (b8 a.2 7), .int .u8 (b8 a.2 8), .int .u8 (b8 a.2 9), .int .u8 (b8 a.2 10), .int .u8 (b8 a.2 11), .int .u8 (b8 a.2 12), .int .u8 (b8 a.2 13), .int .u8 (b8 a.2 14), .int .u8 (b8 a.2 15)]) #[.bool false, .int .u8 0, .int .u8 0, .int .u8 0, .int .u8 0, .int .u8 0, .int .u8 0, .int .u8 0, .int .u8 0, .int .u8 0, .int .u8 0, .int .u8 0, .int .u8 0, .int .u8 0, .int .u8 0, .int .u8 0, .int .u8 0] ([a] : List T_api_Addr) hS tl_22 (by decide) (by decide) (by kernel_rfl) (by kernel_rfl) rfl (by intro x hx; rfl) rfl) ?_
          rintro _ h_8 ⟨b_3, rfl, hS, hk⟩
          replace hK := hK.trans hk
          replace hL_l := hL_l.kp hk
          refine HA.one (k := 0) ⟨⟨hL_l.is, (hS.box 1 rfl)⟩, (Go.Wk.at_nil _ _)⟩ (by kernel_rfl) ?_
          refine HS.eff rfl (want_none) rfl (st_litEmpty (α := T_api_Addr) e_api_Addr hS tl_22) ?_
          rintro _ h_9 ⟨b_4, rfl, hS, hk⟩
          replace hK := hK.trans hk
          replace hL_l := hL_l.kp hk
          refine HA.one (k := 4) ⟨⟨hL_l.is, (hS.box 2 rfl)⟩, (Go.Wk.at_nil _ _)⟩ (by kernel_rfl) ?_
          refine HS.eff rfl (want_none) rfl (st_append te_22 hS (i := 0) rfl (cutIs hL_l.is 0 n_1 (Int.le_refl _) ho_3.1 ho_3.2) rfl rfl rfl (by intro a _ u hu; simp [e_api_Addr, encI, encN, encB, encT] at hu; rcases hu with rfl | rfl | rfl | rfl | rfl | rfl | rfl | rfl | rfl | rfl | rfl | rfl | rfl | rfl | rfl | rfl | rfl <;> rfl) ho_4 (by omega)) ?_
          rintro v_1 h_10 ⟨hS, hk⟩
          replace hS : St F_6 (Ow.own 34 17 e_api_Addr v_1 (([] : List T_api_Addr) ++ (cut l 0 n_1)) :: Ow.own 34 17 e_api_Addr (.slice (some ⟨b_3, 0, none⟩) 1 1) ([a] : List T_api_Addr) :: Ow.box b_1 34 (e_api_Addr a).toArray :: fr) h_10 := hS
          replace hK := hK.trans hk
          replace hL_l := hL_l.kp hk
          refine HA.one (k := 7) ⟨⟨hL_l.is, (hS.box 2 rfl)⟩, (Go.Wk.at_nil _ _)⟩ (by kernel_rfl) ?_
          refine HS.eff rfl (want_none) rfl (st_append te_22 hS (i := 0) rfl (hS.own 1 rfl).slice rfl rfl rfl (by intro a _ u hu; simp [e_api_Addr, encI, encN, encB, encT] at hu; rcases hu with rfl | rfl | rfl | rfl | rfl | rfl | rfl | rfl | rfl | rfl | rfl | rfl | rfl | rfl | rfl | rfl | rfl <;> rfl) ho_5 (by omega)) ?_
          rintro v_2 h_11 ⟨hS, hk⟩
          replace hS : St F_6 (Ow.own 34 17 e_api_Addr v_2 ((([] : List T_api_Addr) ++ (cut l 0 n_1)) ++ ([a] : List T_api_Addr)) :: Ow.own 34 17 e_api_Addr (.slice (some ⟨b_3, 0, none⟩) 1 1) ([a] : List T_api_Addr) :: Ow.box b_1 34 (e_api_Addr a).toArray :: fr) h_11 := hS
          replace hK := hK.trans hk
          replace hL_l := hL_l.kp hk
          refine HA.one (k := 11) ⟨⟨hL_l.is, (hS.box 2 rfl)⟩, (Go.Wk.at_nil _ _)⟩ (by kernel_rfl) ?_
          refine HS.eff rfl (want_none) rfl (st_append te_22 hS (i := 0) rfl (cutIs hL_l.is n_1 (l.length : Int) ho_3.1 ho_3.2 (Int.le_refl _)) rfl rfl rfl (by intro a _ u hu; simp [e_api_Addr, encI, encN, encB, encT] at hu; rcases hu with rfl | rfl | rfl | rfl | rfl | rfl | rfl | rfl | rfl | rfl | rfl | rfl | rfl | rfl | rfl | rfl | rfl <;> rfl) ho_6 (by omega)) ?_
          rintro v_3 h_12 ⟨hS, hk⟩
          replace hS : St F_6 (Ow.own 34 17 e_api_Addr v_3 (((([] : List T_api_Addr) ++ (cut l 0 n_1)) ++ ([a] : List T_api_Addr)) ++ (cut l n_1 (l.length : Int))) :: Ow.own 34 17 e_api_Addr (.slice (some ⟨b_3, 0, none⟩) 1 1) ([a] : List T_api_Addr) :: Ow.box b_1 34 (e_api_Addr a).toArray :: fr) h_12 := hS
          replace hK := hK.trans hk
          replace hL_l := hL_l.kp hk
          refine HA.val (k := 12) (v := v_3) rfl rfl (by kernel_rfl) (by kernel_rfl) (want_none) rfl (fun _ ⟨hL_l, c203⟩ => q_assign rfl) ?_
          refine HA.nil ⟨⟨hL_l.is, (hS.box 2 rfl)⟩, (Go.Wk.at_nil _ _)⟩ (by kernel_rfl) (thenQ_normal (?_))
          refine HW.ret (?_)
          refine ⟨.inr rfl, v_3, res1 rfl (rt rfl), ?_⟩
          obtain ⟨F_7, hS, hk, hL_2⟩ := hS.freezeOwn
          replace hK := hK.trans hk
          replace hL_l := hL_l.kp hk
          replace hS : St F_7 (fr) h_12 := hS.perm2 [] 2 rfl rfl
          exact ⟨F_7, ((([] : List T_api_Addr) ++ (cut l 0 n_1)) ++ ([a] : List T_api_Addr)) ++ (cut l n_1 (l.length : Int)), v_3, rfl, hK, hS, hL_l, hL_2, hM⟩

def ref11_Of_l1 (l : List T_api_Addr) (Q : (List T_api_Addr) → Prop) (K_1 : (List T_api_Addr) → Int → Prop) (out_1 : List T_api_Addr) (i_1 : Int) : Prop :=
  (i_1 < (l.length : Int) → ((0 : Int) ≤ i_1 ∧ i_1 < (l.length : Int)) ∧ (ref11_Add_W out_1 (gi l i_1) (fun r_2 => (I64 (i_1 + 1)) ∧ (K_1 r_2 (i_1 + 1))))) ∧ (¬ (i_1 < (l.length : Int)) → Q out_1)
def ref11_Of_W (l : List T_api_Addr) (Q : (List T_api_Addr) → Prop) : Prop :=
  loopW (fun (K_1 : (List T_api_Addr × Int) → Prop) (s : List T_api_Addr × Int) => ref11_Of_l1 l Q (fun out_1 i_1 => K_1 (out_1, i_1)) s.1 s.2) ([], 0)
set_option maxHeartbeats 40000000 in
set_option maxRecDepth 100000 in
theorem ref11_Of_walk {F : Fz} {fr : List Ow} {h0 : Heap} (l : List T_api_Addr) (vl : Value) (hS : St F (fr) h0) (hL_l : SliceF F h0 17 e_api_Addr vl l) {Q : (List T_api_Addr) → Prop} (hM : ref11_Of_W l Q) :
    HC Try.prog 8 #[vl] h0 fun u h' => ∃ (F' : Fz) (r_1 : List T_api_Addr) (vr_1 : Value), u = vr_1 ∧ Kp F h0 F' h' ∧ St F' (fr) h' ∧ (SliceF F' h' 17 e_api_Addr vl l) ∧ (SliceF F' h' 17 e_api_Addr vr_1 r_1) ∧ Q r_1 := by
  unfold ref11_Of_W at hM
  have hK := Kp.refl F h0
  refine HC.of_HW (n := 19) Try.func8 rfl rfl (Nat.le_of_ble_eq_true rfl) ?_
  refine HW.seq ?_
  refine HW.region ?_
  refine HO.val (v := .slice none 0 0) (want_none) rfl (q_assign rfl) ?_
  refine HO.nil (thenQ_normal (?_))
  refine HW.seq ?_
  refine HW.region ?_
  refine HO.eff (want_none) rfl (st_litEmpty (α := T_api_Addr) e_api_Addr hS tl_22) ?_
  rintro _ h_1 ⟨b_1, rfl, hS, hk⟩
  replace hK := hK.trans hk
  replace hL_l := hL_l.kp hk
  refine HO.val (v := .slice (some ⟨b_1, 0, none⟩) 0 0) (want_none) rfl (q_assign rfl) ?_
  refine HO.nil (thenQ_normal (?_))
  refine HW.seq ?_
  refine HW.seq ?_
  refine HW.region ?_
  refine HO.val (v := .int .i64 0) (want_none) rfl (q_assign rfl) ?_
  refine HO.nil (thenQ_normal (?_))
  refine HW.block ?_
  obtain ⟨I_1, m_1, hI_1, hR_1⟩ := hM
  obtain ⟨F_1, hS, hk, hL_3⟩ := hS.freezeOwn
  replace hK := hK.trans hk
  replace hL_l := hL_l.kp hk
  refine HW.loop (S := List T_api_Addr × Int) (fun s f h => match s with | (out_1, i_1) => ∃ (F' : Fz) (vout_1 : Value), f 0 = vl ∧ f 2 = .slice none 0 0 ∧ f 3 = vout_1 ∧ f 4 = .int .i64 i_1 ∧ Kp F h0 F' h ∧ St F' (fr) h ∧ (SliceF F' h 17 e_api_Addr vl l) ∧ (SliceF F' h 17 e_api_Addr vout_1 out_1) ∧ I_1 (out_1, i_1)) m_1 ([], 0) ⟨F_1, .slice (some ⟨b_1, 0, none⟩) 0 0, rfl, rfl, rfl, rfl, hK, hS, hL_l, hL_3, hI_1⟩ ?_
  rintro ⟨out_1, i_1⟩ f_1 h_2 ⟨F_2, vout_1, e0, e2, e3, e4, hK, hS, hL_l, hL_2, hI0⟩
  obtain ⟨K_1, hKe_1⟩ : ∃ K : (List T_api_Addr) → Int → Prop, K = fun out_1' i_1' => I_1 (out_1', i_1') ∧ m_1 (out_1', i_1') < m_1 (out_1, i_1) := ⟨_, rfl⟩
  have hM : ref11_Of_l1 l Q K_1 out_1 i_1 := by rw [hKe_1]; exact hR_1 (out_1, i_1) hI0
  unfold ref11_Of_l1 at hM
  refine HW.fr [(0, vl), (2, .slice none 0 0), (3, vout_1), (4, .int .i64 i_1)] ⟨e0, e2, e3, e4, trivial⟩ ?_
  refine HW.seq ?_
  refine HW.seq ?_
  refine HW.region ?_
  refine HO.val (v := .int .i64 i_1) (want_none) rfl (q_move rfl) ?_
  refine HO.val (v := vl) (want_none) rfl (q_move rfl) ?_
  refine HO.val (v := .int .i64 (l.length : Int)) (want_none) rfl (q_len ts_22 (shp hL_l.is) rfl rfl) ?_
  refine HO.val (v := .bool (decide (i_1 < (l.length : Int)))) (want_none) rfl (q_lss rfl rfl) ?_
  refine HO.nil (thenQ_normal (?_))
  refine HW.cond (decide (i_1 < (l.length : Int))) rfl (fun c_1 => ?_) (fun c_1 => ?_)
  · replace hM := hM.1 (of_decide_eq_true c_1)
    refine HW.skip (thenQ_normal (?_))
    refine HW.seq ?_
    refine HW.block ?_
    refine HW.region ?_
    refine HO.val (v := vout_1) (want_none) rfl (q_move rfl) ?_
    refine HO.val (v := vl) (want_none) rfl (q_move rfl) ?_
    refine HO.val (v := .int .i64 i_1) (want_none) rfl (q_move rfl) ?_
    obtain ⟨ho_1, hM⟩ := hM
    refine HO.val (v := elemPtr 17 vl (i_1).toNat) (want_none) rfl (q_idx ts_22 hL_l.is rfl rfl ho_1) ?_
    refine HO.val (v := .agg (e_api_Addr (gi l i_1)).toArray) (want_none) rfl (q_ldElemAgg (cs := (e_api_Addr (gi l i_1))) ta_34 hL_l.is rfl ho_1 rfl) ?_
    refine HO.call (want_none) rfl (ec en_29 rfl rfl) (ref11_Add_walk (fr := (fr)) out_1 (gi l i_1) vout_1 hS hL_2 hM) ?_
    rintro vr_2 h_3 ⟨F_3, r_2, _, rfl, hk, hS, _, hL_4, hM⟩
    replace hK := hK.trans hk
    replace hL_l := hL_l.kp hk
    replace hL_2 := hL_2.kp hk
    refine HO.val (v := vr_2) (want_none) rfl (q_assign rfl) ?_
    refine HO.nil (blockQ_normal (thenQ_normal (?_)))
    refine HW.region ?_
    refine HO.val (v := .int .i64 i_1) (want_none) rfl (q_move rfl) ?_
    obtain ⟨ho_2, hM⟩ := hM
    refine HO.val (v := .int .i64 (i_1 + 1)) (want_none) rfl (q_addN _ rfl rfl rfl ho_2.1 ho_2.2) ?_
    refine HO.val (v := .int .i64 (i_1 + 1)) (want_none) rfl (q_assign rfl) ?_
    refine HO.nil (thenQ_normal (?_))
    rw [hKe_1] at hM
    exact ⟨(r_2, i_1 + 1), ⟨F_3, vr_2, rfl, rfl, rfl, rfl, hK, hS, hL_l, hL_4, hM.1⟩, hM.2⟩
  · replace hM := hM.2 (of_decide_eq_false c_1)
    refine HW.exit (thenQ_exit (thenQ_exit (blockQ_exit (thenQ_normal (?_)))))
    refine HW.seq ?_
    refine HW.region ?_
    refine HO.val (v := vout_1) (want_none) rfl (q_move rfl) ?_
    refine HO.val (v := vout_1) (want_none) rfl (q_assign rfl) ?_
    refine HO.nil (thenQ_normal (?_))
    refine HW.ret (?_)
    refine ⟨.inr rfl, vout_1, res1 rfl (rt rfl), ?_⟩
    exact ⟨F_2, out_1, vout_1, rfl, hK, hS, hL_l, hL_2, hM⟩

def ref11_Or_W (a : List T_api_Addr) (b : List T_api_Addr) (Q : (List T_api_Addr) → Prop) : Prop :=
  ((([] : List T_api_Addr).length + a.length) * 17 ≤ 140737488355328) ∧ ((((([] : List T_api_Addr) ++ a).length + b.length) * 17 ≤ 140737488355328) ∧ (ref11_Of_W ((([] : List T_api_Addr) ++ a) ++ b) (fun r_2 => Q r_2)))
set_option maxHeartbeats 40000000 in
set_option maxRecDepth 100000 in
theorem ref11_Or_walk {F : Fz} {fr : List Ow} {h0 : Heap} (a : List T_api_Addr) (b : List T_api_Addr) (va : Value) (vb : Value) (hS : St F (fr) h0) (hL_a : SliceF F h0 17 e_api_Addr va a) (hL_b : SliceF F h0 17 e_api_Addr vb b) {Q : (List T_api_Addr) → Prop} (hM : ref11_Or_W a b Q) :
    HC Try.prog 12 #[va, vb] h0 fun u h' => ∃ (F' : Fz) (r_1 : List T_api_Addr) (vr_1 : Value), u = vr_1 ∧ Kp F h0 F' h' ∧ St F' (fr) h' ∧ (SliceF F' h' 17 e_api_Addr va a) ∧ (SliceF F' h' 17 e_api_Addr vb b) ∧ (SliceF F' h' 17 e_api_Addr vr_1 r_1) ∧ Q r_1 := by
  unfold ref11_Or_W at hM
  have hK := Kp.refl F h0
  refine HC.of_HW (n := 11) Try.func12 rfl rfl (Nat.le_of_ble_eq_true rfl) ?_
  refine HW.seq ?_
  refine HW.region ?_
  refine HO.val (v := .slice none 0 0) (want_none) rfl (q_assign rfl) ?_
  refine HO.nil (thenQ_normal (?_))
  refine HW.seq ?_
  refine HW.region ?_
  refine HO.eff (want_none) rfl (st_litEmpty (α := T_api_Addr) e_api_Addr hS tl_22) ?_
  rintro _ h_1 ⟨b_1, rfl, hS, hk⟩
  replace hK := hK.trans hk
  replace hL_a := hL_a.kp hk
  replace hL_b := hL_b.kp hk
  refine HO.val (v := va) (want_none) rfl (q_move rfl) ?_
  obtain ⟨ho_1, hM⟩ := hM
  refine HO.eff (want_none) rfl (st_append te_22 hS (i := 0) rfl hL_a.is rfl rfl rfl (by intro a _ u hu; simp [e_api_Addr, encI, encN, encB, encT] at hu; rcases hu with rfl | rfl | rfl | rfl | rfl | rfl | rfl | rfl | rfl | rfl | rfl | rfl | rfl | rfl | rfl | rfl | rfl <;> rfl) ho_1 (by omega)) ?_
  rintro v_1 h_2 ⟨hS, hk⟩
  replace hS : St F (Ow.own 34 17 e_api_Addr v_1 (([] : List T_api_Addr) ++ a) :: fr) h_2 := hS
  replace hK := hK.trans hk
  replace hL_a := hL_a.kp hk
  replace hL_b := hL_b.kp hk
  refine HO.val (v := vb) (want_none) rfl (q_move rfl) ?_
  obtain ⟨ho_2, hM⟩ := hM
  refine HO.eff (want_none) rfl (st_append te_22 hS (i := 0) rfl hL_b.is rfl rfl rfl (by intro a _ u hu; simp [e_api_Addr, encI, encN, encB, encT] at hu; rcases hu with rfl | rfl | rfl | rfl | rfl | rfl | rfl | rfl | rfl | rfl | rfl | rfl | rfl | rfl | rfl | rfl | rfl <;> rfl) ho_2 (by omega)) ?_
  rintro v_2 h_3 ⟨hS, hk⟩
  replace hS : St F (Ow.own 34 17 e_api_Addr v_2 ((([] : List T_api_Addr) ++ a) ++ b) :: fr) h_3 := hS
  replace hK := hK.trans hk
  replace hL_a := hL_a.kp hk
  replace hL_b := hL_b.kp hk
  obtain ⟨F_1, hS, hk, hL_2⟩ := hS.freezeOwn
  replace hK := hK.trans hk
  replace hL_a := hL_a.kp hk
  replace hL_b := hL_b.kp hk
  refine HO.call (want_none) rfl (ec en_8 rfl rfl) (ref11_Of_walk (fr := (fr)) ((([] : List T_api_Addr) ++ a) ++ b) v_2 hS hL_2 hM) ?_
  rintro vr_2 h_4 ⟨F_2, r_2, _, rfl, hk, hS, _, hL_3, hM⟩
  replace hK := hK.trans hk
  replace hL_a := hL_a.kp hk
  replace hL_b := hL_b.kp hk
  replace hL_2 := hL_2.kp hk
  refine HO.val (v := vr_2) (want_none) rfl (q_assign rfl) ?_
  refine HO.nil (thenQ_normal (?_))
  refine HW.ret (?_)
  refine ⟨.inr rfl, vr_2, res1 rfl (rt rfl), ?_⟩
  exact ⟨F_2, r_2, vr_2, rfl, hK, hS, hL_a, hL_b, hL_3, hM⟩

def ref15_Expire_j1 (s_Exclude : Bool) (s_On : List T_api_Addr) (s_Off : List T_api_Addr) (l : List T_api_Addr) (Q : Bool → (List T_api_Addr) → (List T_api_Addr) → Prop) (out_1_1 : List T_api_Addr) : Prop :=
  (s_Exclude = true → ref11_Pick_W s_On l true (fun r_2 => ref11_Or_W s_Off r_2 (fun r_3 => Q s_Exclude out_1_1 r_3))) ∧ (s_Exclude = false → Q s_Exclude out_1_1 s_Off)
def ref15_Expire_W (s_Exclude : Bool) (s_On : List T_api_Addr) (s_Off : List T_api_Addr) (l : List T_api_Addr) (Q : Bool → (List T_api_Addr) → (List T_api_Addr) → Prop) : Prop :=
  ref11_Pick_W s_On l false (fun r_1 => ref15_Expire_j1 s_Exclude s_On s_Off l Q r_1)
set_option maxHeartbeats 40000000 in
set_option maxRecDepth 100000 in
theorem ref15_Expire_walk {F : Fz} {fr : List Ow} {h0 : Heap} (s_Exclude : Bool) (s_On : List T_api_Addr) (s_Off : List T_api_Addr) (l : List T_api_Addr) (vs_On : Value) (vs_Off : Value) (vl : Value) (hS : St F (fr) h0) (hL_s_On : SliceF F h0 17 e_api_Addr vs_On s_On) (hL_s_Off : SliceF F h0 17 e_api_Addr vs_Off s_Off) (hL_l : SliceF F h0 17 e_api_Addr vl l) {Q : Bool → (List T_api_Addr) → (List T_api_Addr) → Prop} (hM : ref15_Expire_W s_Exclude s_On s_Off l Q) :
    HC Try.prog 22 #[.agg #[.bool s_Exclude, vs_On, vs_Off], vl] h0 fun u h' => ∃ (F' : Fz) (r_0_1 : Bool) (r_1_1 : List T_api_Addr) (r_2_1 : List T_api_Addr) (vr_1_1 : Value) (vr_2_1 : Value), u = .agg #[.bool r_0_1, vr_1_1, vr_2_1] ∧ Kp F h0 F' h' ∧ St F' (Ow.own 34 17 e_api_Addr vr_1_1 r_1_1 :: fr) h' ∧ (SliceF F' h' 17 e_api_Addr vs_On s_On) ∧ (SliceF F' h' 17 e_api_Addr vs_Off s_Off) ∧ (SliceF F' h' 17 e_api_Addr vl l) ∧ (SliceF F' h' 17 e_api_Addr vr_2_1 r_2_1) ∧ Q r_0_1 r_1_1 r_2_1 := by
  unfold ref15_Expire_W at hM
  have hK := Kp.refl F h0
  refine HC.of_HW (n := 26) Try.func22 rfl rfl (Nat.le_of_ble_eq_true rfl) ?_
  refine HW.seq ?_
  refine HW.region ?_
  refine HO.eff (want_none) rfl (st_box (c := #[.bool s_Exclude, vs_On, vs_Off]) (k' := 3) hS rfl rfl) ?_
  rintro _ h_1 ⟨b_1, rfl, hS, hk⟩
  replace hK := hK.trans hk
  replace hL_s_On := hL_s_On.kp hk
  replace hL_s_Off := hL_s_Off.kp hk
  replace hL_l := hL_l.kp hk
  refine HO.eff (want_none) rfl (st_alloc (c := #[.bool false, .slice none 0 0, .slice none 0 0]) hS tz_24 rfl) ?_
  rintro _ h_2 ⟨b_2, rfl, hS, hk⟩
  replace hK := hK.trans hk
  replace hL_s_On := hL_s_On.kp hk
  replace hL_s_Off := hL_s_Off.kp hk
  replace hL_l := hL_l.kp hk
  refine HO.nil (thenQ_normal (?_))
  refine HW.seq_mid (fun f h => ∃ (F' : Fz) (out_1_1 : List T_api_Addr) (b_3 : Nat) (vout_1_1 : Value), f 1 = vl ∧ f 2 = .pointer (some ⟨b_1, 0, none⟩) ∧ f 4 = .pointer (some ⟨b_2, 0, none⟩) ∧ f 5 = .pointer (some ⟨b_3, 0, none⟩) ∧ Kp F h0 F' h ∧ St F' (Ow.box b_1 24 #[.bool s_Exclude, vs_On, vs_Off] :: Ow.box b_2 24 #[.bool false, .slice none 0 0, .slice none 0 0] :: Ow.box b_3 24 #[.bool s_Exclude, vout_1_1, vs_Off] :: Ow.own 34 17 e_api_Addr vout_1_1 out_1_1 :: fr) h ∧ (SliceF F' h 17 e_api_Addr vs_On s_On) ∧ (SliceF F' h 17 e_api_Addr vs_Off s_Off) ∧ (SliceF F' h 17 e_api_Addr vl l) ∧ ref15_Expire_j1 s_Exclude s_On s_Off l Q out_1_1) ?_ ?_
  · refine HW.regionA 11 mixed (fun h => (SliceIs h 17 e_api_Addr vs_Off s_Off) ∧ (Blk h b_1 (.cells #[.bool s_Exclude, vs_On, vs_Off] 24 (0, 0)))) [] (by kernel_rfl) ?_
    refine HA.val (k := 0) (v := .pointer (some ⟨b_1, 0, none⟩)) rfl rfl (by kernel_rfl) (by kernel_rfl) (want_none) rfl (fun _ ⟨hL_s_Off, c202⟩ => q_fieldAddr fa_24_0 rfl rfl) ?_
    refine HA.val (k := 1) (v := .bool s_Exclude) rfl rfl (by kernel_rfl) (by kernel_rfl) (want_none) rfl (fun _ ⟨hL_s_Off, c202⟩ => q_load to_4 rfl (Blk.cell c202 rfl)) ?_
    refine HA.val (k := 2) (v := .pointer (some ⟨b_1, 1, none⟩)) rfl rfl (by kernel_rfl) (by kernel_rfl) (want_none) rfl (fun _ ⟨hL_s_Off, c202⟩ => q_fieldAddr fa_24_1 rfl rfl) ?_
    refine HA.val (k := 3) (v := vs_On) rfl rfl (by kernel_rfl) (by kernel_rfl) (want_none) rfl (fun _ ⟨hL_s_Off, c202⟩ => q_load to_22 rfl (Blk.cell c202 rfl)) ?_
    refine HA.val (k := 4) (v := vl) rfl rfl (by kernel_rfl) (by kernel_rfl) (want_none) rfl (fun _ ⟨hL_s_Off, c202⟩ => q_move rfl) ?_
    refine HA.val (k := 6) (v := .pointer (some ⟨b_1, 2, none⟩)) rfl rfl (by kernel_rfl) (by kernel_rfl) (want_none) rfl (fun _ ⟨hL_s_Off, c202⟩ => q_fieldAddr fa_24_2 rfl rfl) ?_
    refine HA.val (k := 7) (v := vs_Off) rfl rfl (by kernel_rfl) (by kernel_rfl) (want_none) rfl (fun _ ⟨hL_s_Off, c202⟩ => q_load to_22 rfl (Blk.cell c202 rfl)) ?_
    refine HA.two (k := 5) (k' := 9) ⟨⟨hL_s_Off.is, (hS.box 1 rfl)⟩, (Go.Wk.at_nil _ _)⟩ (by kernel_rfl) ?_ ?_
    · refine HS.call rfl (want_none) rfl (ec en_42 rfl rfl) (ref11_Pick_walk (fr := (Ow.box b_2 24 #[.bool false, .slice none 0 0, .slice none 0 0] :: Ow.box b_1 24 #[.bool s_Exclude, vs_On, vs_Off] :: fr)) s_On l false vs_On vl hS hL_s_On hL_l hM) ?_
      rintro vr_1 h_3 ⟨F_1, r_1, _, rfl, hk, hS, _, _, hM⟩
      replace hK := hK.trans hk
      replace hL_s_On := hL_s_On.kp hk
      replace hL_s_Off := hL_s_Off.kp hk
      replace hL_l := hL_l.kp hk
      refine Go.Wk.HA.re (fun h => (SliceIs h 17 e_api_Addr vs_Off s_Off) ∧ (OwnIs h 0 34 17 e_api_Addr vr_1 r_1) ∧ (Blk h b_1 (.cells #[.bool s_Exclude, vs_On, vs_Off] 24 (0, 0)))) [] (fun L_ h_ hL_ ⟨hL_s_Off, c238, c202⟩ hs_ => ⟨⟨hL_s_Off, c202⟩, (Go.Wk.at_nil _ _)⟩) ?_
      refine HA.val (k := 8) (v := .agg #[.bool s_Exclude, vr_1, vs_Off]) rfl rfl (by kernel_rfl) (by kernel_rfl) (want_none) rfl (fun _ ⟨hL_s_Off, c238, c202⟩ => q_build tp_24 (fill_cons (cs' := #[.bool s_Exclude, .slice none 0 0, .slice none 0 0]) (vc := #[.bool s_Exclude]) rfl rfl rfl (Nat.le_of_ble_eq_true rfl) rfl (fill_cons (cs' := #[.bool s_Exclude, vr_1, .slice none 0 0]) (vc := #[vr_1]) rfl (shp c238.slice).cells rfl (Nat.le_of_ble_eq_true rfl) rfl (fill_cons (cs' := #[.bool s_Exclude, vr_1, vs_Off]) (vc := #[vs_Off]) rfl (shp hL_s_Off).cells rfl (Nat.le_of_ble_eq_true rfl) rfl rfl)))) ?_
      refine HA.one (k := 9) ⟨⟨hL_s_Off.is, (hS.own 0 rfl), (hS.box 2 rfl)⟩, (Go.Wk.at_nil _ _)⟩ (by kernel_rfl) ?_
      refine HS.eff rfl (want_none) rfl (st_alloc (c := #[.bool false, .slice none 0 0, .slice none 0 0]) hS tz_24 rfl) ?_
      rintro _ h_4 ⟨b_4, rfl, hS, hk⟩
      replace hK := hK.trans hk
      replace hL_s_On := hL_s_On.kp hk
      replace hL_s_Off := hL_s_Off.kp hk
      replace hL_l := hL_l.kp hk
      refine HA.one (k := 10) ⟨⟨hL_s_Off.is, (hS.own 1 rfl), (hS.box 3 rfl)⟩, (Go.Wk.at_nil _ _)⟩ (by kernel_rfl) ?_
      refine HS.sto rfl (want_none) rfl (st_storeAgg (c' := #[.bool s_Exclude, vr_1, vs_Off]) hS (i := 0) rfl ta_24 rfl rfl rfl (List.forall_mem_cons.2 ⟨rfl, (List.forall_mem_cons.2 ⟨(shp (hS.own 1 rfl).slice).one, (List.forall_mem_cons.2 ⟨(shp hL_s_Off.is).one, (fun _ h => by cases h)⟩)⟩)⟩) (Nat.le_of_ble_eq_true rfl) rfl) ?_
      rintro h_5 ⟨hS, hk⟩
      replace hS : St F_1 (Ow.box b_4 24 #[.bool s_Exclude, vr_1, vs_Off] :: Ow.own 34 17 e_api_Addr vr_1 r_1 :: Ow.box b_2 24 #[.bool false, .slice none 0 0, .slice none 0 0] :: Ow.box b_1 24 #[.bool s_Exclude, vs_On, vs_Off] :: fr) h_5 := hS
      replace hK := hK.trans hk
      replace hL_s_On := hL_s_On.kp hk
      replace hL_s_Off := hL_s_Off.kp hk
      replace hL_l := hL_l.kp hk
      refine HA.nil ⟨⟨hL_s_Off.is, (hS.own 1 rfl), (hS.box 3 rfl)⟩, (Go.Wk.at_nil _ _)⟩ (by kernel_rfl) (thenQ_normal (?_))
      replace hS : St F_1 (Ow.box b_1 24 #[.bool s_Exclude, vs_On, vs_Off] :: Ow.box b_2 24 #[.bool false, .slice none 0 0, .slice none 0 0] :: Ow.box b_4 24 #[.bool s_Exclude, vr_1, vs_Off] :: Ow.own 34 17 e_api_Addr vr_1 r_1 :: fr) h_5 := hS.perm2 [3, 2, 0, 1] 4 rfl rfl
      exact ⟨F_1, r_1, b_4, vr_1, rfl, rfl, rfl, rfl, hK, hS, hL_s_On, hL_s_Off, hL_l, hM⟩
    · refine HS.eff rfl (want_none) rfl (st_alloc (c := #[.bool false, .slice none 0 0, .slice none 0 0]) hS tz_24 rfl) ?_
      rintro _ h_3 ⟨b_4, rfl, hS, hk⟩
      replace hK := hK.trans hk
      replace hL_s_On := hL_s_On.kp hk
      replace hL_s_Off := hL_s_Off.kp hk
      replace hL_l := hL_l.kp hk
      refine HA.one (k := 5) ⟨⟨hL_s_Off.is, (hS.box 2 rfl)⟩, (Go.Wk.at_nil _ _)⟩ (by kernel_rfl) ?_
      refine HS.call rfl (want_none) rfl (ec en_42 rfl rfl) (ref11_Pick_walk (fr := (Ow.box b_4 24 #[.bool false, .slice none 0 0, .slice none 0 0] :: Ow.box b_2 24 #[.bool false, .slice none 0 0, .slice none 0 0] :: Ow.box b_1 24 #[.bool s_Exclude, vs_On, vs_Off] :: fr)) s_On l false vs_On vl hS hL_s_On hL_l hM) ?_
      rintro vr_1 h_4 ⟨F_1, r_1, _, rfl, hk, hS, _, _, hM⟩
      replace hK := hK.trans hk
      replace hL_s_On := hL_s_On.kp hk
      replace hL_s_Off := hL_s_Off.kp hk
      replace hL_l := hL_l.kp hk
      refine Go.Wk.HA.re (fun h => (SliceIs h 17 e_api_Addr vs_Off s_Off) ∧ (OwnIs h 0 34 17 e_api_Addr vr_1 r_1) ∧ (Blk h b_1 (.cells #[.bool s_Exclude, vs_On, vs_Off] 24 (0, 0)))) [] (fun L_ h_ hL_ ⟨hL_s_Off, c238, c202⟩ hs_ => ⟨⟨hL_s_Off, c202⟩, (Go.Wk.at_nil _ _)⟩) ?_
      refine HA.val (k := 8) (v := .agg #[.bool s_Exclude, vr_1, vs_Off]) rfl rfl (by kernel_rfl) (by kernel_rfl) (want_none) rfl (fun _ ⟨hL_s_Off, c238, c202⟩ => q_build tp_24 (fill_cons (cs' := #[.bool s_Exclude, .slice none 0 0, .slice none 0 0]) (vc := #[.bool s_Exclude]) rfl rfl rfl (Nat.le_of_ble_eq_true rfl) rfl (fill_cons (cs' := #[.bool s_Exclude, vr_1, .slice none 0 0]) (vc := #[vr_1]) rfl (shp c238.slice).cells rfl (Nat.le_of_ble_eq_true rfl) rfl (fill_cons (cs' := #[.bool s_Exclude, vr_1, vs_Off]) (vc := #[vs_Off]) rfl (shp hL_s_Off).cells rfl (Nat.le_of_ble_eq_true rfl) rfl rfl)))) ?_
      refine HA.one (k := 10) ⟨⟨hL_s_Off.is, (hS.own 0 rfl), (hS.box 3 rfl)⟩, (Go.Wk.at_nil _ _)⟩ (by kernel_rfl) ?_
      refine HS.sto rfl (want_none) rfl (st_storeAgg (c' := #[.bool s_Exclude, vr_1, vs_Off]) hS (i := 1) rfl ta_24 rfl rfl rfl (List.forall_mem_cons.2 ⟨rfl, (List.forall_mem_cons.2 ⟨(shp (hS.own 0 rfl).slice).one, (List.forall_mem_cons.2 ⟨(shp hL_s_Off.is).one, (fun _ h => by cases h)⟩)⟩)⟩) (Nat.le_of_ble_eq_true rfl) rfl) ?_
      rintro h_5 ⟨hS, hk⟩
      replace hS : St F_1 (Ow.own 34 17 e_api_Addr vr_1 r_1 :: Ow.box b_4 24 #[.bool s_Exclude, vr_1, vs_Off] :: Ow.box b_2 24 #[.bool false, .slice none 0 0, .slice none 0 0] :: Ow.box b_1 24 #[.bool s_Exclude, vs_On, vs_Off] :: fr) h_5 := hS
      replace hK := hK.trans hk
      replace hL_s_On := hL_s_On.kp hk
      replace hL_s_Off := hL_s_Off.kp hk
      replace hL_l := hL_l.kp hk
      refine HA.nil ⟨⟨hL_s_Off.is, (hS.own 0 rfl), (hS.box 3 rfl)⟩, (Go.Wk.at_nil _ _)⟩ (by kernel_rfl) (thenQ_normal (?_))
      replace hS : St F_1 (Ow.box b_1 24 #[.bool s_Exclude, vs_On, vs_Off] :: Ow.box b_2 24 #[.bool false, .slice none 0 0, .slice none 0 0] :: Ow.box b_4 24 #[.bool s_Exclude, vr_1, vs_Off] :: Ow.own 34 17 e_api_Addr vr_1 r_1 :: fr) h_5 := hS.perm2 [3, 2, 1, 0] 4 rfl rfl
      exact ⟨F_1, r_1, b_4, vr_1, rfl, rfl, rfl, rfl, hK, hS, hL_s_On, hL_s_Off, hL_l, hM⟩
  · rintro f_1 h_6 ⟨F_2, out_1_1, b_3, vout_1_1, e1, e2, e4, e5, hK, hS, hL_s_On, hL_s_Off, hL_l, hM⟩
    unfold ref15_Expire_j1 at hM
    refine HW.fr [(1, vl), (2, .pointer (some ⟨b_1, 0, none⟩)), (4, .pointer (some ⟨b_2, 0, none⟩)), (5, .pointer (some ⟨b_3, 0, none⟩))] ⟨e1, e2, e4, e5, trivial⟩ ?_
    refine HW.seq ?_
    refine HW.seq ?_
    refine HW.region ?_
    refine HO.val (v := .pointer (some ⟨b_1, 0, none⟩)) (want_none) rfl (q_fieldAddr fa_24_0 rfl rfl) ?_
    refine HO.val (v := .bool s_Exclude) (want_none) rfl (q_load to_4 rfl (Blk.cell (hS.box 0 rfl) rfl)) ?_
    refine HO.nil (thenQ_normal (?_))
    refine HW.cond s_Exclude rfl (fun c_1 => ?_) (fun c_1 => ?_)
    · replace hM := hM.1 c_1
      refine HW.regionA 9 mixed (fun h => (Blk h b_1 (.cells #[.bool s_Exclude, vs_On, vs_Off] 24 (0, 0)))) [] (by kernel_rfl) ?_
      refine HA.val (k := 0) (v := .pointer (some ⟨b_1, 2, none⟩)) rfl rfl (by kernel_rfl) (by kernel_rfl) (want_none) rfl (fun _ c204 => q_fieldAddr fa_24_2 rfl rfl) ?_
      refine HA.val (k := 1) (v := vs_Off) rfl rfl (by kernel_rfl) (by kernel_rfl) (want_none) rfl (fun _ c204 => q_load to_22 rfl (Blk.cell c204 rfl)) ?_
      refine HA.val (k := 2) (v := .pointer (some ⟨b_1, 1, none⟩)) rfl rfl (by kernel_rfl) (by kernel_rfl) (want_none) rfl (fun _ c204 => q_fieldAddr fa_24_1 rfl rfl) ?_
      refine HA.val (k := 3) (v := vs_On) rfl rfl (by kernel_rfl) (by kernel_rfl) (want_none) rfl (fun _ c204 => q_load to_22 rfl (Blk.cell c204 rfl)) ?_
      refine HA.val (k := 4) (v := vl) rfl rfl (by kernel_rfl) (by kernel_rfl) (want_none) rfl (fun _ c204 => q_move rfl) ?_
      refine HA.one (k := 5) ⟨(hS.box 0 rfl), (Go.Wk.at_nil _ _)⟩ (by kernel_rfl) ?_
      refine HS.call rfl (want_none) rfl (ec en_42 rfl rfl) (ref11_Pick_walk (fr := (Ow.box b_1 24 #[.bool s_Exclude, vs_On, vs_Off] :: Ow.box b_2 24 #[.bool false, .slice none 0 0, .slice none 0 0] :: Ow.box b_3 24 #[.bool s_Exclude, vout_1_1, vs_Off] :: Ow.own 34 17 e_api_Addr vout_1_1 out_1_1 :: fr)) s_On l true vs_On vl hS hL_s_On hL_l hM) ?_
      rintro vr_2 h_7 ⟨F_3, r_2, _, rfl, hk, hS, _, _, hM⟩
      replace hK := hK.trans hk
      replace hL_s_On := hL_s_On.kp hk
      replace hL_s_Off := hL_s_Off.kp hk
      replace hL_l := hL_l.kp hk
      refine HA.one (k := 6) ⟨(hS.box 1 rfl), (Go.Wk.at_nil _ _)⟩ (by kernel_rfl) ?_
      obtain ⟨F_4, hS, hk, hL_2⟩ := hS.freezeOwn
      replace hK := hK.trans hk
      replace hL_s_On := hL_s_On.kp hk
      replace hL_s_Off := hL_s_Off.kp hk
      replace hL_l := hL_l.kp hk
      refine HS.call rfl (want_none) rfl (ec en_12 rfl rfl) (ref11_Or_walk (fr := (Ow.box b_1 24 #[.bool s_Exclude, vs_On, vs_Off] :: Ow.box b_2 24 #[.bool false, .slice none 0 0, .slice none 0 0] :: Ow.box b_3 24 #[.bool s_Exclude, vout_1_1, vs_Off] :: Ow.own 34 17 e_api_Addr vout_1_1 out_1_1 :: fr)) s_Off r_2 vs_Off vr_2 hS hL_s_Off hL_2 hM) ?_
      rintro vr_3 h_8 ⟨F_5, r_3, _, rfl, hk, hS, _, _, hL_3, hM⟩
      replace hK := hK.trans hk
      replace hL_s_On := hL_s_On.kp hk
      replace hL_s_Off := hL_s_Off.kp hk
      replace hL_l := hL_l.kp hk
      replace hL_2 := hL_2.kp hk
      refine HA.val (k := 7) (v := .pointer (some ⟨b_3, 2, none⟩)) rfl rfl (by kernel_rfl) (by kernel_rfl) (want_none) rfl (fun _ c204 => q_fieldAddr fa_24_2 rfl rfl) ?_
      refine HA.one (k := 8) ⟨(hS.box 0 rfl), (Go.Wk.at_nil _ _)⟩ (by kernel_rfl) ?_
      refine HS.sto rfl (want_none) rfl (st_store (c' := #[.bool s_Exclude, vout_1_1, vr_3]) hS (i := 2) rfl to_22 rfl rfl (shp hL_3.is).cells (shp hL_3.is).one (Nat.le_of_ble_eq_true rfl) rfl) ?_
      rintro h_9 ⟨hS, hk⟩
      replace hS : St F_5 (Ow.box b_1 24 #[.bool s_Exclude, vs_On, vs_Off] :: Ow.box b_2 24 #[.bool false, .slice none 0 0, .slice none 0 0] :: Ow.box b_3 24 #[.bool s_Exclude, vout_1_1, vr_3] :: Ow.own 34 17 e_api_Addr vout_1_1 out_1_1 :: fr) h_9 := hS
      replace hK := hK.trans hk
      replace hL_s_On := hL_s_On.kp hk
      replace hL_s_Off := hL_s_Off.kp hk
      replace hL_l := hL_l.kp hk
      replace hL_2 := hL_2.kp hk
      replace hL_3 := hL_3.kp hk
      refine HA.nil ⟨(hS.box 0 rfl), (Go.Wk.at_nil _ _)⟩ (by kernel_rfl) (thenQ_normal (?_))
      refine HW.seq ?_
      refine HW.region ?_
      refine HO.val (v := .agg #[.bool s_Exclude, vout_1_1, vr_3]) (want_none) rfl (q_loadAgg (cs := [.bool s_Exclude, vout_1_1, vr_3]) ta_24 rfl rfl (Blk.cells (k := 3) (hS.box 2 rfl) rfl)) ?_
      refine HO.sto (want_none) rfl (st_storeAgg (c' := #[.bool s_Exclude, vout_1_1, vr_3]) hS (i := 1) rfl ta_24 rfl rfl rfl (List.forall_mem_cons.2 ⟨rfl, (List.forall_mem_cons.2 ⟨(shp (hS.own 3 rfl).slice).one, (List.forall_mem_cons.2 ⟨(shp hL_3.is).one, (fun _ h => by cases h)⟩)⟩)⟩) (Nat.le_of_ble_eq_true rfl) rfl) ?_
      rintro h_10 ⟨hS, hk⟩
      replace hS : St F_5 (Ow.box b_1 24 #[.bool s_Exclude, vs_On, vs_Off] :: Ow.box b_2 24 #[.bool s_Exclude, vout_1_1, vr_3] :: Ow.box b_3 24 #[.bool s_Exclude, vout_1_1, vr_3] :: Ow.own 34 17 e_api_Addr vout_1_1 out_1_1 :: fr) h_10 := hS
      replace hK := hK.trans hk
      replace hL_s_On := hL_s_On.kp hk
      replace hL_s_Off := hL_s_Off.kp hk
      replace hL_l := hL_l.kp hk
      replace hL_2 := hL_2.kp hk
      replace hL_3 := hL_3.kp hk
      refine HO.nil (thenQ_normal (?_))
      refine HW.ret (?_)
      refine ⟨.inr rfl, .agg #[.bool s_Exclude, vout_1_1, vr_3], res1 rfl (rca (cs := [.bool s_Exclude, vout_1_1, vr_3]) ta_24 rfl rfl (Blk.cells (k := 3) (hS.box 1 rfl) rfl)), ?_⟩
      replace hS : St F_5 (Ow.own 34 17 e_api_Addr vout_1_1 out_1_1 :: fr) h_10 := hS.perm2 [3] 4 rfl rfl
      exact ⟨F_5, s_Exclude, out_1_1, r_3, vout_1_1, vr_3, rfl, hK, hS, hL_s_On, hL_s_Off, hL_l, hL_3, hM⟩
    · replace hM := hM.2 c_1
      refine HW.skip (thenQ_normal (?_))
      refine HW.seq ?_
      refine HW.region ?_
      refine HO.val (v := .agg #[.bool s_Exclude, vout_1_1, vs_Off]) (want_none) rfl (q_loadAgg (cs := [.bool s_Exclude, vout_1_1, vs_Off]) ta_24 rfl rfl (Blk.cells (k := 3) (hS.box 2 rfl) rfl)) ?_
      refine HO.sto (want_none) rfl (st_storeAgg (c' := #[.bool s_Exclude, vout_1_1, vs_Off]) hS (i := 1) rfl ta_24 rfl rfl rfl (List.forall_mem_cons.2 ⟨rfl, (List.forall_mem_cons.2 ⟨(shp (hS.own 3 rfl).slice).one, (List.forall_mem_cons.2 ⟨(shp hL_s_Off.is).one, (fun _ h => by cases h)⟩)⟩)⟩) (Nat.le_of_ble_eq_true rfl) rfl) ?_
      rintro h_11 ⟨hS, hk⟩
      replace hS : St F_2 (Ow.box b_1 24 #[.bool s_Exclude, vs_On, vs_Off] :: Ow.box b_2 24 #[.bool s_Exclude, vout_1_1, vs_Off] :: Ow.box b_3 24 #[.bool s_Exclude, vout_1_1, vs_Off] :: Ow.own 34 17 e_api_Addr vout_1_1 out_1_1 :: fr) h_11 := hS
      replace hK := hK.trans hk
      replace hL_s_On := hL_s_On.kp hk
      replace hL_s_Off := hL_s_Off.kp hk
      replace hL_l := hL_l.kp hk
      refine HO.nil (thenQ_normal (?_))
      refine HW.ret (?_)
      refine ⟨.inr rfl, .agg #[.bool s_Exclude, vout_1_1, vs_Off], res1 rfl (rca (cs := [.bool s_Exclude, vout_1_1, vs_Off]) ta_24 rfl rfl (Blk.cells (k := 3) (hS.box 1 rfl) rfl)), ?_⟩
      replace hS : St F_2 (Ow.own 34 17 e_api_Addr vout_1_1 out_1_1 :: fr) h_11 := hS.perm2 [3] 4 rfl rfl
      exact ⟨F_2, s_Exclude, out_1_1, s_Off, vout_1_1, vs_Off, rfl, hK, hS, hL_s_On, hL_s_Off, hL_l, hL_s_Off, hM⟩

def ref15_Turn_W (s_Exclude : Bool) (s_On : List T_api_Addr) (s_Off : List T_api_Addr) (Q : Bool → (List T_api_Addr) → (List T_api_Addr) → Prop) : Prop :=
  Q false s_On []
set_option maxHeartbeats 40000000 in
set_option maxRecDepth 100000 in
theorem ref15_Turn_walk {F : Fz} {fr : List Ow} {h0 : Heap} (s_Exclude : Bool) (s_On : List T_api_Addr) (s_Off : List T_api_Addr) (vs_On : Value) (vs_Off : Value) (hS : St F (fr) h0) (hL_s_On : SliceF F h0 17 e_api_Addr vs_On s_On) (hL_s_Off : SliceF F h0 17 e_api_Addr vs_Off s_Off) {Q : Bool → (List T_api_Addr) → (List T_api_Addr) → Prop} (hM : ref15_Turn_W s_Exclude s_On s_Off Q) :
    HC Try.prog 23 #[.agg #[.bool s_Exclude, vs_On, vs_Off]] h0 fun u h' => ∃ (F' : Fz) (r_0_1 : Bool) (r_1_1 : List T_api_Addr) (r_2_1 : List T_api_Addr) (vr_1_1 : Value) (vr_2_1 : Value), u = .agg #[.bool r_0_1, vr_1_1, vr_2_1] ∧ Kp F h0 F' h' ∧ St F' (Ow.own 34 17 e_api_Addr vr_2_1 r_2_1 :: fr) h' ∧ (SliceF F' h' 17 e_api_Addr vs_On s_On) ∧ (SliceF F' h' 17 e_api_Addr vs_Off s_Off) ∧ (SliceF F' h' 17 e_api_Addr vr_1_1 r_1_1) ∧ Q r_0_1 r_1_1 r_2_1 := by
  unfold ref15_Turn_W at hM
  have hK := Kp.refl F h0
  refine HC.of_HW (n := 6) Try.func23 rfl rfl (Nat.le_of_ble_eq_true rfl) ?_
  refine HW.seq ?_
  refine HW.region ?_
  refine HO.eff (want_none) rfl (st_box (c := #[.bool s_Exclude, vs_On, vs_Off]) (k' := 3) hS rfl rfl) ?_
  rintro _ h_1 ⟨b_1, rfl, hS, hk⟩
  replace hK := hK.trans hk
  replace hL_s_On := hL_s_On.kp hk
  replace hL_s_Off := hL_s_Off.kp hk
  refine HO.eff (want_none) rfl (st_alloc (c := #[.bool false, .slice none 0 0, .slice none 0 0]) hS tz_24 rfl) ?_
  rintro _ h_2 ⟨b_2, rfl, hS, hk⟩
  replace hK := hK.trans hk
  replace hL_s_On := hL_s_On.kp hk
  replace hL_s_Off := hL_s_Off.kp hk
  refine HO.nil (thenQ_normal (?_))
  refine HW.seq ?_
  refine HW.region ?_
  refine HO.val (v := .pointer (some ⟨b_1, 1, none⟩)) (want_none) rfl (q_fieldAddr fa_24_1 rfl rfl) ?_
  refine HO.val (v := vs_On) (want_none) rfl (q_load to_22 rfl (Blk.cell (hS.box 1 rfl) rfl)) ?_
  refine HO.val (v := .agg #[.bool false, vs_On, .slice none 0 0]) (want_none) rfl (q_build tp_24 (fill_cons (cs' := #[.bool false, vs_On, .slice none 0 0]) (vc := #[vs_On]) rfl (shp hL_s_On.is).cells rfl (Nat.le_of_ble_eq_true rfl) rfl rfl)) ?_
  refine HO.sto (want_none) rfl (st_storeAgg (c' := #[.bool false, vs_On, .slice none 0 0]) hS (i := 0) rfl ta_24 rfl rfl rfl (List.forall_mem_cons.2 ⟨rfl, (List.forall_mem_cons.2 ⟨(shp hL_s_On.is).one, (List.forall_mem_cons.2 ⟨rfl, (fun _ h => by cases h)⟩)⟩)⟩) (Nat.le_of_ble_eq_true rfl) rfl) ?_
  rintro h_3 ⟨hS, hk⟩
  replace hS : St F (Ow.box b_2 24 #[.bool false, vs_On, .slice none 0 0] :: Ow.box b_1 24 #[.bool s_Exclude, vs_On, vs_Off] :: fr) h_3 := hS
  replace hK := hK.trans hk
  replace hL_s_On := hL_s_On.kp hk
  replace hL_s_Off := hL_s_Off.kp hk
  refine HO.nil (thenQ_normal (?_))
  refine HW.ret (?_)
  refine ⟨.inr rfl, .agg #[.bool false, vs_On, .slice none 0 0], res1 rfl (rca (cs := [.bool false, vs_On, .slice none 0 0]) ta_24 rfl rfl (Blk.cells (k := 3) (hS.box 0 rfl) rfl)), ?_⟩
  replace hS := hS.nilOwn 34 17 e_api_Addr
  replace hS : St F (Ow.own 34 17 e_api_Addr (.slice none 0 0) ([] : List T_api_Addr) :: fr) h_3 := hS.perm2 [0] 3 rfl rfl
  exact ⟨F, false, s_On, [], vs_On, .slice none 0 0, rfl, hK, hS, hL_s_On, hL_s_Off, hL_s_On, hM⟩

def ref15_Lets_W (s_Exclude : Bool) (s_On : List T_api_Addr) (s_Off : List T_api_Addr) (a : T_api_Addr) (Q : Bool → Prop) : Prop :=
  (s_Exclude = true → ref11_Has_W s_Off a (fun r_2 => ((!r_2) = true → Q true) ∧ ((!r_2) = false → Q false))) ∧ (s_Exclude = false → ref11_Has_W s_On a (fun r_3 => Q r_3))
set_option maxHeartbeats 40000000 in
set_option maxRecDepth 100000 in
theorem ref15_Lets_walk {F : Fz} {fr : List Ow} {h0 : Heap} (s_Exclude : Bool) (s_On : List T_api_Addr) (s_Off : List T_api_Addr) (a : T_api_Addr) (vs_On : Value) (vs_Off : Value) (hS : St F (fr) h0) (hL_s_On : SliceF F h0 17 e_api_Addr vs_On s_On) (hL_s_Off : SliceF F h0 17 e_api_Addr vs_Off s_Off) {Q : Bool → Prop} (hM : ref15_Lets_W s_Exclude s_On s_Off a Q) :
    HC Try.prog 24 #[.agg #[.bool s_Exclude, vs_On, vs_Off], .agg (e_api_Addr a).toArray] h0 fun u h' => ∃ (F' : Fz) (r_1 : Bool), u = .bool r_1 ∧ Kp F h0 F' h' ∧ St F' (fr) h' ∧ (SliceF F' h' 17 e_api_Addr vs_On s_On) ∧ (SliceF F' h' 17 e_api_Addr vs_Off s_Off) ∧ Q r_1 := by
  unfold ref15_Lets_W at hM
  have hK := Kp.refl F h0
  refine HC.of_HW (n := 25) Try.func24 rfl rfl (Nat.le_of_ble_eq_true rfl) ?_
  refine HW.seq ?_
  refine HW.region ?_
  refine HO.eff (want_none) rfl (st_box (c := #[.bool s_Exclude, vs_On, vs_Off]) (k' := 3) hS rfl rfl) ?_
  rintro _ h_1 ⟨b_1, rfl, hS, hk⟩
  replace hK := hK.trans hk
  replace hL_s_On := hL_s_On.kp hk
  replace hL_s_Off := hL_s_Off.kp hk
  refine HO.eff (want_none) rfl (st_box (c := (e_api_Addr a).toArray) (k' := 17) hS rfl rfl) ?_
  rintro _ h_2 ⟨b_2, rfl, hS, hk⟩
  replace hK := hK.trans hk
  replace hL_s_On := hL_s_On.kp hk
  replace hL_s_Off := hL_s_Off.kp hk
  refine HO.val (v := .bool false) (want_none) rfl (q_assign rfl) ?_
  refine HO.nil (thenQ_normal (?_))
  refine HW.seq ?_
  refine HW.region ?_
  refine HO.val (v := .pointer (some ⟨b_1, 0, none⟩)) (want_none) rfl (q_fieldAddr fa_24_0 rfl rfl) ?_
  refine HO.val (v := .bool s_Exclude) (want_none) rfl (q_load to_4 rfl (Blk.cell (hS.box 1 rfl) rfl)) ?_
  refine HO.val (v := .bool s_Exclude) (want_none) rfl (q_move rfl) ?_
  rcases Bool.eq_false_or_eq_true s_Exclude with c_1 | c_1
  · replace hM := hM.1 c_1
    refine HO.val (v := .pointer (some ⟨b_1, 2, none⟩)) (want_by rfl rfl c_1) rfl (q_fieldAddr fa_24_2 rfl rfl) ?_
    refine HO.val (v := vs_Off) (want_by rfl rfl c_1) rfl (q_load to_22 rfl (Blk.cell (hS.box 1 rfl) rfl)) ?_
    refine HO.val (v := .agg (e_api_Addr a).toArray) (want_by rfl rfl c_1) rfl (q_loadAgg (cs := (e_api_Addr a)) ta_34 rfl rfl (Blk.cells (k := 17) (hS.box 0 rfl) rfl)) ?_
    refine HO.call (want_by rfl rfl c_1) rfl (ec en_13 rfl rfl) (ref11_Has_walk (fr := (Ow.box b_2 34 (e_api_Addr a).toArray :: Ow.box b_1 24 #[.bool s_Exclude, vs_On, vs_Off] :: fr)) s_Off a vs_Off hS hL_s_Off hM) ?_
    rintro _ h_3 ⟨F_1, r_2, rfl, hk, hS, _, hM⟩
    replace hK := hK.trans hk
    replace hL_s_On := hL_s_On.kp hk
    replace hL_s_Off := hL_s_Off.kp hk
    refine HO.val (v := .bool (!r_2)) (want_by rfl rfl c_1) rfl (q_not rfl) ?_
    refine HO.val (v := .bool (!r_2)) (want_none) rfl (q_pickK true rfl c_1 rfl) ?_
    refine HO.val (v := .bool (!r_2)) (want_none) rfl (q_move rfl) ?_
    rcases Bool.eq_false_or_eq_true (!r_2) with c_2 | c_2
    · replace hM := hM.1 c_2
      refine HO.past (past_by rfl rfl c_2) rfl ?_
      refine HO.past (past_by rfl rfl c_2) rfl ?_
      refine HO.past (past_by rfl rfl c_2) rfl ?_
      refine HO.past (past_by rfl rfl c_2) rfl ?_
      refine HO.past (past_undef rfl rfl) rfl ?_
      refine HO.past (past_undef rfl rfl) rfl ?_
      refine HO.past (past_undef rfl rfl) rfl ?_
      refine HO.past (past_undef rfl rfl) rfl ?_
      refine HO.past (past_by rfl rfl c_2) rfl ?_
      refine HO.val (v := .bool true) (want_none) rfl (q_pickK true rfl c_2 rfl) ?_
      refine HO.val (v := .bool true) (want_none) rfl (q_assign rfl) ?_
      refine HO.nil (thenQ_normal (?_))
      refine HW.ret (?_)
      refine ⟨.inr rfl, .bool true, res1 rfl (rt rfl), ?_⟩
      replace hS : St F_1 (fr) h_3 := hS.perm2 [] 2 rfl rfl
      exact ⟨F_1, true, rfl, hK, hS, hL_s_On, hL_s_Off, hM⟩
    · replace hM := hM.2 c_2
      refine HO.val (v := .pointer (some ⟨b_1, 0, none⟩)) (want_by rfl rfl c_2) rfl (q_fieldAddr fa_24_0 rfl rfl) ?_
      refine HO.val (v := .bool s_Exclude) (want_by rfl rfl c_2) rfl (q_load to_4 rfl (Blk.cell (hS.box 1 rfl) rfl)) ?_
      refine HO.val (v := .bool (!s_Exclude)) (want_by rfl rfl c_2) rfl (q_not rfl) ?_
      refine HO.val (v := .bool (!s_Exclude)) (want_by rfl rfl c_2) rfl (q_move rfl) ?_
      refine HO.past (past_by rfl rfl (by rw [c_1] <;> rfl)) rfl ?_
      refine HO.past (past_by rfl rfl (by rw [c_1] <;> rfl)) rfl ?_
      refine HO.past (past_by rfl rfl (by rw [c_1] <;> rfl)) rfl ?_
      refine HO.past (past_by rfl rfl (by rw [c_1] <;> rfl)) rfl ?_
      refine HO.val (v := .bool false) (want_by rfl rfl c_2) rfl (q_pickK false rfl (by rw [c_1] <;> rfl) rfl) ?_
      refine HO.val (v := .bool false) (want_none) rfl (q_pickK false rfl c_2 rfl) ?_
      refine HO.val (v := .bool false) (want_none) rfl (q_assign rfl) ?_
      refine HO.nil (thenQ_normal (?_))
      refine HW.ret (?_)
      refine ⟨.inr rfl, .bool false, res1 rfl (rt rfl), ?_⟩
      replace hS : St F_1 (fr) h_3 := hS.perm2 [] 2 rfl rfl
      exact ⟨F_1, false, rfl, hK, hS, hL_s_On, hL_s_Off, hM⟩
  · replace hM := hM.2 c_1
    refine HO.past (past_by rfl rfl c_1) rfl ?_
    refine HO.past (past_by rfl rfl c_1) rfl ?_
    refine HO.past (past_by rfl rfl c_1) rfl ?_
    refine HO.past (past_by rfl rfl c_1) rfl ?_
    refine HO.past (past_by rfl rfl c_1) rfl ?_
    refine HO.val (v := .bool false) (want_none) rfl (q_pickK false rfl c_1 rfl) ?_
    refine HO.val (v := .bool false) (want_none) rfl (q_move rfl) ?_
    refine HO.val (v := .pointer (some ⟨b_1, 0, none⟩)) (want_some rfl rfl) rfl (q_fieldAddr fa_24_0 rfl rfl) ?_
    refine HO.val (v := .bool s_Exclude) (want_some rfl rfl) rfl (q_load to_4 rfl (Blk.cell (hS.box 1 rfl) rfl)) ?_
    refine HO.val (v := .bool (!s_Exclude)) (want_some rfl rfl) rfl (q_not rfl) ?_
    refine HO.val (v := .bool (!s_Exclude)) (want_some rfl rfl) rfl (q_move rfl) ?_
    refine HO.val (v := .pointer (some ⟨b_1, 1, none⟩)) (want_by rfl rfl (by rw [c_1] <;> rfl)) rfl (q_fieldAddr fa_24_1 rfl rfl) ?_
    refine HO.val (v := vs_On) (want_by rfl rfl (by rw [c_1] <;> rfl)) rfl (q_load to_22 rfl (Blk.cell (hS.box 1 rfl) rfl)) ?_
    refine HO.val (v := .agg (e_api_Addr a).toArray) (want_by rfl rfl (by rw [c_1] <;> rfl)) rfl (q_loadAgg (cs := (e_api_Addr a)) ta_34 rfl rfl (Blk.cells (k := 17) (hS.box 0 rfl) rfl)) ?_
    refine HO.call (want_by rfl rfl (by rw [c_1] <;> rfl)) rfl (ec en_13 rfl rfl) (ref11_Has_walk (fr := (Ow.box b_2 34 (e_api_Addr a).toArray :: Ow.box b_1 24 #[.bool s_Exclude, vs_On, vs_Off] :: fr)) s_On a vs_On hS hL_s_On hM) ?_
    rintro _ h_4 ⟨F_2, r_3, rfl, hk, hS, _, hM⟩
    replace hK := hK.trans hk
    replace hL_s_On := hL_s_On.kp hk
    replace hL_s_Off := hL_s_Off.kp hk
    refine HO.val (v := .bool r_3) (want_some rfl rfl) rfl (q_pickK true rfl (by rw [c_1] <;> rfl) rfl) ?_
    refine HO.val (v := .bool r_3) (want_none) rfl (q_pick rfl rfl) ?_
    refine HO.val (v := .bool r_3) (want_none) rfl (q_assign rfl) ?_
    refine HO.nil (thenQ_normal (?_))
    refine HW.ret (?_)
    refine ⟨.inr rfl, .bool r_3, res1 rfl (rt rfl), ?_⟩
    replace hS : St F_2 (fr) h_4 := hS.perm2 [] 2 rfl rfl
    exact ⟨F_2, r_3, rfl, hK, hS, hL_s_On, hL_s_Off, hM⟩

def ref15_Gone_W (s_Exclude : Bool) (s_On : List T_api_Addr) (s_Off : List T_api_Addr) (Q : Bool → Prop) : Prop :=
  ((!s_Exclude) = true → Q (decide ((s_On.length : Int) = 0))) ∧ ((!s_Exclude) = false → Q false)
set_option maxHeartbeats 40000000 in
set_option maxRecDepth 100000 in
theorem ref15_Gone_walk {F : Fz} {fr : List Ow} {h0 : Heap} (s_Exclude : Bool) (s_On : List T_api_Addr) (s_Off : List T_api_Addr) (vs_On : Value) (vs_Off : Value) (hS : St F (fr) h0) (hL_s_On : SliceF F h0 17 e_api_Addr vs_On s_On) (hL_s_Off : SliceF F h0 17 e_api_Addr vs_Off s_Off) {Q : Bool → Prop} (hM : ref15_Gone_W s_Exclude s_On s_Off Q) :
    HC Try.prog 25 #[.agg #[.bool s_Exclude, vs_On, vs_Off]] h0 fun u h' => ∃ (F' : Fz) (r_1 : Bool), u = .bool r_1 ∧ Kp F h0 F' h' ∧ St F' (fr) h' ∧ (SliceF F' h' 17 e_api_Addr vs_On s_On) ∧ (SliceF F' h' 17 e_api_Addr vs_Off s_Off) ∧ Q r_1 := by
  unfold ref15_Gone_W at hM
  have hK := Kp.refl F h0
  refine HC.of_HW (n := 12) Try.func25 rfl rfl (Nat.le_of_ble_eq_true rfl) ?_
  refine HW.seq ?_
  refine HW.region ?_
  refine HO.eff (want_none) rfl (st_box (c := #[.bool s_Exclude, vs_On, vs_Off]) (k' := 3) hS rfl rfl) ?_
  rintro _ h_1 ⟨b_1, rfl, hS, hk⟩
  replace hK := hK.trans hk
  replace hL_s_On := hL_s_On.kp hk
  replace hL_s_Off := hL_s_Off.kp hk
  refine HO.val (v := .bool false) (want_none) rfl (q_assign rfl) ?_
  refine HO.nil (thenQ_normal (?_))
  refine HW.seq ?_
  refine HW.region ?_
  refine HO.val (v := .pointer (some ⟨b_1, 0, none⟩)) (want_none) rfl (q_fieldAddr fa_24_0 rfl rfl) ?_
  refine HO.val (v := .bool s_Exclude) (want_none) rfl (q_load to_4 rfl (Blk.cell (hS.box 0 rfl) rfl)) ?_
  refine HO.val (v := .bool (!s_Exclude)) (want_none) rfl (q_not rfl) ?_
  refine HO.val (v := .bool (!s_Exclude)) (want_none) rfl (q_move rfl) ?_
  rcases Bool.eq_false_or_eq_true (!s_Exclude) with c_1 | c_1
  · replace hM := hM.1 c_1
    refine HO.val (v := .pointer (some ⟨b_1, 1, none⟩)) (want_by rfl rfl c_1) rfl (q_fieldAddr fa_24_1 rfl rfl) ?_
    refine HO.val (v := vs_On) (want_by rfl rfl c_1) rfl (q_load to_22 rfl (Blk.cell (hS.box 0 rfl) rfl)) ?_
    refine HO.val (v := .int .i64 (s_On.length : Int)) (want_by rfl rfl c_1) rfl (q_len ts_22 (shp hL_s_On.is) rfl rfl) ?_
    refine HO.val (v := .bool (decide ((s_On.length : Int) = 0))) (want_by rfl rfl c_1) rfl (q_eql rfl rfl) ?_
    refine HO.val (v := .bool (decide ((s_On.length : Int) = 0))) (want_none) rfl (q_pickK true rfl c_1 rfl) ?_
    refine HO.val (v := .bool (decide ((s_On.length : Int) = 0))) (want_none) rfl (q_assign rfl) ?_
    refine HO.nil (thenQ_normal (?_))
    refine HW.ret (?_)
    refine ⟨.inr rfl, .bool (decide ((s_On.length : Int) = 0)), res1 rfl (rt rfl), ?_⟩
    replace hS : St F (fr) h_1 := hS.perm2 [] 1 rfl rfl
    exact ⟨F, decide ((s_On.length : Int) = 0), rfl, hK, hS, hL_s_On, hL_s_Off, hM⟩
  · replace hM := hM.2 c_1
    refine HO.past (past_by rfl rfl c_1) rfl ?_
    refine HO.past (past_by rfl rfl c_1) rfl ?_
    refine HO.past (past_by rfl rfl c_1) rfl ?_
    refine HO.past (past_by rfl rfl c_1) rfl ?_
    refine HO.val (v := .bool false) (want_none) rfl (q_pickK false rfl c_1 rfl) ?_
    refine HO.val (v := .bool false) (want_none) rfl (q_assign rfl) ?_
    refine HO.nil (thenQ_normal (?_))
    refine HW.ret (?_)
    refine ⟨.inr rfl, .bool false, res1 rfl (rt rfl), ?_⟩
    replace hS : St F (fr) h_1 := hS.perm2 [] 1 rfl rfl
    exact ⟨F, false, rfl, hK, hS, hL_s_On, hL_s_Off, hM⟩

def ref11_Same_l1 (a : List T_api_Addr) (b : List T_api_Addr) (Q : Bool → Prop) (K_1 : Int → Prop) (i_1 : Int) : Prop :=
  (i_1 < (a.length : Int) → ((0 : Int) ≤ i_1 ∧ i_1 < (a.length : Int)) ∧ (((0 : Int) ≤ i_1 ∧ i_1 < (b.length : Int)) ∧ ((¬ (((gi a i_1) : T_api_Addr) = (gi b i_1)) → Q false) ∧ (((gi a i_1) : T_api_Addr) = (gi b i_1) → (I64 (i_1 + 1)) ∧ (K_1 (i_1 + 1)))))) ∧ (¬ (i_1 < (a.length : Int)) → Q true)
def ref11_Same_W (a : List T_api_Addr) (b : List T_api_Addr) (Q : Bool → Prop) : Prop :=
  (¬ ((a.length : Int) = (b.length : Int)) → Q false) ∧ ((a.length : Int) = (b.length : Int) → loopW (fun (K_1 : Int → Prop) (s : Int) => ref11_Same_l1 a b Q K_1 s) 0)
set_option maxHeartbeats 40000000 in
set_option maxRecDepth 100000 in
theorem ref11_Same_walk {F : Fz} {fr : List Ow} {h0 : Heap} (a : List T_api_Addr) (b : List T_api_Addr) (va : Value) (vb : Value) (hS : St F (fr) h0) (hL_a : SliceF F h0 17 e_api_Addr va a) (hL_b : SliceF F h0 17 e_api_Addr vb b) {Q : Bool → Prop} (hM : ref11_Same_W a b Q) :
    HC Try.prog 35 #[va, vb] h0 fun u h' => ∃ (F' : Fz) (r_1 : Bool), u = .bool r_1 ∧ Kp F h0 F' h' ∧ St F' (fr) h' ∧ (SliceF F' h' 17 e_api_Addr va a) ∧ (SliceF F' h' 17 e_api_Addr vb b) ∧ Q r_1 := by
  unfold ref11_Same_W at hM
  have hK := Kp.refl F h0
  refine HC.of_HW (n := 26) Try.func35 rfl rfl (Nat.le_of_ble_eq_true rfl) ?_
  refine HW.seq ?_
  refine HW.region ?_
  refine HO.val (v := .bool false) (want_none) rfl (q_assign rfl) ?_
  refine HO.nil (thenQ_normal (?_))
  refine HW.seq ?_
  refine HW.seq ?_
  refine HW.region ?_
  refine HO.val (v := va) (want_none) rfl (q_move rfl) ?_
  refine HO.val (v := .int .i64 (a.length : Int)) (want_none) rfl (q_len ts_22 (shp hL_a.is) rfl rfl) ?_
  refine HO.val (v := vb) (want_none) rfl (q_move rfl) ?_
  refine HO.val (v := .int .i64 (b.length : Int)) (want_none) rfl (q_len ts_22 (shp hL_b.is) rfl rfl) ?_
  refine HO.val (v := .bool (!decide ((a.length : Int) = (b.length : Int)))) (want_none) rfl (q_neq rfl rfl) ?_
  refine HO.nil (thenQ_normal (?_))
  refine HW.cond (!decide ((a.length : Int) = (b.length : Int))) rfl (fun c_1 => ?_) (fun c_1 => ?_)
  · replace hM := hM.1 (nd_true c_1)
    refine HW.seq ?_
    refine HW.region ?_
    refine HO.val (v := .bool false) (want_none) rfl (q_assign rfl) ?_
    refine HO.nil (thenQ_normal (?_))
    refine HW.ret (thenQ_ret (?_))
    refine ⟨.inr rfl, .bool false, res1 rfl (rt rfl), ?_⟩
    exact ⟨F, false, rfl, hK, hS, hL_a, hL_b, hM⟩
  · replace hM := hM.2 (nd_false c_1)
    refine HW.skip (thenQ_normal (?_))
    refine HW.seq ?_
    refine HW.seq ?_
    refine HW.region ?_
    refine HO.val (v := .int .i64 0) (want_none) rfl (q_assign rfl) ?_
    refine HO.nil (thenQ_normal (?_))
    refine HW.block ?_
    obtain ⟨I_1, m_1, hI_1, hR_1⟩ := hM
    refine HW.loop (S := Int) (fun i_1 f h => ∃ (F' : Fz), f 0 = va ∧ f 1 = vb ∧ f 4 = .bool false ∧ f 5 = .int .i64 i_1 ∧ Kp F h0 F' h ∧ St F' (fr) h ∧ (SliceF F' h 17 e_api_Addr va a) ∧ (SliceF F' h 17 e_api_Addr vb b) ∧ I_1 i_1) m_1 0 ⟨F, rfl, rfl, rfl, rfl, hK, hS, hL_a, hL_b, hI_1⟩ ?_
    rintro i_1 f_1 h_1 ⟨F_1, e0, e1, e4, e5, hK, hS, hL_a, hL_b, hI0⟩
    obtain ⟨K_1, hKe_1⟩ : ∃ K : Int → Prop, K = fun i_1' => I_1 i_1' ∧ m_1 i_1' < m_1 i_1 := ⟨_, rfl⟩
    have hM : ref11_Same_l1 a b Q K_1 i_1 := by rw [hKe_1]; exact hR_1 i_1 hI0
    unfold ref11_Same_l1 at hM
    refine HW.fr [(0, va), (1, vb), (4, .bool false), (5, .int .i64 i_1)] ⟨e0, e1, e4, e5, trivial⟩ ?_
    refine HW.seq ?_
    refine HW.seq ?_
    refine HW.region ?_
    refine HO.val (v := .int .i64 i_1) (want_none) rfl (q_move rfl) ?_
    refine HO.val (v := va) (want_none) rfl (q_move rfl) ?_
    refine HO.val (v := .int .i64 (a.length : Int)) (want_none) rfl (q_len ts_22 (shp hL_a.is) rfl rfl) ?_
    refine HO.val (v := .bool (decide (i_1 < (a.length : Int)))) (want_none) rfl (q_lss rfl rfl) ?_
    refine HO.nil (thenQ_normal (?_))
    refine HW.cond (decide (i_1 < (a.length : Int))) rfl (fun c_2 => ?_) (fun c_2 => ?_)
    · replace hM := hM.1 (of_decide_eq_true c_2)
      refine HW.skip (thenQ_normal (?_))
      refine HW.seq ?_
      refine HW.block ?_
      refine HW.seq ?_
      refine HW.regionA 9 mixed (fun h => (SliceIs h 17 e_api_Addr va a) ∧ (SliceIs h 17 e_api_Addr vb b)) [] (by kernel_rfl) ?_
      refine HA.val (k := 0) (v := va) rfl rfl (by kernel_rfl) (by kernel_rfl) (want_none) rfl (fun _ ⟨hL_a, hL_b⟩ => q_move rfl) ?_
      refine HA.val (k := 1) (v := .int .i64 i_1) rfl rfl (by kernel_rfl) (by kernel_rfl) (want_none) rfl (fun _ ⟨hL_a, hL_b⟩ => q_move rfl) ?_
      obtain ⟨ho_1, hM⟩ := hM
      refine HA.val (k := 2) (v := elemPtr 17 va (i_1).toNat) rfl rfl (by kernel_rfl) (by kernel_rfl) (want_none) rfl (fun _ ⟨hL_a, hL_b⟩ => q_idx ts_22 hL_a rfl rfl ho_1) ?_
      refine HA.val (k := 3) (v := .agg (e_api_Addr (gi a i_1)).toArray) rfl rfl (by kernel_rfl) (by kernel_rfl) (want_none) rfl (fun _ ⟨hL_a, hL_b⟩ => q_ldElemAgg (cs := (e_api_Addr (gi a i_1))) ta_34 hL_a rfl ho_1 rfl) ?_
      refine HA.val (k := 4) (v := vb) rfl rfl (by kernel_rfl) (by kernel_rfl) (want_none) rfl (fun _ ⟨hL_a, hL_b⟩ => q_move rfl) ?_
      refine HA.val (k := 5) (v := .int .i64 i_1) rfl rfl (by kernel_rfl) (by kernel_rfl) (want_none) rfl (fun _ ⟨hL_a, hL_b⟩ => q_move rfl) ?_
      obtain ⟨ho_2, hM⟩ := hM
      refine HA.val (k := 6) (v := elemPtr 17 vb (i_1).toNat) rfl rfl (by kernel_rfl) (by kernel_rfl) (want_none) rfl (fun _ ⟨hL_a, hL_b⟩ => q_idx ts_22 hL_b rfl rfl ho_2) ?_
      refine HA.val (k := 7) (v := .agg (e_api_Addr (gi b i_1)).toArray) rfl rfl (by kernel_rfl) (by kernel_rfl) (want_none) rfl (fun _ ⟨hL_a, hL_b⟩ => q_ldElemAgg (cs := (e_api_Addr (gi b i_1))) ta_34 hL_b rfl ho_2 rfl) ?_
      refine HA.val (k := 8) (v := .bool (!decide (((gi a i_1) : T_api_Addr) = (gi b i_1)))) rfl rfl (by kernel_rfl) (by kernel_rfl) (want_none) rfl (fun _ ⟨hL_a, hL_b⟩ => q_neqAgg (a := (gi a i_1)) (b := (gi b i_1)) (fun a b w => teq_34 9997 a b w) (by kernel_rfl) rfl rfl rfl rfl) ?_
      refine HA.nil ⟨⟨hL_a.is, hL_b.is⟩, (Go.Wk.at_nil _ _)⟩ (by kernel_rfl) (thenQ_normal (?_))
      refine HW.cond (!decide (((gi a i_1) : T_api_Addr) = (gi b i_1))) rfl (fun c_3 => ?_) (fun c_3 => ?_)
      · replace hM := hM.1 (nd_true c_3)
        refine HW.seq ?_
        refine HW.region ?_
        refine HO.val (v := .bool false) (want_none) rfl (q_assign rfl) ?_
        refine HO.nil (thenQ_normal (?_))
        refine HW.ret (blockQ_ret (thenQ_ret (thenQ_ret (blockQ_ret (thenQ_ret (?_))))))
        refine ⟨.inr rfl, .bool false, res1 rfl (rt rfl), ?_⟩
        exact ⟨F_1, false, rfl, hK, hS, hL_a, hL_b, hM⟩
      · replace hM := hM.2 (nd_false c_3)
        refine HW.skip (blockQ_normal (thenQ_normal (?_)))
        refine HW.region ?_
        refine HO.val (v := .int .i64 i_1) (want_none) rfl (q_move rfl) ?_
        obtain ⟨ho_3, hM⟩ := hM
        refine HO.val (v := .int .i64 (i_1 + 1)) (want_none) rfl (q_addN _ rfl rfl rfl ho_3.1 ho_3.2) ?_
        refine HO.val (v := .int .i64 (i_1 + 1)) (want_none) rfl (q_assign rfl) ?_
        refine HO.nil (thenQ_normal (?_))
        rw [hKe_1] at hM
        exact ⟨i_1 + 1, ⟨F_1, rfl, rfl, rfl, rfl, hK, hS, hL_a, hL_b, hM.1⟩, hM.2⟩
    · replace hM := hM.2 (of_decide_eq_false c_2)
      refine HW.exit (thenQ_exit (thenQ_exit (blockQ_exit (thenQ_normal (?_)))))
      refine HW.seq ?_
      refine HW.region ?_
      refine HO.val (v := .bool true) (want_none) rfl (q_assign rfl) ?_
      refine HO.nil (thenQ_normal (?_))
      refine HW.ret (?_)
      refine ⟨.inr rfl, .bool true, res1 rfl (rt rfl), ?_⟩
      exact ⟨F_1, true, rfl, hK, hS, hL_a, hL_b, hM⟩
end Go.Wk
