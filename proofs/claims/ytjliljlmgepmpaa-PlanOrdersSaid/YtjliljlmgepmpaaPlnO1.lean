/- The walks of PlanOrders. -/
import Derived.Test.YtjliljlmgepmpaaPlnA1
set_option linter.unusedSimpArgs false
set_option linter.unusedVariables false
set_option linter.unusedSectionVars false
namespace Go.Wk
open Go.HL
open Go.Proofs hiding encI
variable [DM]
abbrev T_api_Site := Int × Int × Bool
def e_api_Site (x : T_api_Site) : List Value := [.int .i64 x.1, .int .i64 x.2.1, .bool x.2.2]
theorem en_11 (args : Array Value) (w : World) : (callFunc 11 args).run Try.prog w = .ok (.enter 11 args) w := by kernel_rfl
theorem tz_29 : TZero Try.prog 29 (.agg #[.int .i64 0, .int .i64 0, .bool false]) := Try.zeroValue29
theorem ts_30 : TSlice Try.prog 30 29 3 := ⟨Try.underlying30, Try.sizeOf29⟩
theorem tl_30 : TLit Try.prog 30 29 3 #[.int .i64 0, .int .i64 0, .bool false] := tlit ts_30 tz_29 rfl
theorem te_30 : TElem Try.prog 30 29 3 24 := ⟨Try.underlying30, ⟨Try.t29, .agg #[.int .i64 0, .int .i64 0, .bool false], by kernel_rfl, by kernel_rfl, by kernel_rfl, by kernel_rfl, by kernel_rfl⟩, by decide⟩
theorem ta_29 : TAgg Try.prog 29 3 := ⟨Try.isAgg29, Try.sizeOf29⟩
theorem en_59 (args : Array Value) (w : World) : (callFunc 59 args).run Try.prog w = .ok (.enter 59 args) w := by kernel_rfl
theorem fa_29_2 : FieldAt Try.prog 29 2 2 := fun a w => by kernel_rfl
theorem to_4 : TOne Try.prog 4 := ⟨Try.isAgg4, Try.sizeOf4⟩
theorem fa_29_1 : FieldAt Try.prog 29 1 1 := fun a w => by kernel_rfl
theorem to_61 : TOne Try.prog 61 := ⟨Try.isAgg61, Try.sizeOf61⟩
theorem fa_29_0 : FieldAt Try.prog 29 0 0 := fun a w => by kernel_rfl
theorem en_33 (args : Array Value) (w : World) : (callFunc 33 args).run Try.prog w = .ok (.enter 33 args) w := by kernel_rfl
theorem en_34 (args : Array Value) (w : World) : (callFunc 34 args).run Try.prog w = .ok (.enter 34 args) w := by kernel_rfl
theorem en_32 (args : Array Value) (w : World) : (callFunc 32 args).run Try.prog w = .ok (.enter 32 args) w := by kernel_rfl
theorem tz_61 : TZero Try.prog 61 (.nilFunc) := Try.zeroValue61
theorem en_35 (args : Array Value) (w : World) : (callFunc 35 args).run Try.prog w = .ok (.enter 35 args) w := by kernel_rfl
theorem en_37 (args : Array Value) (w : World) : (callFunc 37 args).run Try.prog w = .ok (.enter 37 args) w := by kernel_rfl
theorem en_36 (args : Array Value) (w : World) : (callFunc 36 args).run Try.prog w = .ok (.enter 36 args) w := by kernel_rfl
theorem en_13 (args : Array Value) (w : World) : (callFunc 13 args).run Try.prog w = .ok (.enter 13 args) w := by kernel_rfl
theorem en_15 (args : Array Value) (w : World) : (callFunc 15 args).run Try.prog w = .ok (.enter 15 args) w := by kernel_rfl
theorem en_16 (args : Array Value) (w : World) : (callFunc 16 args).run Try.prog w = .ok (.enter 16 args) w := by kernel_rfl
theorem en_14 (args : Array Value) (w : World) : (callFunc 14 args).run Try.prog w = .ok (.enter 14 args) w := by kernel_rfl
def slices_Clone_s_api_Site_api_Site_W (s1 : List T_api_Site) (Q : (List T_api_Site) → Prop) : Prop :=
 (s1 = [] → Q []) ∧ (True → ((([] : List T_api_Site).length + s1.length) * 24 ≤ 140737488355328) ∧ (Q (([] : List T_api_Site) ++ s1)))
set_option maxHeartbeats 40000000 in
set_option maxRecDepth 100000 in
theorem slices_Clone_s_api_Site_api_Site_walk {F : Fz} {fr : List Ow} {h0 : Heap} (s1 : List T_api_Site) (vs : Value) (hS : St F (fr) h0) (hL_s1 : SliceF F h0 3 e_api_Site vs s1) {Q : (List T_api_Site) → Prop} (hM : slices_Clone_s_api_Site_api_Site_W s1 Q) :
  HC Try.prog 33 #[vs] h0 fun u h' => ∃ (F' : Fz) (r_1 : List T_api_Site) (vr_1 : Value), u = vr_1 ∧ Kp F h0 F' h' ∧ St F' (Ow.own 29 3 e_api_Site vr_1 r_1 :: fr) h' ∧ (SliceF F' h' 3 e_api_Site vs s1) ∧ Q r_1 := by
 unfold slices_Clone_s_api_Site_api_Site_W at hM
 have hK := Kp.refl F h0
 refine HC.of_HW (n := 8) Try.func33 rfl rfl (Nat.le_of_ble_eq_true rfl) ?_
 refine HW.seq ?_
 refine HW.region ?_
 refine oA (.slice none 0 0) rfl rfl ?_
 refine HO.nil (thenQ_normal (?_))
 refine HW.seq ?_
 refine HW.seq ?_
 refine HW.region ?_
 refine oM (vs) rfl rfl ?_
 refine oV (.bool (isNil vs)) (q_eqlSnil Try.underlying30 (shp hL_s1.is) rfl rfl) rfl ?_
 refine HO.nil (thenQ_normal (?_))
 refine HW.cond (isNil vs) rfl (fun c_1 => ?_) (fun c_1 => ?_)
 ·
  replace hM := hM.1 (isNil_nil hL_s1.is c_1)
  refine HW.seq ?_
  refine HW.region ?_
  refine oA (.slice none 0 0) rfl rfl ?_
  refine HO.nil (thenQ_normal (?_))
  refine HW.ret (thenQ_ret (?_))
  refine ⟨.inr rfl, .slice none 0 0, res1 rfl (rt rfl), ?_⟩
  replace hS := hS.nilOwn 29 3 e_api_Site
  exact ⟨F, [], .slice none 0 0, rfl, hK, hS, hL_s1, hM⟩
 ·
  replace hM := hM.2 trivial
  refine HW.skip (thenQ_normal (?_))
  refine HW.seq ?_
  refine HW.region ?_
  refine HO.eff (want_none) rfl (st_litEmpty (α := T_api_Site) e_api_Site hS tl_30) ?_
  rintro _ h_1 ⟨b_1, rfl, hS, hk⟩
  replace hK := hK.trans hk
  replace hL_s1 := hL_s1.kp hk
  refine oM (vs) rfl rfl ?_
  obtain ⟨ho_1, hM⟩ := hM
  refine HO.eff (want_none) rfl (st_append te_30 hS (i := 0) rfl hL_s1.is rfl rfl rfl (by intro a _ u hu; simp [e_api_Site, encI, encN, encB, encT] at hu; rcases hu with rfl | rfl | rfl <;> rfl) ho_1 (by omega)) ?_
  rintro v_1 h_2 ⟨hS, hk⟩
  replace hS : St F (Ow.own 29 3 e_api_Site v_1 (([] : List T_api_Site) ++ s1) :: fr) h_2 := hS
  replace hK := hK.trans hk
  replace hL_s1 := hL_s1.kp hk
  refine oA (v_1) rfl rfl ?_
  refine HO.nil (thenQ_normal (?_))
  refine HW.ret (?_)
  refine ⟨.inr rfl, v_1, res1 rfl (rt rfl), ?_⟩
  exact ⟨F, ([] : List T_api_Site) ++ s1, v_1, rfl, hK, hS, hL_s1, hM⟩

def slices_IndexFunc_s_api_Site_api_Site_l1 (s1 : List T_api_Site) (cf_f : T_api_Site → Bool) (Q : Int → Prop) (K_1 : Int → Prop) (n_1 : Int) : Prop :=
 (n_1 < (s1.length : Int) → ((0 : Int) ≤ n_1 ∧ n_1 < (s1.length : Int)) ∧ (((cf_f (gi s1 n_1)) = true → Q n_1) ∧ ((cf_f (gi s1 n_1)) = false → (I64 (n_1 + 1)) ∧ (K_1 (n_1 + 1))))) ∧ (¬ (n_1 < (s1.length : Int)) → Q (-1))
def slices_IndexFunc_s_api_Site_api_Site_W (s1 : List T_api_Site) (cf_f : T_api_Site → Bool) (Q : Int → Prop) : Prop :=
 loopW (fun (K_1 : Int → Prop) (s : Int) => slices_IndexFunc_s_api_Site_api_Site_l1 s1 cf_f Q K_1 s) 0
set_option maxHeartbeats 40000000 in
set_option maxRecDepth 100000 in
theorem slices_IndexFunc_s_api_Site_api_Site_walk {F : Fz} {fr : List Ow} {h0 : Heap} (s1 : List T_api_Site) (cf_f : T_api_Site → Bool) (vs : Value) (g_f : Nat) (fs_f : Array Value) (cs_f : Array Value) (hS : St F (fr) h0) (hL_s1 : SliceF F h0 3 e_api_Site vs s1) (hF_cf_f : FnP Try.prog F h0 g_f fs_f cs_f (fun x : T_api_Site => [.agg #[.int .i64 x.1, .int .i64 x.2.1, .bool x.2.2]]) (fun x => .bool (cf_f x))) {Q : Int → Prop} (hM : slices_IndexFunc_s_api_Site_api_Site_W s1 cf_f Q) :
  HC Try.prog 59 #[vs, .func (.func g_f) fs_f cs_f] h0 fun u h' => ∃ (F' : Fz) (r_1 : Int), u = .int .i64 r_1 ∧ Kp F h0 F' h' ∧ St F' (fr) h' ∧ (SliceF F' h' 3 e_api_Site vs s1) ∧ (FnP Try.prog F' h' g_f fs_f cs_f (fun x : T_api_Site => [.agg #[.int .i64 x.1, .int .i64 x.2.1, .bool x.2.2]]) (fun x => .bool (cf_f x))) ∧ Q r_1 := by
 unfold slices_IndexFunc_s_api_Site_api_Site_W at hM
 have hK := Kp.refl F h0
 refine HC.of_HW (n := 19) Try.func59 rfl rfl (Nat.le_of_ble_eq_true rfl) ?_
 refine HW.seq ?_
 refine HW.region ?_
 refine oA (.int .i64 0) rfl rfl ?_
 refine HO.nil (thenQ_normal (?_))
 refine HW.seq ?_
 refine HW.seq ?_
 refine HW.region ?_
 refine oM (vs) rfl rfl ?_
 refine oV (.int .i64 (s1.length : Int)) (q_len ts_30 (shp hL_s1.is) rfl rfl) rfl ?_
 refine oM (.int .i64 0) rfl rfl ?_
 refine HO.nil (thenQ_normal (?_))
 refine HW.block ?_
 obtain ⟨I_1, m_1, hI_1, hR_1⟩ := hM
 refine HW.loop (S := Int) (fun n_1 f h => ∃ (F' : Fz), f 0 = vs ∧ f 1 = .func (.func g_f) fs_f cs_f ∧ f 4 = .int .i64 0 ∧ f 7 = .int .i64 (s1.length : Int) ∧ f 8 = .int .i64 n_1 ∧ Kp F h0 F' h ∧ St F' (fr) h ∧ (SliceF F' h 3 e_api_Site vs s1) ∧ (FnP Try.prog F' h g_f fs_f cs_f (fun x : T_api_Site => [.agg #[.int .i64 x.1, .int .i64 x.2.1, .bool x.2.2]]) (fun x => .bool (cf_f x))) ∧ I_1 n_1) m_1 0 ⟨F, rfl, rfl, rfl, rfl, rfl, hK, hS, hL_s1, hF_cf_f, hI_1⟩ ?_
 rintro n_1 f_1 h_1 ⟨F_1, e0, e1, e4, e7, e8, hK, hS, hL_s1, hF_cf_f, hI0⟩
 obtain ⟨K_1, hKe_1⟩ : ∃ K : Int → Prop, K = fun n_1' => I_1 n_1' ∧ m_1 n_1' < m_1 n_1 := ⟨_, rfl⟩
 have hM : slices_IndexFunc_s_api_Site_api_Site_l1 s1 cf_f Q K_1 n_1 := by rw [hKe_1]; exact hR_1 n_1 hI0
 unfold slices_IndexFunc_s_api_Site_api_Site_l1 at hM
 refine HW.fr [(0, vs), (1, .func (.func g_f) fs_f cs_f), (4, .int .i64 0), (7, .int .i64 (s1.length : Int)), (8, .int .i64 n_1)] ⟨e0, e1, e4, e7, e8, trivial⟩ ?_
 refine HW.seq ?_
 refine HW.region ?_
 refine oV (.bool (decide (n_1 < (s1.length : Int)))) (q_lss rfl rfl) rfl ?_
 refine HO.nil (thenQ_normal (?_))
 refine HW.seq ?_
 refine HW.cond (decide (n_1 < (s1.length : Int))) rfl (fun c_1 => ?_) (fun c_1 => ?_)
 ·
  replace hM := hM.1 (of_decide_eq_true c_1)
  refine HW.skip (thenQ_normal (?_))
  refine HW.seq ?_
  refine HW.block ?_
  refine HW.seq ?_
  refine HW.region ?_
  refine oM (.int .i64 n_1) rfl rfl ?_
  refine oA (.int .i64 n_1) rfl rfl ?_
  refine HO.nil (thenQ_normal (?_))
  refine HW.seq ?_
  refine HW.region ?_
  refine oM (.func (.func g_f) fs_f cs_f) rfl rfl ?_
  refine oM (vs) rfl rfl ?_
  refine oM (.int .i64 n_1) rfl rfl ?_
  obtain ⟨ho_1, hM⟩ := hM
  refine oV (elemPtr 3 vs (n_1).toNat) (q_idx ts_30 hL_s1.is rfl rfl ho_1) rfl ?_
  refine oV (.agg #[.int .i64 ((gi s1 n_1).1), .int .i64 ((gi s1 n_1).2.1), .bool ((gi s1 n_1).2.2)]) (q_ldElemAgg (cs := [.int .i64 ((gi s1 n_1).1), .int .i64 ((gi s1 n_1).2.1), .bool ((gi s1 n_1).2.2)]) ta_29 hL_s1.is rfl ho_1 rfl) rfl ?_
  refine HO.call (want_none) rfl (hF_cf_f.ec (gi s1 n_1) rfl rfl) (hF_cf_f.hc (gi s1 n_1) hS) ?_
  rintro _ h_2 ⟨rfl, hS, hk⟩
  replace hK := hK.trans hk
  replace hL_s1 := hL_s1.kp hk
  replace hF_cf_f := hF_cf_f.kp hk
  refine HO.nil (thenQ_normal (?_))
  refine HW.cond (cf_f (gi s1 n_1)) rfl (fun c_2 => ?_) (fun c_2 => ?_)
  ·
   replace hM := hM.1 c_2
   refine HW.seq ?_
   refine HW.region ?_
   refine oM (.int .i64 n_1) rfl rfl ?_
   refine oA (.int .i64 n_1) rfl rfl ?_
   refine HO.nil (thenQ_normal (?_))
   refine HW.ret (blockQ_ret (thenQ_ret (thenQ_ret (blockQ_ret (thenQ_ret (?_))))))
   refine ⟨.inr rfl, .int .i64 n_1, res1 rfl (rt rfl), ?_⟩
   exact ⟨F_1, n_1, rfl, hK, hS, hL_s1, hF_cf_f, hM⟩
  ·
   replace hM := hM.2 c_2
   refine HW.skip (blockQ_normal (thenQ_normal (?_)))
   refine HW.region ?_
   obtain ⟨ho_2, hM⟩ := hM
   refine oV (.int .i64 (n_1 + 1)) (q_addN _ rfl rfl rfl ho_2.1 ho_2.2) rfl ?_
   refine oM (.int .i64 (n_1 + 1)) rfl rfl ?_
   refine HO.nil (thenQ_normal (?_))
   rw [hKe_1] at hM
   exact ⟨n_1 + 1, ⟨F_1, rfl, rfl, rfl, rfl, rfl, hK, hS, hL_s1, hF_cf_f, hM.1⟩, hM.2⟩
 ·
  replace hM := hM.2 (of_decide_eq_false c_1)
  refine HW.exit (thenQ_exit (thenQ_exit (blockQ_exit (thenQ_normal (?_)))))
  refine HW.seq ?_
  refine HW.region ?_
  refine oA (.int .i64 (-1)) rfl rfl ?_
  refine HO.nil (thenQ_normal (?_))
  refine HW.ret (?_)
  refine ⟨.inr rfl, .int .i64 (-1), res1 rfl (rt rfl), ?_⟩
  exact ⟨F_1, (-1), rfl, hK, hS, hL_s1, hF_cf_f, hM⟩

def slices_DeleteFunc_s_api_Site_api_Site_l2 (cf_del : T_api_Site → Bool) (Q : (List T_api_Site) → Prop) (K_1 : (List T_api_Site) → Int → Int → Prop) (l_1 : List T_api_Site) (i_1 : Int) (j_1 : Int) : Prop :=
 (j_1 < (l_1.length : Int) → ((0 : Int) ≤ j_1 ∧ j_1 < (l_1.length : Int)) ∧ (((!(cf_del (gi l_1 j_1))) = true → ((0 : Int) ≤ i_1 ∧ i_1 < (l_1.length : Int)) ∧ ((I64 (i_1 + 1)) ∧ ((I64 (j_1 + 1)) ∧ (K_1 (l_1.set (i_1).toNat (gi l_1 j_1)) (i_1 + 1) (j_1 + 1))))) ∧ ((!(cf_del (gi l_1 j_1))) = false → (I64 (j_1 + 1)) ∧ (K_1 l_1 i_1 (j_1 + 1))))) ∧ (¬ (j_1 < (l_1.length : Int)) → ((0 : Int) ≤ i_1 ∧ i_1 ≤ (l_1.length : Int)) ∧ (((0 : Int) ≤ i_1 ∧ i_1 ≤ (l_1.length : Int) ∧ (l_1.length : Int) ≤ (l_1.length : Int)) ∧ (((0 : Int) ≤ i_1 ∧ i_1 ≤ ((clr l_1 i_1 (l_1.length : Int)).length : Int)) ∧ (Q (cut (clr l_1 i_1 (l_1.length : Int)) 0 i_1)))))
def slices_DeleteFunc_s_api_Site_api_Site_W (s1 : List T_api_Site) (cf_del : T_api_Site → Bool) (Q : (List T_api_Site) → Prop) : Prop :=
 slices_IndexFunc_s_api_Site_api_Site_W s1 cf_del (fun r_2 => (r_2 = (-1) → Q s1) ∧ (¬ (r_2 = (-1)) → (I64 (r_2 + 1)) ∧ (loopW (fun (K_1 : (List T_api_Site × Int × Int) → Prop) (s : List T_api_Site × Int × Int) => slices_DeleteFunc_s_api_Site_api_Site_l2 cf_del Q (fun l_1 i_1 j_1 => K_1 (l_1, i_1, j_1)) s.1 s.2.1 s.2.2) (s1, r_2, r_2 + 1))))
set_option maxHeartbeats 40000000 in
set_option maxRecDepth 100000 in
theorem slices_DeleteFunc_s_api_Site_api_Site_walk {F : Fz} {fr : List Ow} {h0 : Heap} (s1 : List T_api_Site) (cf_del : T_api_Site → Bool) (vs : Value) (g_del : Nat) (fs_del : Array Value) (cs_del : Array Value) (hS : St F (Ow.own 29 3 e_api_Site vs s1 :: fr) h0) (hF_cf_del : FnP Try.prog F h0 g_del fs_del cs_del (fun x : T_api_Site => [.agg #[.int .i64 x.1, .int .i64 x.2.1, .bool x.2.2]]) (fun x => .bool (cf_del x))) {Q : (List T_api_Site) → Prop} (hM : slices_DeleteFunc_s_api_Site_api_Site_W s1 cf_del Q) :
  HC Try.prog 32 #[vs, .func (.func g_del) fs_del cs_del] h0 fun u h' => ∃ (F' : Fz) (r_1 : List T_api_Site) (vr_1 : Value), u = vr_1 ∧ Kp F h0 F' h' ∧ St F' (Ow.own 29 3 e_api_Site vr_1 r_1 :: fr) h' ∧ (FnP Try.prog F' h' g_del fs_del cs_del (fun x : T_api_Site => [.agg #[.int .i64 x.1, .int .i64 x.2.1, .bool x.2.2]]) (fun x => .bool (cf_del x))) ∧ Q r_1 := by
 unfold slices_DeleteFunc_s_api_Site_api_Site_W at hM
 have hK := Kp.refl F h0
 refine HC.of_HW (n := 42) Try.func32 rfl rfl (Nat.le_of_ble_eq_true rfl) ?_
 refine HW.seq ?_
 refine HW.region ?_
 refine oA (.slice none 0 0) rfl rfl ?_
 refine HO.nil (thenQ_normal (?_))
 refine HW.seq ?_
 refine HW.region ?_
 refine oM (vs) rfl rfl ?_
 refine oM (.func (.func g_del) fs_del cs_del) rfl rfl ?_
 have hZ_1 := hS
 have hkz_1 := (hS.freeze).2
 replace hS := hS.freeze.1
 have hL_1 : SliceF (fun bz_ => F bz_ ∨ (Ow.own 29 3 e_api_Site vs s1).foot bz_) h0 3 e_api_Site vs s1 := ⟨(hZ_1.own 0 rfl).slice, fun _ b hb => .inr hb⟩
 refine HO.call (want_none) rfl (ec en_59 rfl rfl) (slices_IndexFunc_s_api_Site_api_Site_walk (fr := (fr)) s1 cf_del vs g_del fs_del cs_del hS hL_1 (hF_cf_del.kp hkz_1) hM) ?_
 rintro _ h_1 ⟨F_1, r_2, rfl, hk, hS, _, _, hM⟩
 obtain ⟨hS, hk⟩ := hZ_1.back hk hS
 generalize (fun bz_ => F_1 bz_ ∧ ¬ (Ow.own 29 3 e_api_Site vs s1).foot bz_) = F_2 at hS hk
 replace hK := hK.trans hk
 replace hF_cf_del := hF_cf_del.kp hk
 refine oA (.int .i64 r_2) rfl rfl ?_
 refine HO.nil (thenQ_normal (?_))
 refine HW.seq ?_
 refine HW.seq ?_
 refine HW.region ?_
 refine oM (.int .i64 r_2) rfl rfl ?_
 refine oV (.bool (decide (r_2 = (-1)))) (q_eql rfl rfl) rfl ?_
 refine HO.nil (thenQ_normal (?_))
 refine HW.cond (decide (r_2 = (-1))) rfl (fun c_1 => ?_) (fun c_1 => ?_)
 ·
  replace hM := hM.1 (of_decide_eq_true c_1)
  refine HW.seq ?_
  refine HW.region ?_
  refine oM (vs) rfl rfl ?_
  refine oA (vs) rfl rfl ?_
  refine HO.nil (thenQ_normal (?_))
  refine HW.ret (thenQ_ret (?_))
  refine ⟨.inr rfl, vs, res1 rfl (rt rfl), ?_⟩
  exact ⟨F_2, s1, vs, rfl, hK, hS, hF_cf_del, hM⟩
 ·
  replace hM := hM.2 (of_decide_eq_false c_1)
  refine HW.skip (thenQ_normal (?_))
  refine HW.seq ?_
  refine HW.seq ?_
  refine HW.region ?_
  refine oM (.int .i64 r_2) rfl rfl ?_
  obtain ⟨ho_1, hM⟩ := hM
  refine oV (.int .i64 (r_2 + 1)) (q_addN _ rfl rfl rfl ho_1.1 ho_1.2) rfl ?_
  refine oA (.int .i64 (r_2 + 1)) rfl rfl ?_
  refine HO.nil (thenQ_normal (?_))
  refine HW.block ?_
  obtain ⟨I_1, m_1, hI_1, hR_1⟩ := hM
  refine HW.loop (S := List T_api_Site × Int × Int) (fun s f h => match s with | (l_1, i_1, j_1) => ∃ (F' : Fz), f 0 = vs ∧ f 1 = .func (.func g_del) fs_del cs_del ∧ f 4 = .slice none 0 0 ∧ f 5 = .int .i64 i_1 ∧ f 6 = .int .i64 j_1 ∧ Kp F h0 F' h ∧ St F' (Ow.own 29 3 e_api_Site vs l_1 :: fr) h ∧ (FnP Try.prog F' h g_del fs_del cs_del (fun x : T_api_Site => [.agg #[.int .i64 x.1, .int .i64 x.2.1, .bool x.2.2]]) (fun x => .bool (cf_del x))) ∧ I_1 (l_1, i_1, j_1)) m_1 (s1, r_2, r_2 + 1) ⟨F_2, rfl, rfl, rfl, rfl, rfl, hK, hS, hF_cf_del, hI_1⟩ ?_
  rintro ⟨l_1, i_1, j_1⟩ f_1 h_2 ⟨F_3, e0, e1, e4, e5, e6, hK, hS, hF_cf_del, hI0⟩
  obtain ⟨K_1, hKe_1⟩ : ∃ K : (List T_api_Site) → Int → Int → Prop, K = fun l_1' i_1' j_1' => I_1 (l_1', i_1', j_1') ∧ m_1 (l_1', i_1', j_1') < m_1 (l_1, i_1, j_1) := ⟨_, rfl⟩
  have hM : slices_DeleteFunc_s_api_Site_api_Site_l2 cf_del Q K_1 l_1 i_1 j_1 := by rw [hKe_1]; exact hR_1 (l_1, i_1, j_1) hI0
  unfold slices_DeleteFunc_s_api_Site_api_Site_l2 at hM
  refine HW.fr [(0, vs), (1, .func (.func g_del) fs_del cs_del), (4, .slice none 0 0), (5, .int .i64 i_1), (6, .int .i64 j_1)] ⟨e0, e1, e4, e5, e6, trivial⟩ ?_
  refine HW.seq ?_
  refine HW.seq ?_
  refine HW.region ?_
  refine oM (.int .i64 j_1) rfl rfl ?_
  refine oM (vs) rfl rfl ?_
  refine oV (.int .i64 (l_1.length : Int)) (q_len ts_30 (shp (hS.own 0 rfl).slice) rfl rfl) rfl ?_
  refine oV (.bool (decide (j_1 < (l_1.length : Int)))) (q_lss rfl rfl) rfl ?_
  refine HO.nil (thenQ_normal (?_))
  refine HW.cond (decide (j_1 < (l_1.length : Int))) rfl (fun c_2 => ?_) (fun c_2 => ?_)
  ·
   replace hM := hM.1 (of_decide_eq_true c_2)
   refine HW.skip (thenQ_normal (?_))
   refine HW.seq ?_
   refine HW.block ?_
   refine HW.seq ?_
   refine HW.region ?_
   refine oM (vs) rfl rfl ?_
   refine oM (.int .i64 j_1) rfl rfl ?_
   obtain ⟨ho_2, hM⟩ := hM
   refine oV (elemPtr 3 vs (j_1).toNat) (q_idx ts_30 (hS.own 0 rfl).slice rfl rfl ho_2) rfl ?_
   refine oV (.agg #[.int .i64 ((gi l_1 j_1).1), .int .i64 ((gi l_1 j_1).2.1), .bool ((gi l_1 j_1).2.2)]) (q_ldElemAgg (cs := [.int .i64 ((gi l_1 j_1).1), .int .i64 ((gi l_1 j_1).2.1), .bool ((gi l_1 j_1).2.2)]) ta_29 (hS.own 0 rfl).slice rfl ho_2 rfl) rfl ?_
   refine HO.eff (want_none) rfl (st_alloc (c := #[.int .i64 0, .int .i64 0, .bool false]) hS tz_29 rfl) ?_
   rintro _ h_3 ⟨b_1, rfl, hS, hk⟩
   replace hK := hK.trans hk
   replace hF_cf_del := hF_cf_del.kp hk
   refine HO.sto (want_none) rfl (st_storeAgg (c' := #[.int .i64 ((gi l_1 j_1).1), .int .i64 ((gi l_1 j_1).2.1), .bool ((gi l_1 j_1).2.2)]) hS (i := 0) rfl ta_29 rfl rfl rfl (by simp [Value.oneCell']) (Nat.le_of_ble_eq_true rfl) rfl) ?_
   rintro h_4 ⟨hS, hk⟩
   replace hS : St F_3 (Ow.box b_1 29 #[.int .i64 ((gi l_1 j_1).1), .int .i64 ((gi l_1 j_1).2.1), .bool ((gi l_1 j_1).2.2)] :: Ow.own 29 3 e_api_Site vs l_1 :: fr) h_4 := hS
   replace hK := hK.trans hk
   replace hF_cf_del := hF_cf_del.kp hk
   refine HO.nil (thenQ_normal (?_))
   refine HW.seq ?_
   refine HW.region ?_
   refine oM (.func (.func g_del) fs_del cs_del) rfl rfl ?_
   refine oV (.agg #[.int .i64 ((gi l_1 j_1).1), .int .i64 ((gi l_1 j_1).2.1), .bool ((gi l_1 j_1).2.2)]) (q_loadAgg (cs := [.int .i64 ((gi l_1 j_1).1), .int .i64 ((gi l_1 j_1).2.1), .bool ((gi l_1 j_1).2.2)]) ta_29 rfl rfl (Blk.cells (k := 3) (hS.box 0 rfl) rfl)) rfl ?_
   refine HO.call (want_none) rfl (hF_cf_del.ec (gi l_1 j_1) rfl rfl) (hF_cf_del.hc (gi l_1 j_1) hS) ?_
   rintro _ h_5 ⟨rfl, hS, hk⟩
   replace hK := hK.trans hk
   replace hF_cf_del := hF_cf_del.kp hk
   refine oV (.bool (!(cf_del (gi l_1 j_1)))) (q_not rfl) rfl ?_
   refine HO.nil (thenQ_normal (?_))
   refine HW.cond (!(cf_del (gi l_1 j_1))) rfl (fun c_3 => ?_) (fun c_3 => ?_)
   ·
    replace hM := hM.1 c_3
    refine HW.seq ?_
    refine HW.region ?_
    refine oM (vs) rfl rfl ?_
    refine oM (.int .i64 i_1) rfl rfl ?_
    refine oV (.agg #[.int .i64 ((gi l_1 j_1).1), .int .i64 ((gi l_1 j_1).2.1), .bool ((gi l_1 j_1).2.2)]) (q_loadAgg (cs := [.int .i64 ((gi l_1 j_1).1), .int .i64 ((gi l_1 j_1).2.1), .bool ((gi l_1 j_1).2.2)]) ta_29 rfl rfl (Blk.cells (k := 3) (hS.box 0 rfl) rfl)) rfl ?_
    obtain ⟨ho_3, hM⟩ := hM
    refine oV (elemPtr 3 vs (i_1).toNat) (q_idx ts_30 (hS.own 1 rfl).slice rfl rfl ho_3) rfl ?_
    refine HO.sto (want_none) rfl (st_storeElem (a := (gi l_1 j_1)) (t := i_1) hS (i := 1) rfl ta_29 rfl ho_3 rfl rfl rfl (by simp [Value.oneCell'])) ?_
    rintro h_6 ⟨hS, hk⟩
    replace hS : St F_3 (Ow.box b_1 29 #[.int .i64 ((gi l_1 j_1).1), .int .i64 ((gi l_1 j_1).2.1), .bool ((gi l_1 j_1).2.2)] :: Ow.own 29 3 e_api_Site vs (l_1.set (i_1).toNat (gi l_1 j_1)) :: fr) h_6 := hS
    replace hK := hK.trans hk
    replace hF_cf_del := hF_cf_del.kp hk
    refine HO.nil (thenQ_normal (?_))
    refine HW.region ?_
    refine oM (.int .i64 i_1) rfl rfl ?_
    obtain ⟨ho_4, hM⟩ := hM
    refine oV (.int .i64 (i_1 + 1)) (q_addN _ rfl rfl rfl ho_4.1 ho_4.2) rfl ?_
    refine oA (.int .i64 (i_1 + 1)) rfl rfl ?_
    refine HO.nil (blockQ_normal (thenQ_normal (?_)))
    refine HW.region ?_
    refine oM (.int .i64 j_1) rfl rfl ?_
    obtain ⟨ho_5, hM⟩ := hM
    refine oV (.int .i64 (j_1 + 1)) (q_addN _ rfl rfl rfl ho_5.1 ho_5.2) rfl ?_
    refine oA (.int .i64 (j_1 + 1)) rfl rfl ?_
    refine HO.nil (thenQ_normal (?_))
    replace hS : St F_3 (Ow.own 29 3 e_api_Site vs (l_1.set (i_1).toNat (gi l_1 j_1)) :: fr) h_6 := hS.perm2 [1] 2 rfl rfl
    rw [hKe_1] at hM
    exact ⟨(l_1.set (i_1).toNat (gi l_1 j_1), i_1 + 1, j_1 + 1), ⟨F_3, rfl, rfl, rfl, rfl, rfl, hK, hS, hF_cf_del, hM.1⟩, hM.2⟩
   ·
    replace hM := hM.2 c_3
    refine HW.skip (blockQ_normal (thenQ_normal (?_)))
    refine HW.region ?_
    refine oM (.int .i64 j_1) rfl rfl ?_
    obtain ⟨ho_6, hM⟩ := hM
    refine oV (.int .i64 (j_1 + 1)) (q_addN _ rfl rfl rfl ho_6.1 ho_6.2) rfl ?_
    refine oA (.int .i64 (j_1 + 1)) rfl rfl ?_
    refine HO.nil (thenQ_normal (?_))
    replace hS : St F_3 (Ow.own 29 3 e_api_Site vs l_1 :: fr) h_5 := hS.perm2 [1] 2 rfl rfl
    rw [hKe_1] at hM
    exact ⟨(l_1, i_1, j_1 + 1), ⟨F_3, rfl, rfl, rfl, rfl, rfl, hK, hS, hF_cf_del, hM.1⟩, hM.2⟩
  ·
   replace hM := hM.2 (of_decide_eq_false c_2)
   refine HW.exit (thenQ_exit (thenQ_exit (blockQ_exit (thenQ_normal (?_)))))
   refine HW.seq ?_
   refine HW.region ?_
   refine oM (vs) rfl rfl ?_
   refine oM (.int .i64 i_1) rfl rfl ?_
   obtain ⟨ho_7, hM⟩ := hM
   refine oV (cutV 3 vs (i_1).toNat ((l_1.length : Int)).toNat) (q_slL ts_30 (hS.own 0 rfl).slice rfl rfl ho_7) rfl ?_
   obtain ⟨ho_8, hM⟩ := hM
   refine HO.eff (want_none) rfl (st_clearS (lo := i_1) (hi := (l_1.length : Int)) (z := .agg #[.int .i64 0, .int .i64 0, .bool false]) hS (i := 0) rfl te_30 tz_29 rfl (by intro u hu; simp [e_api_Site, encI, encN, encB, encT, default] at hu; rcases hu with rfl | rfl | rfl <;> rfl) rfl ho_8 rfl) ?_
   rintro _ h_7 ⟨rfl, hS, hk⟩
   replace hS : St F_3 (Ow.own 29 3 e_api_Site vs (clr l_1 i_1 (l_1.length : Int)) :: fr) h_7 := hS
   replace hK := hK.trans hk
   replace hF_cf_del := hF_cf_del.kp hk
   refine HO.nil (thenQ_normal (?_))
   refine HW.seq ?_
   refine HW.region ?_
   refine oM (vs) rfl rfl ?_
   refine oM (.int .i64 i_1) rfl rfl ?_
   obtain ⟨ho_9, hM⟩ := hM
   refine oV (cutV 3 vs (0 : Int).toNat (i_1).toNat) (q_slH ts_30 (hS.own 0 rfl).slice rfl rfl ho_9) rfl ?_
   refine oA (cutV 3 vs (0 : Int).toNat (i_1).toNat) rfl rfl ?_
   refine HO.nil (thenQ_normal (?_))
   refine HW.ret (?_)
   refine ⟨.inr rfl, cutV 3 vs (0 : Int).toNat (i_1).toNat, res1 rfl (rt rfl), ?_⟩
   replace hS := hS.shrink 0 rfl i_1 ho_9.1 ho_9.2
   replace hS : St F_3 (Ow.own 29 3 e_api_Site (cutV 3 vs (0 : Int).toNat (i_1).toNat) (cut (clr l_1 i_1 (l_1.length : Int)) 0 i_1) :: fr) h_7 := hS
   exact ⟨F_3, cut (clr l_1 i_1 (l_1.length : Int)) 0 i_1, cutV 3 vs (0 : Int).toNat (i_1).toNat, rfl, hK, hS, hF_cf_del, hM⟩

def plan_Order_1_W (s1 : T_api_Site) (Q : Bool → Prop) : Prop :=
 Q (!s1.2.2)
set_option maxHeartbeats 40000000 in
set_option maxRecDepth 100000 in
theorem plan_Order_1_walk {F : Fz} {fr : List Ow} {h0 : Heap} (s1 : T_api_Site) (hS : St F (fr) h0)  {Q : Bool → Prop} (hM : plan_Order_1_W s1 Q) :
  HC Try.prog 34 #[.agg #[.int .i64 s1.1, .int .i64 s1.2.1, .bool s1.2.2]] h0 fun u h' => ∃ (F' : Fz) (r_1 : Bool), u = .bool r_1 ∧ Kp F h0 F' h' ∧ St F' (fr) h' ∧ Q r_1 := by
 unfold plan_Order_1_W at hM
 have hK := Kp.refl F h0
 refine HC.of_HW (n := 6) Try.func34 rfl rfl (Nat.le_of_ble_eq_true rfl) ?_
 refine HW.seq ?_
 refine HW.region ?_
 refine HO.eff (want_none) rfl (st_box (c := #[.int .i64 s1.1, .int .i64 s1.2.1, .bool s1.2.2]) (k' := 3) hS rfl rfl) ?_
 rintro _ h_1 ⟨b_1, rfl, hS, hk⟩
 replace hK := hK.trans hk
 refine oA (.bool false) rfl rfl ?_
 refine HO.nil (thenQ_normal (?_))
 refine HW.seq ?_
 refine HW.region ?_
 refine oV (.pointer (some ⟨b_1, 2, none⟩)) (q_fieldAddr fa_29_2 rfl rfl) rfl ?_
 refine oV (.bool s1.2.2) (q_load to_4 rfl (Blk.cell (hS.box 0 rfl) rfl)) rfl ?_
 refine oV (.bool (!s1.2.2)) (q_not rfl) rfl ?_
 refine oA (.bool (!s1.2.2)) rfl rfl ?_
 refine HO.nil (thenQ_normal (?_))
 refine HW.ret (?_)
 refine ⟨.inr rfl, .bool (!s1.2.2), res1 rfl (rt rfl), ?_⟩
 replace hS : St F (fr) h_1 := hS.perm2 [] 1 rfl rfl
 exact ⟨F, !s1.2.2, rfl, hK, hS, hM⟩

def plan_Order_2_W (s1 : T_api_Site) (c0_Node : Int) (c0_Site : Int) (c0_Service : Bool) (Q : Int → Prop) : Prop :=
 (s1.2.1 = c0_Site → Q 0) ∧ (¬ (s1.2.1 = c0_Site) → Q 1)
set_option maxHeartbeats 40000000 in
set_option maxRecDepth 100000 in
theorem plan_Order_2_walk {F : Fz} {fr : List Ow} {h0 : Heap} (s1 : T_api_Site) (c0_Node : Int) (c0_Site : Int) (c0_Service : Bool) (bc0 : Nat) (hS : St F (fr) h0) (hB_bc0 : RoF (Ow.box bc0 29 #[.int .i64 c0_Node, .int .i64 c0_Site, .bool c0_Service]) F h0) {Q : Int → Prop} (hM : plan_Order_2_W s1 c0_Node c0_Site c0_Service Q) :
  HC Try.prog 35 #[.agg #[.int .i64 s1.1, .int .i64 s1.2.1, .bool s1.2.2], .pointer (some ⟨bc0, 0, none⟩)] h0 fun u h' => ∃ (F' : Fz) (r_1 : Int), u = .int .i64 r_1 ∧ Kp F h0 F' h' ∧ St F' (fr) h' ∧ (RoF (Ow.box bc0 29 #[.int .i64 c0_Node, .int .i64 c0_Site, .bool c0_Service]) F' h') ∧ Q r_1 := by
 unfold plan_Order_2_W at hM
 have hK := Kp.refl F h0
 refine HC.of_HW (n := 9) Try.func35 rfl rfl (Nat.le_of_ble_eq_true rfl) ?_
 refine HW.seq ?_
 refine HW.region ?_
 refine HO.eff (want_none) rfl (st_box (c := #[.int .i64 s1.1, .int .i64 s1.2.1, .bool s1.2.2]) (k' := 3) hS rfl rfl) ?_
 rintro _ h_1 ⟨b_1, rfl, hS, hk⟩
 replace hK := hK.trans hk
 replace hB_bc0 := hB_bc0.kp hk
 refine oA (.int .i64 0) rfl rfl ?_
 refine HO.nil (thenQ_normal (?_))
 refine HW.seq ?_
 refine HW.seq ?_
 refine HW.region ?_
 refine oV (.pointer (some ⟨b_1, 1, none⟩)) (q_fieldAddr fa_29_1 rfl rfl) rfl ?_
 refine oV (.int .i64 s1.2.1) (q_load to_3 rfl (Blk.cell (hS.box 0 rfl) rfl)) rfl ?_
 refine oV (.pointer (some ⟨bc0, 1, none⟩)) (q_fieldAddr fa_29_1 rfl rfl) rfl ?_
 refine oV (.int .i64 c0_Site) (q_load to_3 rfl (Blk.cell hB_bc0.box rfl)) rfl ?_
 refine oV (.bool (decide (s1.2.1 = c0_Site))) (q_eql rfl rfl) rfl ?_
 refine HO.nil (thenQ_normal (?_))
 refine HW.cond (decide (s1.2.1 = c0_Site)) rfl (fun c_1 => ?_) (fun c_1 => ?_)
 ·
  replace hM := hM.1 (of_decide_eq_true c_1)
  refine HW.seq ?_
  refine HW.region ?_
  refine oA (.int .i64 0) rfl rfl ?_
  refine HO.nil (thenQ_normal (?_))
  refine HW.ret (thenQ_ret (?_))
  refine ⟨.inr rfl, .int .i64 0, res1 rfl (rt rfl), ?_⟩
  replace hS : St F (fr) h_1 := hS.perm2 [] 1 rfl rfl
  exact ⟨F, 0, rfl, hK, hS, hB_bc0, hM⟩
 ·
  replace hM := hM.2 (of_decide_eq_false c_1)
  refine HW.skip (thenQ_normal (?_))
  refine HW.seq ?_
  refine HW.region ?_
  refine oA (.int .i64 1) rfl rfl ?_
  refine HO.nil (thenQ_normal (?_))
  refine HW.ret (?_)
  refine ⟨.inr rfl, .int .i64 1, res1 rfl (rt rfl), ?_⟩
  replace hS : St F (fr) h_1 := hS.perm2 [] 1 rfl rfl
  exact ⟨F, 1, rfl, hK, hS, hB_bc0, hM⟩

def plan_Order_3_W (a : T_api_Site) (b : T_api_Site) (cf_c0_v : T_api_Site → Int) (Q : Int → Prop) : Prop :=
 (I64 ((cf_c0_v a) - (cf_c0_v b))) ∧ (cmp_Compare_int_W a.1 b.1 (fun r_2 => cmp_Or_int_W ([(cf_c0_v a) - (cf_c0_v b), r_2] : List Int) (fun r_3 => Q r_3)))
set_option maxHeartbeats 40000000 in
set_option maxRecDepth 100000 in
theorem plan_Order_3_walk {F : Fz} {fr : List Ow} {h0 : Heap} (a : T_api_Site) (b : T_api_Site) (cf_c0_v : T_api_Site → Int) (bc0 : Nat) (g_c0_v : Nat) (fs_c0_v : Array Value) (cs_c0_v : Array Value) (hS : St F (fr) h0) (hF_cf_c0_v : FnP Try.prog F h0 g_c0_v fs_c0_v cs_c0_v (fun x : T_api_Site => [.agg #[.int .i64 x.1, .int .i64 x.2.1, .bool x.2.2]]) (fun x => .int .i64 (cf_c0_v x))) (hB_bc0 : RoF (Ow.box bc0 61 #[.func (.func g_c0_v) fs_c0_v cs_c0_v]) F h0) {Q : Int → Prop} (hM : plan_Order_3_W a b cf_c0_v Q) :
  HC Try.prog 37 #[.agg #[.int .i64 a.1, .int .i64 a.2.1, .bool a.2.2], .agg #[.int .i64 b.1, .int .i64 b.2.1, .bool b.2.2], .pointer (some ⟨bc0, 0, none⟩)] h0 fun u h' => ∃ (F' : Fz) (r_1 : Int), u = .int .i64 r_1 ∧ Kp F h0 F' h' ∧ St F' (fr) h' ∧ (FnP Try.prog F' h' g_c0_v fs_c0_v cs_c0_v (fun x : T_api_Site => [.agg #[.int .i64 x.1, .int .i64 x.2.1, .bool x.2.2]]) (fun x => .int .i64 (cf_c0_v x))) ∧ (RoF (Ow.box bc0 61 #[.func (.func g_c0_v) fs_c0_v cs_c0_v]) F' h') ∧ Q r_1 := by
 unfold plan_Order_3_W at hM
 have hK := Kp.refl F h0
 refine HC.of_HW (n := 20) Try.func37 rfl rfl (Nat.le_of_ble_eq_true rfl) ?_
 refine HW.seq ?_
 refine HW.region ?_
 refine HO.eff (want_none) rfl (st_box (c := #[.int .i64 a.1, .int .i64 a.2.1, .bool a.2.2]) (k' := 3) hS rfl rfl) ?_
 rintro _ h_1 ⟨b_1, rfl, hS, hk⟩
 replace hK := hK.trans hk
 replace hF_cf_c0_v := hF_cf_c0_v.kp hk
 replace hB_bc0 := hB_bc0.kp hk
 refine HO.eff (want_none) rfl (st_box (c := #[.int .i64 b.1, .int .i64 b.2.1, .bool b.2.2]) (k' := 3) hS rfl rfl) ?_
 rintro _ h_2 ⟨b_2, rfl, hS, hk⟩
 replace hK := hK.trans hk
 replace hF_cf_c0_v := hF_cf_c0_v.kp hk
 replace hB_bc0 := hB_bc0.kp hk
 refine oA (.int .i64 0) rfl rfl ?_
 refine HO.nil (thenQ_normal (?_))
 refine HW.seq ?_
 refine HW.regionA 15 mixed (fun h => (Blk h bc0 (.cells #[.func (.func g_c0_v) fs_c0_v cs_c0_v] 61 (0, 0))) ∧ (Blk h b_2 (.cells #[.int .i64 b.1, .int .i64 b.2.1, .bool b.2.2] 29 (0, 0))) ∧ (Blk h b_1 (.cells #[.int .i64 a.1, .int .i64 a.2.1, .bool a.2.2] 29 (0, 0)))) [] (by kernel_rfl) ?_
 refine HA.val (k := 0) (v := .func (.func g_c0_v) fs_c0_v cs_c0_v) rfl rfl (by kernel_rfl) (by kernel_rfl) (want_none) rfl (fun _ ⟨hB_bc0, c202, c201⟩ => q_load to_61 rfl (Blk.cell hB_bc0 rfl)) ?_
 refine HA.val (k := 1) (v := .agg #[.int .i64 a.1, .int .i64 a.2.1, .bool a.2.2]) rfl rfl (by kernel_rfl) (by kernel_rfl) (want_none) rfl (fun _ ⟨hB_bc0, c202, c201⟩ => q_loadAgg (cs := [.int .i64 a.1, .int .i64 a.2.1, .bool a.2.2]) ta_29 rfl rfl (Blk.cells (k := 3) c201 rfl)) ?_
 refine HA.val (k := 3) (v := .func (.func g_c0_v) fs_c0_v cs_c0_v) rfl rfl (by kernel_rfl) (by kernel_rfl) (want_none) rfl (fun _ ⟨hB_bc0, c202, c201⟩ => q_load to_61 rfl (Blk.cell hB_bc0 rfl)) ?_
 refine HA.val (k := 4) (v := .agg #[.int .i64 b.1, .int .i64 b.2.1, .bool b.2.2]) rfl rfl (by kernel_rfl) (by kernel_rfl) (want_none) rfl (fun _ ⟨hB_bc0, c202, c201⟩ => q_loadAgg (cs := [.int .i64 b.1, .int .i64 b.2.1, .bool b.2.2]) ta_29 rfl rfl (Blk.cells (k := 3) c202 rfl)) ?_
 refine HA.val (k := 7) (v := .pointer (some ⟨b_1, 0, none⟩)) rfl rfl (by kernel_rfl) (by kernel_rfl) (want_none) rfl (fun _ ⟨hB_bc0, c202, c201⟩ => q_fieldAddr fa_29_0 rfl rfl) ?_
 refine HA.val (k := 8) (v := .int .i64 a.1) rfl rfl (by kernel_rfl) (by kernel_rfl) (want_none) rfl (fun _ ⟨hB_bc0, c202, c201⟩ => q_load to_3 rfl (Blk.cell c201 rfl)) ?_
 refine HA.val (k := 9) (v := .pointer (some ⟨b_2, 0, none⟩)) rfl rfl (by kernel_rfl) (by kernel_rfl) (want_none) rfl (fun _ ⟨hB_bc0, c202, c201⟩ => q_fieldAddr fa_29_0 rfl rfl) ?_
 refine HA.val (k := 10) (v := .int .i64 b.1) rfl rfl (by kernel_rfl) (by kernel_rfl) (want_none) rfl (fun _ ⟨hB_bc0, c202, c201⟩ => q_load to_3 rfl (Blk.cell c202 rfl)) ?_
 refine HA.one (k := 2) ⟨⟨hB_bc0.box, (hS.box 0 rfl), (hS.box 1 rfl)⟩, (Go.Wk.at_nil _ _)⟩ (by kernel_rfl) ?_
 refine HS.call rfl (want_none) rfl (hF_cf_c0_v.ec a rfl rfl) (hF_cf_c0_v.hc a hS) ?_
 rintro _ h_3 ⟨rfl, hS, hk⟩
 replace hK := hK.trans hk
 replace hF_cf_c0_v := hF_cf_c0_v.kp hk
 replace hB_bc0 := hB_bc0.kp hk
 refine HA.one (k := 5) ⟨⟨hB_bc0.box, (hS.box 0 rfl), (hS.box 1 rfl)⟩, (Go.Wk.at_nil _ _)⟩ (by kernel_rfl) ?_
 refine HS.call rfl (want_none) rfl (hF_cf_c0_v.ec b rfl rfl) (hF_cf_c0_v.hc b hS) ?_
 rintro _ h_4 ⟨rfl, hS, hk⟩
 replace hK := hK.trans hk
 replace hF_cf_c0_v := hF_cf_c0_v.kp hk
 replace hB_bc0 := hB_bc0.kp hk
 obtain ⟨ho_1, hM⟩ := hM
 refine HA.val (k := 6) (v := .int .i64 ((cf_c0_v a) - (cf_c0_v b))) rfl rfl (by kernel_rfl) (by kernel_rfl) (want_none) rfl (fun _ ⟨hB_bc0, c202, c201⟩ => q_subN _ rfl rfl rfl ho_1.1 ho_1.2) ?_
 refine HA.one (k := 11) ⟨⟨hB_bc0.box, (hS.box 0 rfl), (hS.box 1 rfl)⟩, (Go.Wk.at_nil _ _)⟩ (by kernel_rfl) ?_
 refine HS.call rfl (want_none) rfl (ec en_39 rfl rfl) (cmp_Compare_int_walk (fr := (Ow.box b_2 29 #[.int .i64 b.1, .int .i64 b.2.1, .bool b.2.2] :: Ow.box b_1 29 #[.int .i64 a.1, .int .i64 a.2.1, .bool a.2.2] :: fr)) a.1 b.1 hS hM) ?_
 rintro _ h_5 ⟨F_1, r_2, rfl, hk, hS, hM⟩
 replace hK := hK.trans hk
 replace hF_cf_c0_v := hF_cf_c0_v.kp hk
 replace hB_bc0 := hB_bc0.kp hk
 refine HA.one (k := 12) ⟨⟨hB_bc0.box, (hS.box 0 rfl), (hS.box 1 rfl)⟩, (Go.Wk.at_nil _ _)⟩ (by kernel_rfl) ?_
 refine HS.eff rfl (want_none) rfl (st_lit (enc := encI) (cells := #[.int .i64 ((cf_c0_v a) - (cf_c0_v b)), .int .i64 r_2]) #[.int .i64 0, .int .i64 0] ([(cf_c0_v a) - (cf_c0_v b), r_2] : List Int) hS tl_31 (by decide) (by decide) (by kernel_rfl) (by kernel_rfl) rfl (by intro x hx; rfl) rfl) ?_
 rintro _ h_6 ⟨b_3, rfl, hS, hk⟩
 replace hK := hK.trans hk
 replace hF_cf_c0_v := hF_cf_c0_v.kp hk
 replace hB_bc0 := hB_bc0.kp hk
 refine HA.one (k := 13) ⟨⟨hB_bc0.box, (hS.box 1 rfl), (hS.box 2 rfl)⟩, (Go.Wk.at_nil _ _)⟩ (by kernel_rfl) ?_
 have hZ_1 := hS
 have hkz_1 := (hS.freeze).2
 replace hS := hS.freeze.1
 have hL_1 : SliceF (fun bz_ => F_1 bz_ ∨ (Ow.own 3 1 encI (.slice (some ⟨b_3, 0, none⟩) 2 2) ([(cf_c0_v a) - (cf_c0_v b), r_2] : List Int)).foot bz_) h_6 1 encI (.slice (some ⟨b_3, 0, none⟩) 2 2) ([(cf_c0_v a) - (cf_c0_v b), r_2] : List Int) := ⟨(hZ_1.own 0 rfl).slice, fun _ b hb => .inr hb⟩
 refine HS.call rfl (want_none) rfl (ec en_38 rfl rfl) (cmp_Or_int_walk (fr := (Ow.box b_2 29 #[.int .i64 b.1, .int .i64 b.2.1, .bool b.2.2] :: Ow.box b_1 29 #[.int .i64 a.1, .int .i64 a.2.1, .bool a.2.2] :: fr)) ([(cf_c0_v a) - (cf_c0_v b), r_2] : List Int) (.slice (some ⟨b_3, 0, none⟩) 2 2) hS hL_1 hM) ?_
 rintro _ h_7 ⟨F_2, r_3, rfl, hk, hS, _, hM⟩
 obtain ⟨hS, hk⟩ := hZ_1.back hk hS
 generalize (fun bz_ => F_2 bz_ ∧ ¬ (Ow.own 3 1 encI (.slice (some ⟨b_3, 0, none⟩) 2 2) ([(cf_c0_v a) - (cf_c0_v b), r_2] : List Int)).foot bz_) = F_3 at hS hk
 replace hK := hK.trans hk
 replace hF_cf_c0_v := hF_cf_c0_v.kp hk
 replace hB_bc0 := hB_bc0.kp hk
 refine HA.val (k := 14) (v := .int .i64 r_3) rfl rfl (by kernel_rfl) (by kernel_rfl) (want_none) rfl (fun _ ⟨hB_bc0, c202, c201⟩ => q_assign rfl) ?_
 refine HA.nil ⟨⟨hB_bc0.box, (hS.box 1 rfl), (hS.box 2 rfl)⟩, (Go.Wk.at_nil _ _)⟩ (by kernel_rfl) (thenQ_normal (?_))
 refine HW.ret (?_)
 refine ⟨.inr rfl, .int .i64 r_3, res1 rfl (rt rfl), ?_⟩
 replace hS : St F_3 (fr) h_7 := hS.perm2 [] 3 rfl rfl
 exact ⟨F_3, r_3, rfl, hK, hS, hF_cf_c0_v, hB_bc0, hM⟩

def plan_Order_l2 (Q : (List Int) → Prop) (l_1 : List T_api_Site) (K_1 : (List Int) → Int → Prop) (out_1 : List Int) (n_1 : Int) : Prop :=
 (n_1 < (l_1.length : Int) → ((0 : Int) ≤ n_1 ∧ n_1 < (l_1.length : Int)) ∧ (((out_1.length + ([(gi l_1 n_1).1] : List Int).length) * 8 ≤ 140737488355328) ∧ ((I64 (n_1 + 1)) ∧ (K_1 (out_1 ++ ([(gi l_1 n_1).1] : List Int)) (n_1 + 1))))) ∧ (¬ (n_1 < (l_1.length : Int)) → Q out_1)
def plan_Order_W (root : T_api_Site) (l : List T_api_Site) (Q : (List Int) → Prop) : Prop :=
 slices_Clone_s_api_Site_api_Site_W l (fun r_2 => ∃ cf_1 : T_api_Site → Bool, (∀ x0, plan_Order_1_W x0 (fun r => r = cf_1 x0)) ∧ (slices_DeleteFunc_s_api_Site_api_Site_W r_2 cf_1 (fun r_3 => ∃ cf_2 : T_api_Site → Int, (∀ x0, plan_Order_2_W x0 root.1 root.2.1 root.2.2 (fun r => r = cf_2 x0)) ∧ (∃ cf_3 : T_api_Site → T_api_Site → Int, (∀ x0 x1, plan_Order_3_W x0 x1 cf_2 (fun r => r = cf_3 x0 x1)) ∧ (Swo cf_3 ∧ (r_3).length < 4611686018427387904 ∧ ∀ l_1 : List T_api_Site, List.Perm l_1 r_3 → List.Pairwise (fun x y => ¬ cf_3 y x < 0) l_1 → (loopW (fun (K_1 : (List Int × Int) → Prop) (s : List Int × Int) => plan_Order_l2 Q l_1 (fun out_1 n_1 => K_1 (out_1, n_1)) s.1 s.2) ([], 0)))))))
set_option maxHeartbeats 40000000 in
set_option maxRecDepth 100000 in
theorem plan_Order_walk {F : Fz} {fr : List Ow} {h0 : Heap} (root : T_api_Site) (l : List T_api_Site) (vl : Value) (hS : St F (fr) h0) (hL_l : SliceF F h0 3 e_api_Site vl l) {Q : (List Int) → Prop} (hM : plan_Order_W root l Q) :
  HC Try.prog 15 #[.agg #[.int .i64 root.1, .int .i64 root.2.1, .bool root.2.2], vl] h0 fun u h' => ∃ (F' : Fz) (r_1 : List Int) (vr_1 : Value), u = vr_1 ∧ Kp F h0 F' h' ∧ St F' (Ow.own 3 1 encI vr_1 r_1 :: fr) h' ∧ (SliceF F' h' 3 e_api_Site vl l) ∧ Q r_1 := by
 unfold plan_Order_W at hM
 have hK := Kp.refl F h0
 refine HC.of_HW (n := 30) Try.func15 rfl rfl (Nat.le_of_ble_eq_true rfl) ?_
 refine HW.seq ?_
 refine HW.region ?_
 refine HO.eff (want_none) rfl (st_box (c := #[.int .i64 root.1, .int .i64 root.2.1, .bool root.2.2]) (k' := 3) hS rfl rfl) ?_
 rintro _ h_1 ⟨b_1, rfl, hS, hk⟩
 replace hK := hK.trans hk
 replace hL_l := hL_l.kp hk
 refine oA (.slice none 0 0) rfl rfl ?_
 refine HO.nil (thenQ_normal (?_))
 refine HW.seq ?_
 refine HW.region ?_
 refine oM (vl) rfl rfl ?_
 refine HO.call (want_none) rfl (ec en_33 rfl rfl) (slices_Clone_s_api_Site_api_Site_walk (fr := (Ow.box b_1 29 #[.int .i64 root.1, .int .i64 root.2.1, .bool root.2.2] :: fr)) l vl hS hL_l hM) ?_
 rintro vr_2 h_2 ⟨F_1, r_2, _, rfl, hk, hS, _, hM⟩
 replace hK := hK.trans hk
 replace hL_l := hL_l.kp hk
 obtain ⟨cf_1, hc_1, hM⟩ := hM
 have hF_1 : FnP Try.prog F_1 h_2 34 #[] #[] (fun x : T_api_Site => [.agg #[.int .i64 x.1, .int .i64 x.2.1, .bool x.2.2]]) (fun x => .bool (cf_1 x)) := FnP.of en_34 (fun x h' hk_ => @HC.mono ⟨true⟩ _ _ _ _ _ _ (@plan_Order_1_walk ⟨true⟩ (allF h') [] h' x  (St.init h')  (fun r => r = cf_1 x) (hc_1 x)) (fun u h'' ⟨F', r, hu, k_, _, hr⟩ => ⟨by rw [hu, hr], F', k_⟩))
 refine HO.call (want_none) rfl (ec en_32 rfl rfl) (slices_DeleteFunc_s_api_Site_api_Site_walk (fr := (Ow.box b_1 29 #[.int .i64 root.1, .int .i64 root.2.1, .bool root.2.2] :: fr)) r_2 cf_1 vr_2 34 (#[]) (#[]) hS hF_1 hM) ?_
 rintro vr_3 h_3 ⟨F_2, r_3, _, rfl, hk, hS, _, hM⟩
 replace hK := hK.trans hk
 replace hL_l := hL_l.kp hk
 replace hF_1 := hF_1.kp hk
 refine oA (vr_3) rfl rfl ?_
 refine HO.nil (thenQ_normal (?_))
 refine HW.seq ?_
 refine HW.region ?_
 refine oV (.func (.func 35) #[] #[.pointer (some ⟨b_1, 0, none⟩)]) (q_makeFunc rfl rfl) rfl ?_
 refine HO.eff (want_none) rfl (st_alloc (c := #[.nilFunc]) hS tz_61 rfl) ?_
 rintro _ h_4 ⟨b_2, rfl, hS, hk⟩
 replace hK := hK.trans hk
 replace hL_l := hL_l.kp hk
 replace hF_1 := hF_1.kp hk
 refine HO.sto (want_none) rfl (st_store (c' := #[.func (.func 35) #[] #[.pointer (some ⟨b_1, 0, none⟩)]]) hS (i := 0) rfl to_61 rfl rfl rfl rfl (Nat.le_of_ble_eq_true rfl) rfl) ?_
 rintro h_5 ⟨hS, hk⟩
 replace hS : St F_2 (Ow.box b_2 61 #[.func (.func 35) #[] #[.pointer (some ⟨b_1, 0, none⟩)]] :: Ow.own 29 3 e_api_Site vr_3 r_3 :: Ow.box b_1 29 #[.int .i64 root.1, .int .i64 root.2.1, .bool root.2.2] :: fr) h_5 := hS
 replace hK := hK.trans hk
 replace hL_l := hL_l.kp hk
 replace hF_1 := hF_1.kp hk
 refine HO.nil (thenQ_normal (?_))
 refine HW.seq ?_
 refine HW.region ?_
 refine oM (vr_3) rfl rfl ?_
 refine oV (.func (.func 37) #[] #[.pointer (some ⟨b_2, 0, none⟩)]) (q_makeFunc rfl rfl) rfl ?_
 replace hS : St F_2 (Ow.box b_1 29 #[.int .i64 root.1, .int .i64 root.2.1, .bool root.2.2] :: Ow.box b_2 61 #[.func (.func 35) #[] #[.pointer (some ⟨b_1, 0, none⟩)]] :: Ow.own 29 3 e_api_Site vr_3 r_3 :: fr) h_5 := hS.perm2 [2, 0, 1] 3 rfl rfl
 obtain ⟨F_3, hS, hk, hB_1⟩ := hS.freezeRo
 replace hK := hK.trans hk
 replace hL_l := hL_l.kp hk
 replace hF_1 := hF_1.kp hk
 obtain ⟨F_4, hS, hk, hB_2⟩ := hS.freezeRo
 replace hK := hK.trans hk
 replace hL_l := hL_l.kp hk
 replace hF_1 := hF_1.kp hk
 replace hB_1 := hB_1.kp hk
 obtain ⟨cf_2, hc_2, hM⟩ := hM
 have hF_2 : FnP Try.prog F_4 h_5 35 #[] #[.pointer (some ⟨b_1, 0, none⟩)] (fun x : T_api_Site => [.agg #[.int .i64 x.1, .int .i64 x.2.1, .bool x.2.2]]) (fun x => .int .i64 (cf_2 x)) := FnP.of en_35 (fun x h' hk_ => @HC.mono ⟨true⟩ _ _ _ _ _ _ (@plan_Order_2_walk ⟨true⟩ (allF h') [] h' x root.1 root.2.1 root.2.2 b_1 (St.init h') (hB_1.kp hk_) (fun r => r = cf_2 x) (hc_2 x)) (fun u h'' ⟨F', r, hu, k_, _, _, hr⟩ => ⟨by rw [hu, hr], F', k_⟩))
 obtain ⟨cf_3, hc_3, hM⟩ := hM
 have hF_3 : FnP Try.prog F_4 h_5 37 #[] #[.pointer (some ⟨b_2, 0, none⟩)] (fun x : T_api_Site × T_api_Site => [.agg #[.int .i64 x.1.1, .int .i64 x.1.2.1, .bool x.1.2.2], .agg #[.int .i64 x.2.1, .int .i64 x.2.2.1, .bool x.2.2.2]]) (fun x => .int .i64 (cf_3 x.1 x.2)) := FnP.of en_37 (fun x h' hk_ => @HC.mono ⟨true⟩ _ _ _ _ _ _ (@plan_Order_3_walk ⟨true⟩ (allF h') [] h' x.1 x.2 cf_2 b_2 35 (#[]) (#[.pointer (some ⟨b_1, 0, none⟩)]) (St.init h') (hF_2.kp hk_) (hB_2.kp hk_) (fun r => r = cf_3 x.1 x.2) (hc_3 x.1 x.2)) (fun u h'' ⟨F', r, hu, k_, _, _, _, hr⟩ => ⟨by rw [hu, hr], F', k_⟩))
 obtain ⟨ho_1, ho_2, hM⟩ := hM
 refine HO.call (want_none) rfl (ec en_36 rfl rfl) (sortFunc_own Try.sortSi (by decide) (fun w => by kernel_rfl) (fun w => by kernel_rfl) (enc := e_api_Site) (fun _ => rfl) (by intro a u hu; simp [e_api_Site, encI, encN, encB, encT] at hu; rcases hu with rfl | rfl | rfl <;> rfl) ho_1 hS hF_3 ho_2) ?_
 rintro _ h_6 ⟨l_1, rfl, hk, hS, hp_1, hs_1⟩
 replace hM := hM l_1 hp_1 hs_1
 replace hS : St F_4 (Ow.own 29 3 e_api_Site vr_3 l_1 :: fr) h_6 := hS
 replace hK := hK.trans hk
 replace hL_l := hL_l.kp hk
 replace hF_1 := hF_1.kp hk
 replace hB_1 := hB_1.kp hk
 replace hB_2 := hB_2.kp hk
 replace hF_2 := hF_2.kp hk
 replace hF_3 := hF_3.kp hk
 refine HO.nil (thenQ_normal (?_))
 refine HW.seq ?_
 refine HW.region ?_
 refine oA (.slice none 0 0) rfl rfl ?_
 refine HO.nil (thenQ_normal (?_))
 refine HW.seq ?_
 refine HW.seq ?_
 refine HW.region ?_
 refine oM (vr_3) rfl rfl ?_
 refine oV (.int .i64 (l_1.length : Int)) (q_len ts_30 (shp (hS.own 0 rfl).slice) rfl rfl) rfl ?_
 refine oM (.int .i64 0) rfl rfl ?_
 refine HO.nil (thenQ_normal (?_))
 refine HW.block ?_
 obtain ⟨I_1, m_1, hI_1, hR_1⟩ := hM
 replace hS := hS.nilOwn 3 1 encI
 refine HW.loop (S := List Int × Int) (fun s f h => match s with | (out_1, n_1) => ∃ (F' : Fz) (vout_1 : Value), f 4 = .slice none 0 0 ∧ f 7 = vout_1 ∧ f 17 = vr_3 ∧ f 18 = .int .i64 (l_1.length : Int) ∧ f 19 = .int .i64 n_1 ∧ Kp F h0 F' h ∧ St F' (Ow.own 3 1 encI vout_1 out_1 :: Ow.own 29 3 e_api_Site vr_3 l_1 :: fr) h ∧ (SliceF F' h 3 e_api_Site vl l) ∧ (FnP Try.prog F' h 34 #[] #[] (fun x : T_api_Site => [.agg #[.int .i64 x.1, .int .i64 x.2.1, .bool x.2.2]]) (fun x => .bool (cf_1 x))) ∧ (RoF (Ow.box b_1 29 #[.int .i64 root.1, .int .i64 root.2.1, .bool root.2.2]) F' h) ∧ (RoF (Ow.box b_2 61 #[.func (.func 35) #[] #[.pointer (some ⟨b_1, 0, none⟩)]]) F' h) ∧ (FnP Try.prog F' h 35 #[] #[.pointer (some ⟨b_1, 0, none⟩)] (fun x : T_api_Site => [.agg #[.int .i64 x.1, .int .i64 x.2.1, .bool x.2.2]]) (fun x => .int .i64 (cf_2 x))) ∧ (FnP Try.prog F' h 37 #[] #[.pointer (some ⟨b_2, 0, none⟩)] (fun x : T_api_Site × T_api_Site => [.agg #[.int .i64 x.1.1, .int .i64 x.1.2.1, .bool x.1.2.2], .agg #[.int .i64 x.2.1, .int .i64 x.2.2.1, .bool x.2.2.2]]) (fun x => .int .i64 (cf_3 x.1 x.2))) ∧ I_1 (out_1, n_1)) m_1 ([], 0) ⟨F_4, .slice none 0 0, rfl, rfl, rfl, rfl, rfl, hK, hS, hL_l, hF_1, hB_1, hB_2, hF_2, hF_3, hI_1⟩ ?_
 rintro ⟨out_1, n_1⟩ f_1 h_7 ⟨F_5, vout_1, e4, e7, e17, e18, e19, hK, hS, hL_l, hF_1, hB_1, hB_2, hF_2, hF_3, hI0⟩
 obtain ⟨K_1, hKe_1⟩ : ∃ K : (List Int) → Int → Prop, K = fun out_1' n_1' => I_1 (out_1', n_1') ∧ m_1 (out_1', n_1') < m_1 (out_1, n_1) := ⟨_, rfl⟩
 have hM : plan_Order_l2 Q l_1 K_1 out_1 n_1 := by rw [hKe_1]; exact hR_1 (out_1, n_1) hI0
 unfold plan_Order_l2 at hM
 refine HW.fr [(4, .slice none 0 0), (7, vout_1), (17, vr_3), (18, .int .i64 (l_1.length : Int)), (19, .int .i64 n_1)] ⟨e4, e7, e17, e18, e19, trivial⟩ ?_
 refine HW.seq ?_
 refine HW.region ?_
 refine oV (.bool (decide (n_1 < (l_1.length : Int)))) (q_lss rfl rfl) rfl ?_
 refine HO.nil (thenQ_normal (?_))
 refine HW.seq ?_
 refine HW.cond (decide (n_1 < (l_1.length : Int))) rfl (fun c_1 => ?_) (fun c_1 => ?_)
 ·
  replace hM := hM.1 (of_decide_eq_true c_1)
  refine HW.skip (thenQ_normal (?_))
  refine HW.seq ?_
  refine HW.block ?_
  refine HW.seq ?_
  refine HW.region ?_
  obtain ⟨ho_3, hM⟩ := hM
  refine oV (elemPtr 3 vr_3 (n_1).toNat) (q_idx ts_30 (hS.own 1 rfl).slice rfl rfl ho_3) rfl ?_
  refine oV (.agg #[.int .i64 ((gi l_1 n_1).1), .int .i64 ((gi l_1 n_1).2.1), .bool ((gi l_1 n_1).2.2)]) (q_ldElemAgg (cs := [.int .i64 ((gi l_1 n_1).1), .int .i64 ((gi l_1 n_1).2.1), .bool ((gi l_1 n_1).2.2)]) ta_29 (hS.own 1 rfl).slice rfl ho_3 rfl) rfl ?_
  refine HO.eff (want_none) rfl (st_alloc (c := #[.int .i64 0, .int .i64 0, .bool false]) hS tz_29 rfl) ?_
  rintro _ h_8 ⟨b_3, rfl, hS, hk⟩
  replace hK := hK.trans hk
  replace hL_l := hL_l.kp hk
  replace hF_1 := hF_1.kp hk
  replace hB_1 := hB_1.kp hk
  replace hB_2 := hB_2.kp hk
  replace hF_2 := hF_2.kp hk
  replace hF_3 := hF_3.kp hk
  refine HO.sto (want_none) rfl (st_storeAgg (c' := #[.int .i64 ((gi l_1 n_1).1), .int .i64 ((gi l_1 n_1).2.1), .bool ((gi l_1 n_1).2.2)]) hS (i := 0) rfl ta_29 rfl rfl rfl (by simp [Value.oneCell']) (Nat.le_of_ble_eq_true rfl) rfl) ?_
  rintro h_9 ⟨hS, hk⟩
  replace hS : St F_5 (Ow.box b_3 29 #[.int .i64 ((gi l_1 n_1).1), .int .i64 ((gi l_1 n_1).2.1), .bool ((gi l_1 n_1).2.2)] :: Ow.own 3 1 encI vout_1 out_1 :: Ow.own 29 3 e_api_Site vr_3 l_1 :: fr) h_9 := hS
  replace hK := hK.trans hk
  replace hL_l := hL_l.kp hk
  replace hF_1 := hF_1.kp hk
  replace hB_1 := hB_1.kp hk
  replace hB_2 := hB_2.kp hk
  replace hF_2 := hF_2.kp hk
  replace hF_3 := hF_3.kp hk
  refine HO.nil (thenQ_normal (?_))
  refine HW.region ?_
  refine oM (vout_1) rfl rfl ?_
  refine oV (.pointer (some ⟨b_3, 0, none⟩)) (q_fieldAddr fa_29_0 rfl rfl) rfl ?_
  refine oV (.int .i64 ((gi l_1 n_1).1)) (q_load to_3 rfl (Blk.cell (hS.box 0 rfl) rfl)) rfl ?_
  refine HO.eff (want_none) rfl (st_lit (enc := encI) (cells := #[.int .i64 ((gi l_1 n_1).1)]) #[.int .i64 0] ([(gi l_1 n_1).1] : List Int) hS tl_31 (by decide) (by decide) (by kernel_rfl) (by kernel_rfl) rfl (by intro x hx; rfl) rfl) ?_
  rintro _ h_10 ⟨b_4, rfl, hS, hk⟩
  replace hK := hK.trans hk
  replace hL_l := hL_l.kp hk
  replace hF_1 := hF_1.kp hk
  replace hB_1 := hB_1.kp hk
  replace hB_2 := hB_2.kp hk
  replace hF_2 := hF_2.kp hk
  replace hF_3 := hF_3.kp hk
  obtain ⟨ho_4, hM⟩ := hM
  refine HO.eff (want_none) rfl (st_append te_31 hS (i := 2) rfl (hS.own 0 rfl).slice rfl rfl rfl (by intro a _ u hu; simp [encI, encI, encN, encB, encT] at hu; subst hu; rfl) ho_4 (by omega)) ?_
  rintro v_1 h_11 ⟨hS, hk⟩
  replace hS : St F_5 (Ow.own 3 1 encI (.slice (some ⟨b_4, 0, none⟩) 1 1) ([(gi l_1 n_1).1] : List Int) :: Ow.box b_3 29 #[.int .i64 ((gi l_1 n_1).1), .int .i64 ((gi l_1 n_1).2.1), .bool ((gi l_1 n_1).2.2)] :: Ow.own 3 1 encI v_1 (out_1 ++ ([(gi l_1 n_1).1] : List Int)) :: Ow.own 29 3 e_api_Site vr_3 l_1 :: fr) h_11 := hS
  replace hK := hK.trans hk
  replace hL_l := hL_l.kp hk
  replace hF_1 := hF_1.kp hk
  replace hB_1 := hB_1.kp hk
  replace hB_2 := hB_2.kp hk
  replace hF_2 := hF_2.kp hk
  replace hF_3 := hF_3.kp hk
  refine oA (v_1) rfl rfl ?_
  refine HO.nil (blockQ_normal (thenQ_normal (?_)))
  refine HW.region ?_
  obtain ⟨ho_5, hM⟩ := hM
  refine oV (.int .i64 (n_1 + 1)) (q_addN _ rfl rfl rfl ho_5.1 ho_5.2) rfl ?_
  refine oM (.int .i64 (n_1 + 1)) rfl rfl ?_
  refine HO.nil (thenQ_normal (?_))
  replace hS : St F_5 (Ow.own 3 1 encI v_1 (out_1 ++ ([(gi l_1 n_1).1] : List Int)) :: Ow.own 29 3 e_api_Site vr_3 l_1 :: fr) h_11 := hS.perm2 [2, 3] 4 rfl rfl
  rw [hKe_1] at hM
  exact ⟨(out_1 ++ ([(gi l_1 n_1).1] : List Int), n_1 + 1), ⟨F_5, v_1, rfl, rfl, rfl, rfl, rfl, hK, hS, hL_l, hF_1, hB_1, hB_2, hF_2, hF_3, hM.1⟩, hM.2⟩
 ·
  replace hM := hM.2 (of_decide_eq_false c_1)
  refine HW.exit (thenQ_exit (thenQ_exit (blockQ_exit (thenQ_normal (?_)))))
  refine HW.seq ?_
  refine HW.region ?_
  refine oM (vout_1) rfl rfl ?_
  refine oA (vout_1) rfl rfl ?_
  refine HO.nil (thenQ_normal (?_))
  refine HW.ret (?_)
  refine ⟨.inr rfl, vout_1, res1 rfl (rt rfl), ?_⟩
  replace hS : St F_5 (Ow.own 3 1 encI vout_1 out_1 :: fr) h_7 := hS.perm2 [0] 2 rfl rfl
  exact ⟨F_5, out_1, vout_1, rfl, hK, hS, hL_l, hM⟩

def ref33_Order_j1 (l : List T_api_Site) (near_1 : List Int) (far_1 : List Int) (i_1 : Int) (K_1 : (List Int) → (List Int) → Int → Prop) (b_4 : Bool) : Prop :=
 (b_4 = true → ((0 : Int) ≤ i_1 ∧ i_1 < (l.length : Int)) ∧ (ref32_Add_W near_1 ((gi l i_1).1) (fun r_2 => (I64 (i_1 + 1)) ∧ (K_1 r_2 far_1 (i_1 + 1))))) ∧ (b_4 = false → ((0 : Int) ≤ i_1 ∧ i_1 < (l.length : Int)) ∧ ((((gi l i_1).2.2) = true → ref32_Add_W far_1 ((gi l i_1).1) (fun r_3 => (I64 (i_1 + 1)) ∧ (K_1 near_1 r_3 (i_1 + 1)))) ∧ (((gi l i_1).2.2) = false → (I64 (i_1 + 1)) ∧ (K_1 near_1 far_1 (i_1 + 1)))))
def ref33_Order_l1 (root : T_api_Site) (l : List T_api_Site) (Q : (List Int) → Prop) (K_1 : (List Int) → (List Int) → Int → Prop) (near_1 : List Int) (far_1 : List Int) (i_1 : Int) : Prop :=
 (i_1 < (l.length : Int) → ((0 : Int) ≤ i_1 ∧ i_1 < (l.length : Int)) ∧ ((((gi l i_1).2.2) = true → ref33_Order_j1 l near_1 far_1 i_1 K_1 (decide (((gi l i_1).2.1) = root.2.1))) ∧ (((gi l i_1).2.2) = false → ref33_Order_j1 l near_1 far_1 i_1 K_1 false))) ∧ (¬ (i_1 < (l.length : Int)) → ((near_1.length + far_1.length) * 8 ≤ 140737488355328) ∧ (Q (near_1 ++ far_1)))
def ref33_Order_W (root : T_api_Site) (l : List T_api_Site) (Q : (List Int) → Prop) : Prop :=
 loopW (fun (K_1 : (List Int × List Int × Int) → Prop) (s : List Int × List Int × Int) => ref33_Order_l1 root l Q (fun near_1 far_1 i_1 => K_1 (near_1, far_1, i_1)) s.1 s.2.1 s.2.2) ([], [], 0)
set_option maxHeartbeats 40000000 in
set_option maxRecDepth 100000 in
theorem ref33_Order_walk {F : Fz} {fr : List Ow} {h0 : Heap} (root : T_api_Site) (l : List T_api_Site) (vl : Value) (hS : St F (fr) h0) (hL_l : SliceF F h0 3 e_api_Site vl l) {Q : (List Int) → Prop} (hM : ref33_Order_W root l Q) :
  HC Try.prog 16 #[.agg #[.int .i64 root.1, .int .i64 root.2.1, .bool root.2.2], vl] h0 fun u h' => ∃ (F' : Fz) (r_1 : List Int) (vr_1 : Value), u = vr_1 ∧ Kp F h0 F' h' ∧ St F' (Ow.own 3 1 encI vr_1 r_1 :: fr) h' ∧ (SliceF F' h' 3 e_api_Site vl l) ∧ Q r_1 := by
 unfold ref33_Order_W at hM
 have hK := Kp.refl F h0
 refine HC.of_HW (n := 53) Try.func16 rfl rfl (Nat.le_of_ble_eq_true rfl) ?_
 refine HW.seq ?_
 refine HW.region ?_
 refine HO.eff (want_none) rfl (st_box (c := #[.int .i64 root.1, .int .i64 root.2.1, .bool root.2.2]) (k' := 3) hS rfl rfl) ?_
 rintro _ h_1 ⟨b_1, rfl, hS, hk⟩
 replace hK := hK.trans hk
 replace hL_l := hL_l.kp hk
 refine oA (.slice none 0 0) rfl rfl ?_
 refine HO.nil (thenQ_normal (?_))
 refine HW.seq ?_
 refine HW.region ?_
 refine HO.eff (want_none) rfl (st_litEmpty (α := Int) encI hS tl_31) ?_
 rintro _ h_2 ⟨b_2, rfl, hS, hk⟩
 replace hK := hK.trans hk
 replace hL_l := hL_l.kp hk
 refine HO.eff (want_none) rfl (st_litEmpty (α := Int) encI hS tl_31) ?_
 rintro _ h_3 ⟨b_3, rfl, hS, hk⟩
 replace hK := hK.trans hk
 replace hL_l := hL_l.kp hk
 refine oA (.slice (some ⟨b_2, 0, none⟩) 0 0) rfl rfl ?_
 refine oA (.slice (some ⟨b_3, 0, none⟩) 0 0) rfl rfl ?_
 refine HO.nil (thenQ_normal (?_))
 refine HW.seq ?_
 refine HW.seq ?_
 refine HW.region ?_
 refine oA (.int .i64 0) rfl rfl ?_
 refine HO.nil (thenQ_normal (?_))
 refine HW.block ?_
 obtain ⟨I_1, m_1, hI_1, hR_1⟩ := hM
 replace hS : St F (Ow.box b_1 29 #[.int .i64 root.1, .int .i64 root.2.1, .bool root.2.2] :: Ow.own 3 1 encI (.slice (some ⟨b_2, 0, none⟩) 0 0) ([] : List Int) :: Ow.own 3 1 encI (.slice (some ⟨b_3, 0, none⟩) 0 0) ([] : List Int) :: fr) h_3 := hS.perm2 [2, 1, 0] 3 rfl rfl
 refine HW.loop (S := List Int × List Int × Int) (fun s f h => match s with | (near_1, far_1, i_1) => ∃ (F' : Fz) (vnear_1 : Value) (vfar_1 : Value), f 1 = vl ∧ f 2 = .pointer (some ⟨b_1, 0, none⟩) ∧ f 4 = .slice none 0 0 ∧ f 5 = vnear_1 ∧ f 6 = vfar_1 ∧ f 7 = .int .i64 i_1 ∧ Kp F h0 F' h ∧ St F' (Ow.box b_1 29 #[.int .i64 root.1, .int .i64 root.2.1, .bool root.2.2] :: Ow.own 3 1 encI vnear_1 near_1 :: Ow.own 3 1 encI vfar_1 far_1 :: fr) h ∧ (SliceF F' h 3 e_api_Site vl l) ∧ I_1 (near_1, far_1, i_1)) m_1 ([], [], 0) ⟨F, .slice (some ⟨b_2, 0, none⟩) 0 0, .slice (some ⟨b_3, 0, none⟩) 0 0, rfl, rfl, rfl, rfl, rfl, rfl, hK, hS, hL_l, hI_1⟩ ?_
 rintro ⟨near_1, far_1, i_1⟩ f_1 h_4 ⟨F_1, vnear_1, vfar_1, e1, e2, e4, e5, e6, e7, hK, hS, hL_l, hI0⟩
 obtain ⟨K_1, hKe_1⟩ : ∃ K : (List Int) → (List Int) → Int → Prop, K = fun near_1' far_1' i_1' => I_1 (near_1', far_1', i_1') ∧ m_1 (near_1', far_1', i_1') < m_1 (near_1, far_1, i_1) := ⟨_, rfl⟩
 have hM : ref33_Order_l1 root l Q K_1 near_1 far_1 i_1 := by rw [hKe_1]; exact hR_1 (near_1, far_1, i_1) hI0
 unfold ref33_Order_l1 at hM
 refine HW.fr [(1, vl), (2, .pointer (some ⟨b_1, 0, none⟩)), (4, .slice none 0 0), (5, vnear_1), (6, vfar_1), (7, .int .i64 i_1)] ⟨e1, e2, e4, e5, e6, e7, trivial⟩ ?_
 refine HW.seq ?_
 refine HW.seq ?_
 refine HW.region ?_
 refine oM (.int .i64 i_1) rfl rfl ?_
 refine oM (vl) rfl rfl ?_
 refine oV (.int .i64 (l.length : Int)) (q_len ts_30 (shp hL_l.is) rfl rfl) rfl ?_
 refine oV (.bool (decide (i_1 < (l.length : Int)))) (q_lss rfl rfl) rfl ?_
 refine HO.nil (thenQ_normal (?_))
 refine HW.cond (decide (i_1 < (l.length : Int))) rfl (fun c_1 => ?_) (fun c_1 => ?_)
 ·
  replace hM := hM.1 (of_decide_eq_true c_1)
  refine HW.skip (thenQ_normal (?_))
  refine HW.seq ?_
  refine HW.block ?_
  refine HW.seq_mid (fun f h => ∃ (F' : Fz) (b_4 : Bool), f 1 = vl ∧ f 2 = .pointer (some ⟨b_1, 0, none⟩) ∧ f 4 = .slice none 0 0 ∧ f 5 = vnear_1 ∧ f 6 = vfar_1 ∧ f 7 = .int .i64 i_1 ∧ f 30 = .bool b_4 ∧ Kp F h0 F' h ∧ St F' (Ow.box b_1 29 #[.int .i64 root.1, .int .i64 root.2.1, .bool root.2.2] :: Ow.own 3 1 encI vnear_1 near_1 :: Ow.own 3 1 encI vfar_1 far_1 :: fr) h ∧ (SliceF F' h 3 e_api_Site vl l) ∧ ref33_Order_j1 l near_1 far_1 i_1 K_1 b_4) ?_ ?_
  ·
   refine HW.regionA 15 mixed (fun h => (SliceIs h 3 e_api_Site vl l) ∧ (Blk h b_1 (.cells #[.int .i64 root.1, .int .i64 root.2.1, .bool root.2.2] 29 (0, 0))) ∧ (OwnIs h 0 3 1 encI vnear_1 near_1) ∧ (OwnIs h 0 3 1 encI vfar_1 far_1)) [] (by kernel_rfl) ?_
   refine HA.val (k := 0) (v := vl) rfl rfl (by kernel_rfl) (by kernel_rfl) (want_none) rfl (fun _ ⟨hL_l, c305, c306, c307⟩ => q_move rfl) ?_
   refine HA.val (k := 1) (v := .int .i64 i_1) rfl rfl (by kernel_rfl) (by kernel_rfl) (want_none) rfl (fun _ ⟨hL_l, c305, c306, c307⟩ => q_move rfl) ?_
   obtain ⟨ho_1, hM⟩ := hM
   refine HA.val (k := 2) (v := elemPtr 3 vl (i_1).toNat) rfl rfl (by kernel_rfl) (by kernel_rfl) (want_none) rfl (fun _ ⟨hL_l, c305, c306, c307⟩ => q_idx ts_30 hL_l rfl rfl ho_1) ?_
   refine HA.val (k := 3) (v := fieldPtr 3 vl (i_1).toNat 2) rfl rfl (by kernel_rfl) (by kernel_rfl) (want_none) rfl (fun _ ⟨hL_l, c305, c306, c307⟩ => q_fldElem fa_29_2 hL_l rfl ho_1) ?_
   refine HA.val (k := 4) (v := .bool ((gi l i_1).2.2)) rfl rfl (by kernel_rfl) (by kernel_rfl) (want_none) rfl (fun _ ⟨hL_l, c305, c306, c307⟩ => q_ldField to_4 hL_l rfl ho_1 (by decide) rfl) ?_
   refine HA.val (k := 5) (v := .bool ((gi l i_1).2.2)) rfl rfl (by kernel_rfl) (by kernel_rfl) (want_none) rfl (fun _ ⟨hL_l, c305, c306, c307⟩ => q_move rfl) ?_
   rcases Bool.eq_false_or_eq_true ((gi l i_1).2.2) with c_2 | c_2
   ·
    replace hM := hM.1 c_2
    refine HA.val (k := 6) (v := vl) rfl rfl (by kernel_rfl) (by kernel_rfl) (want_by rfl rfl c_2) rfl (fun _ ⟨hL_l, c305, c306, c307⟩ => q_move rfl) ?_
    refine HA.val (k := 7) (v := .int .i64 i_1) rfl rfl (by kernel_rfl) (by kernel_rfl) (want_by rfl rfl c_2) rfl (fun _ ⟨hL_l, c305, c306, c307⟩ => q_move rfl) ?_
    refine HA.val (k := 8) (v := elemPtr 3 vl (i_1).toNat) rfl rfl (by kernel_rfl) (by kernel_rfl) (want_by rfl rfl c_2) rfl (fun _ ⟨hL_l, c305, c306, c307⟩ => q_idx ts_30 hL_l rfl rfl ho_1) ?_
    refine HA.val (k := 9) (v := fieldPtr 3 vl (i_1).toNat 1) rfl rfl (by kernel_rfl) (by kernel_rfl) (want_by rfl rfl c_2) rfl (fun _ ⟨hL_l, c305, c306, c307⟩ => q_fldElem fa_29_1 hL_l rfl ho_1) ?_
    refine HA.val (k := 10) (v := .int .i64 ((gi l i_1).2.1)) rfl rfl (by kernel_rfl) (by kernel_rfl) (want_by rfl rfl c_2) rfl (fun _ ⟨hL_l, c305, c306, c307⟩ => q_ldField to_3 hL_l rfl ho_1 (by decide) rfl) ?_
    refine HA.val (k := 11) (v := .pointer (some ⟨b_1, 1, none⟩)) rfl rfl (by kernel_rfl) (by kernel_rfl) (want_by rfl rfl c_2) rfl (fun _ ⟨hL_l, c305, c306, c307⟩ => q_fieldAddr fa_29_1 rfl rfl) ?_
    refine HA.val (k := 12) (v := .int .i64 root.2.1) rfl rfl (by kernel_rfl) (by kernel_rfl) (want_by rfl rfl c_2) rfl (fun _ ⟨hL_l, c305, c306, c307⟩ => q_load to_3 rfl (Blk.cell c305 rfl)) ?_
    refine HA.val (k := 13) (v := .bool (decide (((gi l i_1).2.1) = root.2.1))) rfl rfl (by kernel_rfl) (by kernel_rfl) (want_by rfl rfl c_2) rfl (fun _ ⟨hL_l, c305, c306, c307⟩ => q_eql rfl rfl) ?_
    refine HA.val (k := 14) (v := .bool (decide (((gi l i_1).2.1) = root.2.1))) rfl rfl (by kernel_rfl) (by kernel_rfl) (want_none) rfl (fun _ ⟨hL_l, c305, c306, c307⟩ => q_pickK true rfl c_2 rfl) ?_
    refine HA.nil ⟨⟨hL_l.is, (hS.box 0 rfl), (hS.own 1 rfl), (hS.own 2 rfl)⟩, (Go.Wk.at_nil _ _)⟩ (by kernel_rfl) (thenQ_normal (?_))
    exact ⟨F_1, decide (((gi l i_1).2.1) = root.2.1), rfl, rfl, rfl, rfl, rfl, rfl, rfl, hK, hS, hL_l, hM⟩
   ·
    replace hM := hM.2 c_2
    refine HA.past (k := 6) rfl rfl (by kernel_rfl) (by kernel_rfl) (past_by rfl rfl c_2) rfl ?_
    refine HA.past (k := 7) rfl rfl (by kernel_rfl) (by kernel_rfl) (past_by rfl rfl c_2) rfl ?_
    refine HA.past (k := 8) rfl rfl (by kernel_rfl) (by kernel_rfl) (past_by rfl rfl c_2) rfl ?_
    refine HA.past (k := 9) rfl rfl (by kernel_rfl) (by kernel_rfl) (past_by rfl rfl c_2) rfl ?_
    refine HA.past (k := 10) rfl rfl (by kernel_rfl) (by kernel_rfl) (past_by rfl rfl c_2) rfl ?_
    refine HA.past (k := 11) rfl rfl (by kernel_rfl) (by kernel_rfl) (past_by rfl rfl c_2) rfl ?_
    refine HA.past (k := 12) rfl rfl (by kernel_rfl) (by kernel_rfl) (past_by rfl rfl c_2) rfl ?_
    refine HA.past (k := 13) rfl rfl (by kernel_rfl) (by kernel_rfl) (past_by rfl rfl c_2) rfl ?_
    refine HA.val (k := 14) (v := .bool false) rfl rfl (by kernel_rfl) (by kernel_rfl) (want_none) rfl (fun _ ⟨hL_l, c305, c306, c307⟩ => q_pickK false rfl c_2 rfl) ?_
    refine HA.nil ⟨⟨hL_l.is, (hS.box 0 rfl), (hS.own 1 rfl), (hS.own 2 rfl)⟩, (Go.Wk.at_nil _ _)⟩ (by kernel_rfl) (thenQ_normal (?_))
    exact ⟨F_1, false, rfl, rfl, rfl, rfl, rfl, rfl, rfl, hK, hS, hL_l, hM⟩
  ·
   rintro f_2 h_5 ⟨F_2, b_4, e1, e2, e4, e5, e6, e7, e30, hK, hS, hL_l, hM⟩
   unfold ref33_Order_j1 at hM
   refine HW.fr [(1, vl), (2, .pointer (some ⟨b_1, 0, none⟩)), (4, .slice none 0 0), (5, vnear_1), (6, vfar_1), (7, .int .i64 i_1), (30, .bool b_4)] ⟨e1, e2, e4, e5, e6, e7, e30, trivial⟩ ?_
   refine HW.cond b_4 rfl (fun c_3 => ?_) (fun c_3 => ?_)
   ·
    replace hM := hM.1 c_3
    refine HW.region ?_
    refine oM (vnear_1) rfl rfl ?_
    refine oM (vl) rfl rfl ?_
    refine oM (.int .i64 i_1) rfl rfl ?_
    obtain ⟨ho_2, hM⟩ := hM
    refine oV (elemPtr 3 vl (i_1).toNat) (q_idx ts_30 hL_l.is rfl rfl ho_2) rfl ?_
    refine oV (fieldPtr 3 vl (i_1).toNat 0) (q_fldElem fa_29_0 hL_l.is rfl ho_2) rfl ?_
    refine oV (.int .i64 ((gi l i_1).1)) (q_ldField to_3 hL_l.is rfl ho_2 (by decide) rfl) rfl ?_
    replace hS : St F_2 (Ow.own 3 1 encI vnear_1 near_1 :: Ow.box b_1 29 #[.int .i64 root.1, .int .i64 root.2.1, .bool root.2.2] :: Ow.own 3 1 encI vfar_1 far_1 :: fr) h_5 := hS.perm2 [1, 0, 2] 3 rfl rfl
    refine HO.call (want_none) rfl (ec en_13 rfl rfl) (ref32_Add_walk (fr := (Ow.box b_1 29 #[.int .i64 root.1, .int .i64 root.2.1, .bool root.2.2] :: Ow.own 3 1 encI vfar_1 far_1 :: fr)) near_1 ((gi l i_1).1) vnear_1 hS hM) ?_
    rintro vr_2 h_6 ⟨F_3, r_2, _, rfl, hk, hS, hM⟩
    replace hK := hK.trans hk
    replace hL_l := hL_l.kp hk
    refine oA (vr_2) rfl rfl ?_
    refine HO.nil (blockQ_normal (thenQ_normal (?_)))
    refine HW.region ?_
    refine oM (.int .i64 i_1) rfl rfl ?_
    obtain ⟨ho_3, hM⟩ := hM
    refine oV (.int .i64 (i_1 + 1)) (q_addN _ rfl rfl rfl ho_3.1 ho_3.2) rfl ?_
    refine oA (.int .i64 (i_1 + 1)) rfl rfl ?_
    refine HO.nil (thenQ_normal (?_))
    replace hS : St F_3 (Ow.box b_1 29 #[.int .i64 root.1, .int .i64 root.2.1, .bool root.2.2] :: Ow.own 3 1 encI vr_2 r_2 :: Ow.own 3 1 encI vfar_1 far_1 :: fr) h_6 := hS.perm2 [1, 0, 2] 3 rfl rfl
    rw [hKe_1] at hM
    exact ⟨(r_2, far_1, i_1 + 1), ⟨F_3, vr_2, vfar_1, rfl, rfl, rfl, rfl, rfl, rfl, hK, hS, hL_l, hM.1⟩, hM.2⟩
   ·
    replace hM := hM.2 c_3
    refine HW.seq ?_
    refine HW.region ?_
    refine oM (vl) rfl rfl ?_
    refine oM (.int .i64 i_1) rfl rfl ?_
    obtain ⟨ho_4, hM⟩ := hM
    refine oV (elemPtr 3 vl (i_1).toNat) (q_idx ts_30 hL_l.is rfl rfl ho_4) rfl ?_
    refine oV (fieldPtr 3 vl (i_1).toNat 2) (q_fldElem fa_29_2 hL_l.is rfl ho_4) rfl ?_
    refine oV (.bool ((gi l i_1).2.2)) (q_ldField to_4 hL_l.is rfl ho_4 (by decide) rfl) rfl ?_
    refine HO.nil (thenQ_normal (?_))
    refine HW.cond ((gi l i_1).2.2) rfl (fun c_4 => ?_) (fun c_4 => ?_)
    ·
     replace hM := hM.1 c_4
     refine HW.region ?_
     refine oM (vfar_1) rfl rfl ?_
     refine oM (vl) rfl rfl ?_
     refine oM (.int .i64 i_1) rfl rfl ?_
     refine oV (elemPtr 3 vl (i_1).toNat) (q_idx ts_30 hL_l.is rfl rfl ho_4) rfl ?_
     refine oV (fieldPtr 3 vl (i_1).toNat 0) (q_fldElem fa_29_0 hL_l.is rfl ho_4) rfl ?_
     refine oV (.int .i64 ((gi l i_1).1)) (q_ldField to_3 hL_l.is rfl ho_4 (by decide) rfl) rfl ?_
     replace hS : St F_2 (Ow.own 3 1 encI vfar_1 far_1 :: Ow.box b_1 29 #[.int .i64 root.1, .int .i64 root.2.1, .bool root.2.2] :: Ow.own 3 1 encI vnear_1 near_1 :: fr) h_5 := hS.perm2 [2, 0, 1] 3 rfl rfl
     refine HO.call (want_none) rfl (ec en_13 rfl rfl) (ref32_Add_walk (fr := (Ow.box b_1 29 #[.int .i64 root.1, .int .i64 root.2.1, .bool root.2.2] :: Ow.own 3 1 encI vnear_1 near_1 :: fr)) far_1 ((gi l i_1).1) vfar_1 hS hM) ?_
     rintro vr_3 h_7 ⟨F_4, r_3, _, rfl, hk, hS, hM⟩
     replace hK := hK.trans hk
     replace hL_l := hL_l.kp hk
     refine oA (vr_3) rfl rfl ?_
     refine HO.nil (blockQ_normal (thenQ_normal (?_)))
     refine HW.region ?_
     refine oM (.int .i64 i_1) rfl rfl ?_
     obtain ⟨ho_5, hM⟩ := hM
     refine oV (.int .i64 (i_1 + 1)) (q_addN _ rfl rfl rfl ho_5.1 ho_5.2) rfl ?_
     refine oA (.int .i64 (i_1 + 1)) rfl rfl ?_
     refine HO.nil (thenQ_normal (?_))
     replace hS : St F_4 (Ow.box b_1 29 #[.int .i64 root.1, .int .i64 root.2.1, .bool root.2.2] :: Ow.own 3 1 encI vnear_1 near_1 :: Ow.own 3 1 encI vr_3 r_3 :: fr) h_7 := hS.perm2 [1, 2, 0] 3 rfl rfl
     rw [hKe_1] at hM
     exact ⟨(near_1, r_3, i_1 + 1), ⟨F_4, vnear_1, vr_3, rfl, rfl, rfl, rfl, rfl, rfl, hK, hS, hL_l, hM.1⟩, hM.2⟩
    ·
     replace hM := hM.2 c_4
     refine HW.skip (blockQ_normal (thenQ_normal (?_)))
     refine HW.region ?_
     refine oM (.int .i64 i_1) rfl rfl ?_
     obtain ⟨ho_6, hM⟩ := hM
     refine oV (.int .i64 (i_1 + 1)) (q_addN _ rfl rfl rfl ho_6.1 ho_6.2) rfl ?_
     refine oA (.int .i64 (i_1 + 1)) rfl rfl ?_
     refine HO.nil (thenQ_normal (?_))
     rw [hKe_1] at hM
     exact ⟨(near_1, far_1, i_1 + 1), ⟨F_2, vnear_1, vfar_1, rfl, rfl, rfl, rfl, rfl, rfl, hK, hS, hL_l, hM.1⟩, hM.2⟩
 ·
  replace hM := hM.2 (of_decide_eq_false c_1)
  refine HW.exit (thenQ_exit (thenQ_exit (blockQ_exit (thenQ_normal (?_)))))
  refine HW.seq ?_
  refine HW.region ?_
  refine oM (vnear_1) rfl rfl ?_
  refine oM (vfar_1) rfl rfl ?_
  obtain ⟨ho_7, hM⟩ := hM
  refine HO.eff (want_none) rfl (st_append te_31 hS (i := 1) rfl (hS.own 2 rfl).slice rfl rfl rfl (by intro a _ u hu; simp [encI, encI, encN, encB, encT] at hu; subst hu; rfl) ho_7 (by omega)) ?_
  rintro v_1 h_8 ⟨hS, hk⟩
  replace hS : St F_1 (Ow.box b_1 29 #[.int .i64 root.1, .int .i64 root.2.1, .bool root.2.2] :: Ow.own 3 1 encI v_1 (near_1 ++ far_1) :: Ow.own 3 1 encI vfar_1 far_1 :: fr) h_8 := hS
  replace hK := hK.trans hk
  replace hL_l := hL_l.kp hk
  refine oA (v_1) rfl rfl ?_
  refine HO.nil (thenQ_normal (?_))
  refine HW.ret (?_)
  refine ⟨.inr rfl, v_1, res1 rfl (rt rfl), ?_⟩
  replace hS : St F_1 (Ow.own 3 1 encI v_1 (near_1 ++ far_1) :: fr) h_8 := hS.perm2 [1] 3 rfl rfl
  exact ⟨F_1, near_1 ++ far_1, v_1, rfl, hK, hS, hL_l, hM⟩

def ref23_Same_l1 (a : List Int) (b : List Int) (Q : Bool → Prop) (K_1 : Int → Prop) (i_1 : Int) : Prop :=
 (i_1 < (a.length : Int) → ((0 : Int) ≤ i_1 ∧ i_1 < (a.length : Int)) ∧ (((0 : Int) ≤ i_1 ∧ i_1 < (b.length : Int)) ∧ ((¬ ((gi a i_1) = (gi b i_1)) → Q false) ∧ ((gi a i_1) = (gi b i_1) → (I64 (i_1 + 1)) ∧ (K_1 (i_1 + 1)))))) ∧ (¬ (i_1 < (a.length : Int)) → Q true)
def ref23_Same_W (a : List Int) (b : List Int) (Q : Bool → Prop) : Prop :=
 (¬ ((a.length : Int) = (b.length : Int)) → Q false) ∧ ((a.length : Int) = (b.length : Int) → loopW (fun (K_1 : Int → Prop) (s : Int) => ref23_Same_l1 a b Q K_1 s) 0)
set_option maxHeartbeats 40000000 in
set_option maxRecDepth 100000 in
theorem ref23_Same_walk {F : Fz} {fr : List Ow} {h0 : Heap} (a : List Int) (b : List Int) (va : Value) (vb : Value) (hS : St F (fr) h0) (hL_a : SliceF F h0 1 encI va a) (hL_b : SliceF F h0 1 encI vb b) {Q : Bool → Prop} (hM : ref23_Same_W a b Q) :
  HC Try.prog 14 #[va, vb] h0 fun u h' => ∃ (F' : Fz) (r_1 : Bool), u = .bool r_1 ∧ Kp F h0 F' h' ∧ St F' (fr) h' ∧ (SliceF F' h' 1 encI va a) ∧ (SliceF F' h' 1 encI vb b) ∧ Q r_1 := by
 unfold ref23_Same_W at hM
 have hK := Kp.refl F h0
 refine HC.of_HW (n := 26) Try.func14 rfl rfl (Nat.le_of_ble_eq_true rfl) ?_
 refine HW.seq ?_
 refine HW.region ?_
 refine oA (.bool false) rfl rfl ?_
 refine HO.nil (thenQ_normal (?_))
 refine HW.seq ?_
 refine HW.seq ?_
 refine HW.region ?_
 refine oM (va) rfl rfl ?_
 refine oV (.int .i64 (a.length : Int)) (q_len ts_31 (shp hL_a.is) rfl rfl) rfl ?_
 refine oM (vb) rfl rfl ?_
 refine oV (.int .i64 (b.length : Int)) (q_len ts_31 (shp hL_b.is) rfl rfl) rfl ?_
 refine oV (.bool (!decide ((a.length : Int) = (b.length : Int)))) (q_neq rfl rfl) rfl ?_
 refine HO.nil (thenQ_normal (?_))
 refine HW.cond (!decide ((a.length : Int) = (b.length : Int))) rfl (fun c_1 => ?_) (fun c_1 => ?_)
 ·
  replace hM := hM.1 (nd_true c_1)
  refine HW.seq ?_
  refine HW.region ?_
  refine oA (.bool false) rfl rfl ?_
  refine HO.nil (thenQ_normal (?_))
  refine HW.ret (thenQ_ret (?_))
  refine ⟨.inr rfl, .bool false, res1 rfl (rt rfl), ?_⟩
  exact ⟨F, false, rfl, hK, hS, hL_a, hL_b, hM⟩
 ·
  replace hM := hM.2 (nd_false c_1)
  refine HW.skip (thenQ_normal (?_))
  refine HW.seq ?_
  refine HW.seq ?_
  refine HW.region ?_
  refine oA (.int .i64 0) rfl rfl ?_
  refine HO.nil (thenQ_normal (?_))
  refine HW.block ?_
  obtain ⟨I_1, m_1, hI_1, hR_1⟩ := hM
  refine HW.loop (S := Int) (fun i_1 f h => ∃ (F' : Fz), f 0 = va ∧ f 1 = vb ∧ f 4 = .bool false ∧ f 5 = .int .i64 i_1 ∧ Kp F h0 F' h ∧ St F' (fr) h ∧ (SliceF F' h 1 encI va a) ∧ (SliceF F' h 1 encI vb b) ∧ I_1 i_1) m_1 0 ⟨F, rfl, rfl, rfl, rfl, hK, hS, hL_a, hL_b, hI_1⟩ ?_
  rintro i_1 f_1 h_1 ⟨F_1, e0, e1, e4, e5, hK, hS, hL_a, hL_b, hI0⟩
  obtain ⟨K_1, hKe_1⟩ : ∃ K : Int → Prop, K = fun i_1' => I_1 i_1' ∧ m_1 i_1' < m_1 i_1 := ⟨_, rfl⟩
  have hM : ref23_Same_l1 a b Q K_1 i_1 := by rw [hKe_1]; exact hR_1 i_1 hI0
  unfold ref23_Same_l1 at hM
  refine HW.fr [(0, va), (1, vb), (4, .bool false), (5, .int .i64 i_1)] ⟨e0, e1, e4, e5, trivial⟩ ?_
  refine HW.seq ?_
  refine HW.seq ?_
  refine HW.region ?_
  refine oM (.int .i64 i_1) rfl rfl ?_
  refine oM (va) rfl rfl ?_
  refine oV (.int .i64 (a.length : Int)) (q_len ts_31 (shp hL_a.is) rfl rfl) rfl ?_
  refine oV (.bool (decide (i_1 < (a.length : Int)))) (q_lss rfl rfl) rfl ?_
  refine HO.nil (thenQ_normal (?_))
  refine HW.cond (decide (i_1 < (a.length : Int))) rfl (fun c_2 => ?_) (fun c_2 => ?_)
  ·
   replace hM := hM.1 (of_decide_eq_true c_2)
   refine HW.skip (thenQ_normal (?_))
   refine HW.seq ?_
   refine HW.block ?_
   refine HW.seq ?_
   refine HW.regionA 9 mixed (fun h => (SliceIs h 1 encI va a) ∧ (SliceIs h 1 encI vb b)) [] (by kernel_rfl) ?_
   refine HA.val (k := 0) (v := va) rfl rfl (by kernel_rfl) (by kernel_rfl) (want_none) rfl (fun _ ⟨hL_a, hL_b⟩ => q_move rfl) ?_
   refine HA.val (k := 1) (v := .int .i64 i_1) rfl rfl (by kernel_rfl) (by kernel_rfl) (want_none) rfl (fun _ ⟨hL_a, hL_b⟩ => q_move rfl) ?_
   obtain ⟨ho_1, hM⟩ := hM
   refine HA.val (k := 2) (v := elemPtr 1 va (i_1).toNat) rfl rfl (by kernel_rfl) (by kernel_rfl) (want_none) rfl (fun _ ⟨hL_a, hL_b⟩ => q_idx ts_31 hL_a rfl rfl ho_1) ?_
   refine HA.val (k := 3) (v := .int .i64 (gi a i_1)) rfl rfl (by kernel_rfl) (by kernel_rfl) (want_none) rfl (fun _ ⟨hL_a, hL_b⟩ => q_ldElem to_3 hL_a rfl ho_1 rfl) ?_
   refine HA.val (k := 4) (v := vb) rfl rfl (by kernel_rfl) (by kernel_rfl) (want_none) rfl (fun _ ⟨hL_a, hL_b⟩ => q_move rfl) ?_
   refine HA.val (k := 5) (v := .int .i64 i_1) rfl rfl (by kernel_rfl) (by kernel_rfl) (want_none) rfl (fun _ ⟨hL_a, hL_b⟩ => q_move rfl) ?_
   obtain ⟨ho_2, hM⟩ := hM
   refine HA.val (k := 6) (v := elemPtr 1 vb (i_1).toNat) rfl rfl (by kernel_rfl) (by kernel_rfl) (want_none) rfl (fun _ ⟨hL_a, hL_b⟩ => q_idx ts_31 hL_b rfl rfl ho_2) ?_
   refine HA.val (k := 7) (v := .int .i64 (gi b i_1)) rfl rfl (by kernel_rfl) (by kernel_rfl) (want_none) rfl (fun _ ⟨hL_a, hL_b⟩ => q_ldElem to_3 hL_b rfl ho_2 rfl) ?_
   refine HA.val (k := 8) (v := .bool (!decide ((gi a i_1) = (gi b i_1)))) rfl rfl (by kernel_rfl) (by kernel_rfl) (want_none) rfl (fun _ ⟨hL_a, hL_b⟩ => q_neq rfl rfl) ?_
   refine HA.nil ⟨⟨hL_a.is, hL_b.is⟩, (Go.Wk.at_nil _ _)⟩ (by kernel_rfl) (thenQ_normal (?_))
   refine HW.cond (!decide ((gi a i_1) = (gi b i_1))) rfl (fun c_3 => ?_) (fun c_3 => ?_)
   ·
    replace hM := hM.1 (nd_true c_3)
    refine HW.seq ?_
    refine HW.region ?_
    refine oA (.bool false) rfl rfl ?_
    refine HO.nil (thenQ_normal (?_))
    refine HW.ret (blockQ_ret (thenQ_ret (thenQ_ret (blockQ_ret (thenQ_ret (?_))))))
    refine ⟨.inr rfl, .bool false, res1 rfl (rt rfl), ?_⟩
    exact ⟨F_1, false, rfl, hK, hS, hL_a, hL_b, hM⟩
   ·
    replace hM := hM.2 (nd_false c_3)
    refine HW.skip (blockQ_normal (thenQ_normal (?_)))
    refine HW.region ?_
    refine oM (.int .i64 i_1) rfl rfl ?_
    obtain ⟨ho_3, hM⟩ := hM
    refine oV (.int .i64 (i_1 + 1)) (q_addN _ rfl rfl rfl ho_3.1 ho_3.2) rfl ?_
    refine oA (.int .i64 (i_1 + 1)) rfl rfl ?_
    refine HO.nil (thenQ_normal (?_))
    rw [hKe_1] at hM
    exact ⟨i_1 + 1, ⟨F_1, rfl, rfl, rfl, rfl, hK, hS, hL_a, hL_b, hM.1⟩, hM.2⟩
  ·
   replace hM := hM.2 (of_decide_eq_false c_2)
   refine HW.exit (thenQ_exit (thenQ_exit (blockQ_exit (thenQ_normal (?_)))))
   refine HW.seq ?_
   refine HW.region ?_
   refine oA (.bool true) rfl rfl ?_
   refine HO.nil (thenQ_normal (?_))
   refine HW.ret (?_)
   refine ⟨.inr rfl, .bool true, res1 rfl (rt rfl), ?_⟩
   exact ⟨F_1, true, rfl, hK, hS, hL_a, hL_b, hM⟩

def law33_PlanOrders_j1 (root : T_api_Site) (l : List T_api_Site) (Q : Bool → Prop) (x_1 : List T_api_Site) (seen_1 : List Int) (i_1 : Int) (K_1 : (List T_api_Site) → (List Int) → Int → Prop) (b_4 : Bool) : Prop :=
 (b_4 = true → ((0 : Int) ≤ i_1 ∧ i_1 < (l.length : Int)) ∧ (ref32_Has_W seen_1 ((gi l i_1).1) (fun r_2 => ((!r_2) = true → ((x_1.length + ([(gi l i_1)] : List T_api_Site).length) * 24 ≤ 140737488355328) ∧ (ref32_Add_W seen_1 ((gi l i_1).1) (fun r_3 => (I64 (i_1 + 1)) ∧ (K_1 (x_1 ++ ([(gi l i_1)] : List T_api_Site)) r_3 (i_1 + 1))))) ∧ ((!r_2) = false → (I64 (i_1 + 1)) ∧ (K_1 x_1 seen_1 (i_1 + 1)))))) ∧ (b_4 = false → ((([] : List T_api_Site).length + x_1.length) * 24 ≤ 140737488355328) ∧ (plan_Order_W root (([] : List T_api_Site) ++ x_1) (fun r_4 => ref33_Order_W root x_1 (fun r_5 => ref23_Same_W r_4 r_5 (fun r_6 => (r_6 = true → law33_lives_W  (fun r_7 => Q r_7)) ∧ (r_6 = false → Q false))))))
def law33_PlanOrders_l1 (root : T_api_Site) (l : List T_api_Site) (Q : Bool → Prop) (K_1 : (List T_api_Site) → (List Int) → Int → Prop) (x_1 : List T_api_Site) (seen_1 : List Int) (i_1 : Int) : Prop :=
 (i_1 < (l.length : Int) → law33_PlanOrders_j1 root l Q x_1 seen_1 i_1 K_1 (decide (i_1 < 12))) ∧ (¬ (i_1 < (l.length : Int)) → law33_PlanOrders_j1 root l Q x_1 seen_1 i_1 K_1 false)
def law33_PlanOrders_W (root : T_api_Site) (l : List T_api_Site) (Q : Bool → Prop) : Prop :=
 loopW (fun (K_1 : (List T_api_Site × List Int × Int) → Prop) (s : List T_api_Site × List Int × Int) => law33_PlanOrders_l1 root l Q (fun x_1 seen_1 i_1 => K_1 (x_1, seen_1, i_1)) s.1 s.2.1 s.2.2) ([], [], 0)
set_option maxHeartbeats 40000000 in
set_option maxRecDepth 100000 in
theorem law33_PlanOrders_walk {F : Fz} {fr : List Ow} {h0 : Heap} (root : T_api_Site) (l : List T_api_Site) (vl : Value) (hS : St F (fr) h0) (hL_l : SliceF F h0 3 e_api_Site vl l) (hD : DM.on = false) {Q : Bool → Prop} (hM : law33_PlanOrders_W root l Q) :
  HC Try.prog 4 #[.agg #[.int .i64 root.1, .int .i64 root.2.1, .bool root.2.2], vl] h0 fun u h' => ∃ (F' : Fz) (r_1 : Bool), u = .bool r_1 ∧ Kp F h0 F' h' ∧ St F' (fr) h' ∧ (SliceF F' h' 3 e_api_Site vl l) ∧ Q r_1 := by
 unfold law33_PlanOrders_W at hM
 have hK := Kp.refl F h0
 refine HC.of_HW (n := 54) Try.func4 rfl rfl (Nat.le_of_ble_eq_true rfl) ?_
 refine HW.seq ?_
 refine HW.region ?_
 refine HO.eff (want_none) rfl (st_box (c := #[.int .i64 root.1, .int .i64 root.2.1, .bool root.2.2]) (k' := 3) hS rfl rfl) ?_
 rintro _ h_1 ⟨b_1, rfl, hS, hk⟩
 replace hK := hK.trans hk
 replace hL_l := hL_l.kp hk
 refine oA (.bool false) rfl rfl ?_
 refine HO.nil (thenQ_normal (?_))
 refine HW.seq ?_
 refine HW.region ?_
 refine HO.eff (want_none) rfl (st_litEmpty (α := T_api_Site) e_api_Site hS tl_30) ?_
 rintro _ h_2 ⟨b_2, rfl, hS, hk⟩
 replace hK := hK.trans hk
 replace hL_l := hL_l.kp hk
 refine HO.eff (want_none) rfl (st_litEmpty (α := Int) encI hS tl_31) ?_
 rintro _ h_3 ⟨b_3, rfl, hS, hk⟩
 replace hK := hK.trans hk
 replace hL_l := hL_l.kp hk
 refine oA (.slice (some ⟨b_2, 0, none⟩) 0 0) rfl rfl ?_
 refine oA (.slice (some ⟨b_3, 0, none⟩) 0 0) rfl rfl ?_
 refine HO.nil (thenQ_normal (?_))
 refine HW.seq ?_
 refine HW.seq ?_
 refine HW.region ?_
 refine oA (.int .i64 0) rfl rfl ?_
 refine HO.nil (thenQ_normal (?_))
 refine HW.block ?_
 obtain ⟨I_1, m_1, hI_1, hR_1⟩ := hM
 replace hS : St F (Ow.box b_1 29 #[.int .i64 root.1, .int .i64 root.2.1, .bool root.2.2] :: Ow.own 29 3 e_api_Site (.slice (some ⟨b_2, 0, none⟩) 0 0) ([] : List T_api_Site) :: Ow.own 3 1 encI (.slice (some ⟨b_3, 0, none⟩) 0 0) ([] : List Int) :: fr) h_3 := hS.perm2 [2, 1, 0] 3 rfl rfl
 refine HW.loop (S := List T_api_Site × List Int × Int) (fun s f h => match s with | (x_1, seen_1, i_1) => ∃ (F' : Fz) (vx_1 : Value) (vseen_1 : Value), f 1 = vl ∧ f 2 = .pointer (some ⟨b_1, 0, none⟩) ∧ f 4 = .bool false ∧ f 5 = vx_1 ∧ f 6 = vseen_1 ∧ f 7 = .int .i64 i_1 ∧ Kp F h0 F' h ∧ St F' (Ow.box b_1 29 #[.int .i64 root.1, .int .i64 root.2.1, .bool root.2.2] :: Ow.own 29 3 e_api_Site vx_1 x_1 :: Ow.own 3 1 encI vseen_1 seen_1 :: fr) h ∧ (SliceF F' h 3 e_api_Site vl l) ∧ I_1 (x_1, seen_1, i_1)) m_1 ([], [], 0) ⟨F, .slice (some ⟨b_2, 0, none⟩) 0 0, .slice (some ⟨b_3, 0, none⟩) 0 0, rfl, rfl, rfl, rfl, rfl, rfl, hK, hS, hL_l, hI_1⟩ ?_
 rintro ⟨x_1, seen_1, i_1⟩ f_1 h_4 ⟨F_1, vx_1, vseen_1, e1, e2, e4, e5, e6, e7, hK, hS, hL_l, hI0⟩
 obtain ⟨K_1, hKe_1⟩ : ∃ K : (List T_api_Site) → (List Int) → Int → Prop, K = fun x_1' seen_1' i_1' => I_1 (x_1', seen_1', i_1') ∧ m_1 (x_1', seen_1', i_1') < m_1 (x_1, seen_1, i_1) := ⟨_, rfl⟩
 have hM : law33_PlanOrders_l1 root l Q K_1 x_1 seen_1 i_1 := by rw [hKe_1]; exact hR_1 (x_1, seen_1, i_1) hI0
 unfold law33_PlanOrders_l1 at hM
 refine HW.fr [(1, vl), (2, .pointer (some ⟨b_1, 0, none⟩)), (4, .bool false), (5, vx_1), (6, vseen_1), (7, .int .i64 i_1)] ⟨e1, e2, e4, e5, e6, e7, trivial⟩ ?_
 refine HW.seq ?_
 refine HW.seq_mid (fun f h => ∃ (F' : Fz) (b_4 : Bool), f 1 = vl ∧ f 2 = .pointer (some ⟨b_1, 0, none⟩) ∧ f 4 = .bool false ∧ f 5 = vx_1 ∧ f 6 = vseen_1 ∧ f 7 = .int .i64 i_1 ∧ f 17 = .bool b_4 ∧ Kp F h0 F' h ∧ St F' (Ow.box b_1 29 #[.int .i64 root.1, .int .i64 root.2.1, .bool root.2.2] :: Ow.own 29 3 e_api_Site vx_1 x_1 :: Ow.own 3 1 encI vseen_1 seen_1 :: fr) h ∧ (SliceF F' h 3 e_api_Site vl l) ∧ law33_PlanOrders_j1 root l Q x_1 seen_1 i_1 K_1 b_4) ?_ ?_
 ·
  refine HW.region ?_
  refine oM (.int .i64 i_1) rfl rfl ?_
  refine oM (vl) rfl rfl ?_
  refine oV (.int .i64 (l.length : Int)) (q_len ts_30 (shp hL_l.is) rfl rfl) rfl ?_
  refine oV (.bool (decide (i_1 < (l.length : Int)))) (q_lss rfl rfl) rfl ?_
  refine oM (.bool (decide (i_1 < (l.length : Int)))) rfl rfl ?_
  rcases Bool.eq_false_or_eq_true (decide (i_1 < (l.length : Int))) with c_1 | c_1
  ·
   replace hM := hM.1 (of_decide_eq_true c_1)
   refine HO.val (v := .int .i64 i_1) (want_by rfl rfl c_1) rfl (q_move rfl) ?_
   refine HO.val (v := .bool (decide (i_1 < 12))) (want_by rfl rfl c_1) rfl (q_lss rfl rfl) ?_
   refine oV (.bool (decide (i_1 < 12))) (q_pickK true rfl c_1 rfl) rfl ?_
   refine HO.nil (thenQ_normal (?_))
   exact ⟨F_1, decide (i_1 < 12), rfl, rfl, rfl, rfl, rfl, rfl, rfl, hK, hS, hL_l, hM⟩
  ·
   replace hM := hM.2 (of_decide_eq_false c_1)
   refine HO.past (past_by rfl rfl c_1) rfl ?_
   refine HO.past (past_by rfl rfl c_1) rfl ?_
   refine oV (.bool false) (q_pickK false rfl c_1 rfl) rfl ?_
   refine HO.nil (thenQ_normal (?_))
   exact ⟨F_1, false, rfl, rfl, rfl, rfl, rfl, rfl, rfl, hK, hS, hL_l, hM⟩
 ·
  rintro f_2 h_5 ⟨F_2, b_4, e1, e2, e4, e5, e6, e7, e17, hK, hS, hL_l, hM⟩
  unfold law33_PlanOrders_j1 at hM
  refine HW.fr [(1, vl), (2, .pointer (some ⟨b_1, 0, none⟩)), (4, .bool false), (5, vx_1), (6, vseen_1), (7, .int .i64 i_1), (17, .bool b_4)] ⟨e1, e2, e4, e5, e6, e7, e17, trivial⟩ ?_
  refine HW.cond b_4 rfl (fun c_2 => ?_) (fun c_2 => ?_)
  ·
   replace hM := hM.1 c_2
   refine HW.skip (thenQ_normal (?_))
   refine HW.seq ?_
   refine HW.block ?_
   refine HW.seq ?_
   refine HW.region ?_
   refine oM (vseen_1) rfl rfl ?_
   refine oM (vl) rfl rfl ?_
   refine oM (.int .i64 i_1) rfl rfl ?_
   obtain ⟨ho_1, hM⟩ := hM
   refine oV (elemPtr 3 vl (i_1).toNat) (q_idx ts_30 hL_l.is rfl rfl ho_1) rfl ?_
   refine oV (fieldPtr 3 vl (i_1).toNat 0) (q_fldElem fa_29_0 hL_l.is rfl ho_1) rfl ?_
   refine oV (.int .i64 ((gi l i_1).1)) (q_ldField to_3 hL_l.is rfl ho_1 (by decide) rfl) rfl ?_
   replace hS : St F_2 (Ow.own 3 1 encI vseen_1 seen_1 :: Ow.box b_1 29 #[.int .i64 root.1, .int .i64 root.2.1, .bool root.2.2] :: Ow.own 29 3 e_api_Site vx_1 x_1 :: fr) h_5 := hS.perm2 [2, 0, 1] 3 rfl rfl
   have hZ_1 := hS
   have hkz_1 := (hS.freeze).2
   replace hS := hS.freeze.1
   have hL_1 : SliceF (fun bz_ => F_2 bz_ ∨ (Ow.own 3 1 encI vseen_1 seen_1).foot bz_) h_5 1 encI vseen_1 seen_1 := ⟨(hZ_1.own 0 rfl).slice, fun _ b hb => .inr hb⟩
   refine HO.call (want_none) rfl (ec en_12 rfl rfl) (ref32_Has_walk (fr := (Ow.box b_1 29 #[.int .i64 root.1, .int .i64 root.2.1, .bool root.2.2] :: Ow.own 29 3 e_api_Site vx_1 x_1 :: fr)) seen_1 ((gi l i_1).1) vseen_1 hS hL_1 hM) ?_
   rintro _ h_6 ⟨F_3, r_2, rfl, hk, hS, _, hM⟩
   obtain ⟨hS, hk⟩ := hZ_1.back hk hS
   generalize (fun bz_ => F_3 bz_ ∧ ¬ (Ow.own 3 1 encI vseen_1 seen_1).foot bz_) = F_4 at hS hk
   replace hK := hK.trans hk
   replace hL_l := hL_l.kp hk
   refine oV (.bool (!r_2)) (q_not rfl) rfl ?_
   refine HO.nil (thenQ_normal (?_))
   refine HW.cond (!r_2) rfl (fun c_3 => ?_) (fun c_3 => ?_)
   ·
    replace hM := hM.1 c_3
    refine HW.regionA 16 mixed (fun h => (SliceIs h 3 e_api_Site vl l)) [] (by kernel_rfl) ?_
    refine HA.val (k := 0) (v := vx_1) rfl rfl (by kernel_rfl) (by kernel_rfl) (want_none) rfl (fun _ hL_l => q_move rfl) ?_
    refine HA.val (k := 1) (v := vl) rfl rfl (by kernel_rfl) (by kernel_rfl) (want_none) rfl (fun _ hL_l => q_move rfl) ?_
    refine HA.val (k := 2) (v := .int .i64 i_1) rfl rfl (by kernel_rfl) (by kernel_rfl) (want_none) rfl (fun _ hL_l => q_move rfl) ?_
    refine HA.val (k := 3) (v := elemPtr 3 vl (i_1).toNat) rfl rfl (by kernel_rfl) (by kernel_rfl) (want_none) rfl (fun _ hL_l => q_idx ts_30 hL_l rfl rfl ho_1) ?_
    refine HA.val (k := 4) (v := .agg #[.int .i64 ((gi l i_1).1), .int .i64 ((gi l i_1).2.1), .bool ((gi l i_1).2.2)]) rfl rfl (by kernel_rfl) (by kernel_rfl) (want_none) rfl (fun _ hL_l => q_ldElemAgg (cs := [.int .i64 ((gi l i_1).1), .int .i64 ((gi l i_1).2.1), .bool ((gi l i_1).2.2)]) ta_29 hL_l rfl ho_1 rfl) ?_
    refine HA.val (k := 7) (v := vseen_1) rfl rfl (by kernel_rfl) (by kernel_rfl) (want_none) rfl (fun _ hL_l => q_move rfl) ?_
    refine HA.val (k := 8) (v := vl) rfl rfl (by kernel_rfl) (by kernel_rfl) (want_none) rfl (fun _ hL_l => q_move rfl) ?_
    refine HA.val (k := 9) (v := .int .i64 i_1) rfl rfl (by kernel_rfl) (by kernel_rfl) (want_none) rfl (fun _ hL_l => q_move rfl) ?_
    refine HA.val (k := 10) (v := elemPtr 3 vl (i_1).toNat) rfl rfl (by kernel_rfl) (by kernel_rfl) (want_none) rfl (fun _ hL_l => q_idx ts_30 hL_l rfl rfl ho_1) ?_
    refine HA.val (k := 11) (v := fieldPtr 3 vl (i_1).toNat 0) rfl rfl (by kernel_rfl) (by kernel_rfl) (want_none) rfl (fun _ hL_l => q_fldElem fa_29_0 hL_l rfl ho_1) ?_
    refine HA.val (k := 12) (v := .int .i64 ((gi l i_1).1)) rfl rfl (by kernel_rfl) (by kernel_rfl) (want_none) rfl (fun _ hL_l => q_ldField to_3 hL_l rfl ho_1 (by decide) rfl) ?_
    refine HA.one (k := 5) ⟨hL_l.is, (Go.Wk.at_nil _ _)⟩ (by kernel_rfl) ?_
    refine HS.eff rfl (want_none) rfl (st_lit (enc := e_api_Site) (cells := #[.int .i64 ((gi l i_1).1), .int .i64 ((gi l i_1).2.1), .bool ((gi l i_1).2.2)]) #[.int .i64 0, .int .i64 0, .bool false] ([(gi l i_1)] : List T_api_Site) hS tl_30 (by decide) (by decide) (by kernel_rfl) (by kernel_rfl) rfl (by intro x hx; rfl) rfl) ?_
    rintro _ h_7 ⟨b_5, rfl, hS, hk⟩
    replace hK := hK.trans hk
    replace hL_l := hL_l.kp hk
    refine HA.one (k := 6) ⟨hL_l.is, (Go.Wk.at_nil _ _)⟩ (by kernel_rfl) ?_
    obtain ⟨ho_2, hM⟩ := hM
    refine HS.eff rfl (want_none) rfl (st_append te_30 hS (i := 3) rfl (hS.own 0 rfl).slice rfl rfl rfl (by intro a _ u hu; simp [e_api_Site, encI, encN, encB, encT] at hu; rcases hu with rfl | rfl | rfl <;> rfl) ho_2 (by omega)) ?_
    rintro v_1 h_8 ⟨hS, hk⟩
    replace hS : St F_4 (Ow.own 29 3 e_api_Site (.slice (some ⟨b_5, 0, none⟩) 1 1) ([(gi l i_1)] : List T_api_Site) :: Ow.own 3 1 encI vseen_1 seen_1 :: Ow.box b_1 29 #[.int .i64 root.1, .int .i64 root.2.1, .bool root.2.2] :: Ow.own 29 3 e_api_Site v_1 (x_1 ++ ([(gi l i_1)] : List T_api_Site)) :: fr) h_8 := hS
    replace hK := hK.trans hk
    replace hL_l := hL_l.kp hk
    refine HA.one (k := 13) ⟨hL_l.is, (Go.Wk.at_nil _ _)⟩ (by kernel_rfl) ?_
    replace hS : St F_4 (Ow.own 3 1 encI vseen_1 seen_1 :: Ow.own 29 3 e_api_Site (.slice (some ⟨b_5, 0, none⟩) 1 1) ([(gi l i_1)] : List T_api_Site) :: Ow.box b_1 29 #[.int .i64 root.1, .int .i64 root.2.1, .bool root.2.2] :: Ow.own 29 3 e_api_Site v_1 (x_1 ++ ([(gi l i_1)] : List T_api_Site)) :: fr) h_8 := hS.perm2 [1, 0, 2, 3] 4 rfl rfl
    refine HS.call rfl (want_none) rfl (ec en_13 rfl rfl) (ref32_Add_walk (fr := (Ow.own 29 3 e_api_Site (.slice (some ⟨b_5, 0, none⟩) 1 1) ([(gi l i_1)] : List T_api_Site) :: Ow.box b_1 29 #[.int .i64 root.1, .int .i64 root.2.1, .bool root.2.2] :: Ow.own 29 3 e_api_Site v_1 (x_1 ++ ([(gi l i_1)] : List T_api_Site)) :: fr)) seen_1 ((gi l i_1).1) vseen_1 hS hM) ?_
    rintro vr_1 h_9 ⟨F_5, r_3, _, rfl, hk, hS, hM⟩
    replace hK := hK.trans hk
    replace hL_l := hL_l.kp hk
    refine HA.val (k := 14) (v := v_1) rfl rfl (by kernel_rfl) (by kernel_rfl) (want_none) rfl (fun _ hL_l => q_assign rfl) ?_
    refine HA.val (k := 15) (v := vr_1) rfl rfl (by kernel_rfl) (by kernel_rfl) (want_none) rfl (fun _ hL_l => q_assign rfl) ?_
    refine HA.nil ⟨hL_l.is, (Go.Wk.at_nil _ _)⟩ (by kernel_rfl) (blockQ_normal (thenQ_normal (?_)))
    refine HW.region ?_
    refine oM (.int .i64 i_1) rfl rfl ?_
    obtain ⟨ho_3, hM⟩ := hM
    refine oV (.int .i64 (i_1 + 1)) (q_addN _ rfl rfl rfl ho_3.1 ho_3.2) rfl ?_
    refine oA (.int .i64 (i_1 + 1)) rfl rfl ?_
    refine HO.nil (thenQ_normal (?_))
    replace hS : St F_5 (Ow.box b_1 29 #[.int .i64 root.1, .int .i64 root.2.1, .bool root.2.2] :: Ow.own 29 3 e_api_Site v_1 (x_1 ++ ([(gi l i_1)] : List T_api_Site)) :: Ow.own 3 1 encI vr_1 r_3 :: fr) h_9 := hS.perm2 [2, 3, 0] 4 rfl rfl
    rw [hKe_1] at hM
    exact ⟨(x_1 ++ ([(gi l i_1)] : List T_api_Site), r_3, i_1 + 1), ⟨F_5, v_1, vr_1, rfl, rfl, rfl, rfl, rfl, rfl, hK, hS, hL_l, hM.1⟩, hM.2⟩
   ·
    replace hM := hM.2 c_3
    refine HW.skip (blockQ_normal (thenQ_normal (?_)))
    refine HW.region ?_
    refine oM (.int .i64 i_1) rfl rfl ?_
    obtain ⟨ho_4, hM⟩ := hM
    refine oV (.int .i64 (i_1 + 1)) (q_addN _ rfl rfl rfl ho_4.1 ho_4.2) rfl ?_
    refine oA (.int .i64 (i_1 + 1)) rfl rfl ?_
    refine HO.nil (thenQ_normal (?_))
    replace hS : St F_4 (Ow.box b_1 29 #[.int .i64 root.1, .int .i64 root.2.1, .bool root.2.2] :: Ow.own 29 3 e_api_Site vx_1 x_1 :: Ow.own 3 1 encI vseen_1 seen_1 :: fr) h_6 := hS.perm2 [1, 2, 0] 3 rfl rfl
    rw [hKe_1] at hM
    exact ⟨(x_1, seen_1, i_1 + 1), ⟨F_4, vx_1, vseen_1, rfl, rfl, rfl, rfl, rfl, rfl, hK, hS, hL_l, hM.1⟩, hM.2⟩
  ·
   replace hM := hM.2 c_2
   refine HW.exit (thenQ_exit (thenQ_exit (blockQ_exit (thenQ_normal (?_)))))
   refine HW.seq ?_
   refine HW.regionA 13 mixed (fun h => (Blk h b_1 (.cells #[.int .i64 root.1, .int .i64 root.2.1, .bool root.2.2] 29 (0, 0)))) [] (by kernel_rfl) ?_
   refine HA.val (k := 0) (v := .agg #[.int .i64 root.1, .int .i64 root.2.1, .bool root.2.2]) rfl rfl (by kernel_rfl) (by kernel_rfl) (want_none) rfl (fun _ c307 => q_loadAgg (cs := [.int .i64 root.1, .int .i64 root.2.1, .bool root.2.2]) ta_29 rfl rfl (Blk.cells (k := 3) c307 rfl)) ?_
   refine HA.val (k := 2) (v := vx_1) rfl rfl (by kernel_rfl) (by kernel_rfl) (want_none) rfl (fun _ c307 => q_move rfl) ?_
   refine HA.val (k := 5) (v := .agg #[.int .i64 root.1, .int .i64 root.2.1, .bool root.2.2]) rfl rfl (by kernel_rfl) (by kernel_rfl) (want_none) rfl (fun _ c307 => q_loadAgg (cs := [.int .i64 root.1, .int .i64 root.2.1, .bool root.2.2]) ta_29 rfl rfl (Blk.cells (k := 3) c307 rfl)) ?_
   refine HA.val (k := 6) (v := vx_1) rfl rfl (by kernel_rfl) (by kernel_rfl) (want_none) rfl (fun _ c307 => q_move rfl) ?_
   refine HA.one (k := 1) ⟨(hS.box 0 rfl), (Go.Wk.at_nil _ _)⟩ (by kernel_rfl) ?_
   refine HS.eff rfl (want_none) rfl (st_litEmpty (α := T_api_Site) e_api_Site hS tl_30) ?_
   rintro _ h_10 ⟨b_6, rfl, hS, hk⟩
   replace hK := hK.trans hk
   replace hL_l := hL_l.kp hk
   refine HA.one (k := 3) ⟨(hS.box 1 rfl), (Go.Wk.at_nil _ _)⟩ (by kernel_rfl) ?_
   obtain ⟨ho_5, hM⟩ := hM
   refine HS.eff rfl (want_none) rfl (st_append te_30 hS (i := 0) rfl (hS.own 2 rfl).slice rfl rfl rfl (by intro a _ u hu; simp [e_api_Site, encI, encN, encB, encT] at hu; rcases hu with rfl | rfl | rfl <;> rfl) ho_5 (by omega)) ?_
   rintro v_2 h_11 ⟨hS, hk⟩
   replace hS : St F_2 (Ow.own 29 3 e_api_Site v_2 (([] : List T_api_Site) ++ x_1) :: Ow.box b_1 29 #[.int .i64 root.1, .int .i64 root.2.1, .bool root.2.2] :: Ow.own 29 3 e_api_Site vx_1 x_1 :: Ow.own 3 1 encI vseen_1 seen_1 :: fr) h_11 := hS
   replace hK := hK.trans hk
   replace hL_l := hL_l.kp hk
   refine HA.one (k := 4) ⟨(hS.box 1 rfl), (Go.Wk.at_nil _ _)⟩ (by kernel_rfl) ?_
   have hZ_2 := hS
   have hkz_2 := (hS.freeze).2
   replace hS := hS.freeze.1
   have hL_2 : SliceF (fun bz_ => F_2 bz_ ∨ (Ow.own 29 3 e_api_Site v_2 (([] : List T_api_Site) ++ x_1)).foot bz_) h_11 3 e_api_Site v_2 (([] : List T_api_Site) ++ x_1) := ⟨(hZ_2.own 0 rfl).slice, fun _ b hb => .inr hb⟩
   refine HS.call rfl (want_none) rfl (ec en_15 rfl rfl) (plan_Order_walk (fr := (Ow.box b_1 29 #[.int .i64 root.1, .int .i64 root.2.1, .bool root.2.2] :: Ow.own 29 3 e_api_Site vx_1 x_1 :: Ow.own 3 1 encI vseen_1 seen_1 :: fr)) root (([] : List T_api_Site) ++ x_1) v_2 hS hL_2 hM) ?_
   rintro vr_2 h_12 ⟨F_6, r_4, _, rfl, hk, hS, _, hM⟩
   obtain ⟨hS, hk⟩ := hZ_2.back hk hS
   generalize (fun bz_ => F_6 bz_ ∧ ¬ (Ow.own 29 3 e_api_Site v_2 (([] : List T_api_Site) ++ x_1)).foot bz_) = F_7 at hS hk
   replace hK := hK.trans hk
   replace hL_l := hL_l.kp hk
   refine HA.one (k := 7) ⟨(hS.box 2 rfl), (Go.Wk.at_nil _ _)⟩ (by kernel_rfl) ?_
   replace hS : St F_7 (Ow.own 29 3 e_api_Site vx_1 x_1 :: Ow.own 29 3 e_api_Site v_2 (([] : List T_api_Site) ++ x_1) :: Ow.own 3 1 encI vr_2 r_4 :: Ow.box b_1 29 #[.int .i64 root.1, .int .i64 root.2.1, .bool root.2.2] :: Ow.own 3 1 encI vseen_1 seen_1 :: fr) h_12 := hS.perm2 [3, 0, 1, 2, 4] 5 rfl rfl
   have hZ_3 := hS
   have hkz_3 := (hS.freeze).2
   replace hS := hS.freeze.1
   have hL_3 : SliceF (fun bz_ => F_7 bz_ ∨ (Ow.own 29 3 e_api_Site vx_1 x_1).foot bz_) h_12 3 e_api_Site vx_1 x_1 := ⟨(hZ_3.own 0 rfl).slice, fun _ b hb => .inr hb⟩
   refine HS.call rfl (want_none) rfl (ec en_16 rfl rfl) (ref33_Order_walk (fr := (Ow.own 29 3 e_api_Site v_2 (([] : List T_api_Site) ++ x_1) :: Ow.own 3 1 encI vr_2 r_4 :: Ow.box b_1 29 #[.int .i64 root.1, .int .i64 root.2.1, .bool root.2.2] :: Ow.own 3 1 encI vseen_1 seen_1 :: fr)) root x_1 vx_1 hS hL_3 hM) ?_
   rintro vr_3 h_13 ⟨F_8, r_5, _, rfl, hk, hS, _, hM⟩
   obtain ⟨hS, hk⟩ := hZ_3.back hk hS
   generalize (fun bz_ => F_8 bz_ ∧ ¬ (Ow.own 29 3 e_api_Site vx_1 x_1).foot bz_) = F_9 at hS hk
   replace hK := hK.trans hk
   replace hL_l := hL_l.kp hk
   refine HA.one (k := 8) ⟨(hS.box 4 rfl), (Go.Wk.at_nil _ _)⟩ (by kernel_rfl) ?_
   replace hS : St F_9 (Ow.own 3 1 encI vr_2 r_4 :: Ow.own 29 3 e_api_Site vx_1 x_1 :: Ow.own 3 1 encI vr_3 r_5 :: Ow.own 29 3 e_api_Site v_2 (([] : List T_api_Site) ++ x_1) :: Ow.box b_1 29 #[.int .i64 root.1, .int .i64 root.2.1, .bool root.2.2] :: Ow.own 3 1 encI vseen_1 seen_1 :: fr) h_13 := hS.perm2 [3, 0, 1, 2, 4, 5] 6 rfl rfl
   have hZ_4 := hS
   have hkz_4 := (hS.freeze).2
   replace hS := hS.freeze.1
   have hL_4 : SliceF (fun bz_ => F_9 bz_ ∨ (Ow.own 3 1 encI vr_2 r_4).foot bz_) h_13 1 encI vr_2 r_4 := ⟨(hZ_4.own 0 rfl).slice, fun _ b hb => .inr hb⟩
   replace hS : St (fun bz_ => F_9 bz_ ∨ (Ow.own 3 1 encI vr_2 r_4).foot bz_) (Ow.own 3 1 encI vr_3 r_5 :: Ow.own 29 3 e_api_Site vx_1 x_1 :: Ow.own 29 3 e_api_Site v_2 (([] : List T_api_Site) ++ x_1) :: Ow.box b_1 29 #[.int .i64 root.1, .int .i64 root.2.1, .bool root.2.2] :: Ow.own 3 1 encI vseen_1 seen_1 :: fr) h_13 := hS.perm2 [1, 0, 2, 3, 4] 5 rfl rfl
   have hZ_5 := hS
   have hkz_5 := (hS.freeze).2
   replace hS := hS.freeze.1
   have hL_5 : SliceF (fun bz_ => (fun bz_ => F_9 bz_ ∨ (Ow.own 3 1 encI vr_2 r_4).foot bz_) bz_ ∨ (Ow.own 3 1 encI vr_3 r_5).foot bz_) h_13 1 encI vr_3 r_5 := ⟨(hZ_5.own 0 rfl).slice, fun _ b hb => .inr hb⟩
   refine HS.call rfl (want_none) rfl (ec en_14 rfl rfl) (ref23_Same_walk (fr := (Ow.own 29 3 e_api_Site vx_1 x_1 :: Ow.own 29 3 e_api_Site v_2 (([] : List T_api_Site) ++ x_1) :: Ow.box b_1 29 #[.int .i64 root.1, .int .i64 root.2.1, .bool root.2.2] :: Ow.own 3 1 encI vseen_1 seen_1 :: fr)) r_4 r_5 vr_2 vr_3 hS (hL_4.kp hkz_5) hL_5 hM) ?_
   rintro _ h_14 ⟨F_10, r_6, rfl, hk, hS, _, _, hM⟩
   obtain ⟨hS, hk⟩ := hZ_5.back hk hS
   obtain ⟨hS, hk⟩ := hZ_4.back hk hS
   generalize (fun bz_ => (fun bz_ => F_10 bz_ ∧ ¬ (Ow.own 3 1 encI vr_3 r_5).foot bz_) bz_ ∧ ¬ (Ow.own 3 1 encI vr_2 r_4).foot bz_) = F_11 at hS hk
   replace hK := hK.trans hk
   replace hL_l := hL_l.kp hk
   refine HA.val (k := 9) (v := .bool r_6) rfl rfl (by kernel_rfl) (by kernel_rfl) (want_none) rfl (fun _ c307 => q_move rfl) ?_
   rcases Bool.eq_false_or_eq_true r_6 with c_4 | c_4
   ·
    replace hM := hM.1 c_4
    refine HA.one (k := 10) ⟨(hS.box 4 rfl), (Go.Wk.at_nil _ _)⟩ (by kernel_rfl) ?_
    refine HS.call rfl (want_by rfl rfl c_4) rfl (ec en_11 rfl rfl) (law33_lives_walk (fr := (Ow.own 3 1 encI vr_2 r_4 :: Ow.own 3 1 encI vr_3 r_5 :: Ow.own 29 3 e_api_Site vx_1 x_1 :: Ow.own 29 3 e_api_Site v_2 (([] : List T_api_Site) ++ x_1) :: Ow.box b_1 29 #[.int .i64 root.1, .int .i64 root.2.1, .bool root.2.2] :: Ow.own 3 1 encI vseen_1 seen_1 :: fr))  hS hD hM) ?_
    rintro _ h_15 ⟨F_12, r_7, rfl, hk, hS, hM⟩
    replace hK := hK.trans hk
    replace hL_l := hL_l.kp hk
    refine HA.val (k := 11) (v := .bool r_7) rfl rfl (by kernel_rfl) (by kernel_rfl) (want_none) rfl (fun _ c307 => q_pickK true rfl c_4 rfl) ?_
    refine HA.val (k := 12) (v := .bool r_7) rfl rfl (by kernel_rfl) (by kernel_rfl) (want_none) rfl (fun _ c307 => q_assign rfl) ?_
    refine HA.nil ⟨(hS.box 4 rfl), (Go.Wk.at_nil _ _)⟩ (by kernel_rfl) (thenQ_normal (?_))
    refine HW.ret (?_)
    refine ⟨.inr rfl, .bool r_7, res1 rfl (rt rfl), ?_⟩
    replace hS : St F_12 (fr) h_15 := hS.perm2 [] 6 rfl rfl
    exact ⟨F_12, r_7, rfl, hK, hS, hL_l, hM⟩
   ·
    replace hM := hM.2 c_4
    refine HA.one (k := 10) ⟨(hS.box 4 rfl), (Go.Wk.at_nil _ _)⟩ (by kernel_rfl) ?_
    refine HS.past rfl (past_by rfl rfl c_4) rfl ?_
    refine HA.val (k := 11) (v := .bool false) rfl rfl (by kernel_rfl) (by kernel_rfl) (want_none) rfl (fun _ c307 => q_pickK false rfl c_4 rfl) ?_
    refine HA.val (k := 12) (v := .bool false) rfl rfl (by kernel_rfl) (by kernel_rfl) (want_none) rfl (fun _ c307 => q_assign rfl) ?_
    refine HA.nil ⟨(hS.box 4 rfl), (Go.Wk.at_nil _ _)⟩ (by kernel_rfl) (thenQ_normal (?_))
    refine HW.ret (?_)
    refine ⟨.inr rfl, .bool false, res1 rfl (rt rfl), ?_⟩
    replace hS : St F_11 (fr) h_14 := hS.perm2 [] 6 rfl rfl
    exact ⟨F_11, false, rfl, hK, hS, hL_l, hM⟩
end Go.Wk
