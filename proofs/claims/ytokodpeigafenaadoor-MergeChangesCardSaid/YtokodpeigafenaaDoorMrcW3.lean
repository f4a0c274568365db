/- Walks and mirrors of Merge laws. -/
import Derived.Test.YtokodpeigafenaaDoorMrcW2
set_option linter.unusedSimpArgs false
set_option linter.unusedVariables false
set_option linter.unusedSectionVars false
namespace Go.Wk
open Go.HL
open Go.Proofs hiding encI
variable [DM]

def srcs_text_l1 (l : List T_api_Addr) (Q : Str → Prop) (K_1 : (List Str) → Int → Prop) (out_1 : List Str) (n_1 : Int) : Prop :=
  (n_1 < (l.length : Int) → ((0 : Int) ≤ n_1 ∧ n_1 < (l.length : Int)) ∧ (addr_Print_W (gi l n_1) (fun r_2 => ((out_1.length + ([r_2] : List Str).length) * 16 ≤ 140737488355328) ∧ ((I64 (n_1 + 1)) ∧ (K_1 (out_1 ++ ([r_2] : List Str)) (n_1 + 1)))))) ∧ (¬ (n_1 < (l.length : Int)) → ((out_1).length ≤ 140737488355328 ∧ (joinS out_1 ([44] : Str)).length ≤ 140737488355328) ∧ (Q (joinS out_1 ([44] : Str))))
def srcs_text_W (l : List T_api_Addr) (Q : Str → Prop) : Prop :=
  ((l.length : Int) = 0 → Q [45]) ∧ (¬ ((l.length : Int) = 0) → loopW (fun (K_1 : (List Str × Int) → Prop) (s : List Str × Int) => srcs_text_l1 l Q (fun out_1 n_1 => K_1 (out_1, n_1)) s.1 s.2) ([], 0))
set_option maxHeartbeats 40000000 in
set_option maxRecDepth 100000 in
theorem srcs_text_walk {F : Fz} {fr : List Ow} {h0 : Heap} (l : List T_api_Addr) (vl : Value) (hS : St F (fr) h0) (hL_l : SliceF F h0 17 e_api_Addr vl l) (hD : DM.on = false) {Q : Str → Prop} (hM : srcs_text_W l Q) :
    HC Tryd.prog 76 #[vl] h0 fun u h' => ∃ (F' : Fz) (r_1 : Str), u = .string (bs r_1) ∧ Kp F h0 F' h' ∧ St F' (fr) h' ∧ (SliceF F' h' 17 e_api_Addr vl l) ∧ Q r_1 := by
  unfold srcs_text_W at hM
  have hK := Kp.refl F h0
  refine HC.of_HW (n := 23) Tryd.func76 rfl rfl (Nat.le_of_ble_eq_true rfl) ?_
  refine HW.seq ?_
  refine HW.region ?_
  refine HO.val (v := .string (bs [])) (want_none) rfl (q_assign rfl) ?_
  refine HO.nil (thenQ_normal (?_))
  refine HW.seq ?_
  refine HW.seq ?_
  refine HW.region ?_
  refine HO.val (v := vl) (want_none) rfl (q_move rfl) ?_
  refine HO.val (v := .int .i64 (l.length : Int)) (want_none) rfl (q_len ts_22 (shp hL_l.is) rfl rfl) ?_
  refine HO.val (v := .bool (decide ((l.length : Int) = 0))) (want_none) rfl (q_eql rfl rfl) ?_
  refine HO.nil (thenQ_normal (?_))
  refine HW.cond (decide ((l.length : Int) = 0)) rfl (fun c_1 => ?_) (fun c_1 => ?_)
  · replace hM := hM.1 (of_decide_eq_true c_1)
    refine HW.seq ?_
    refine HW.region ?_
    refine HO.val (v := .string (bs [45])) (want_none) rfl (q_assign rfl) ?_
    refine HO.nil (thenQ_normal (?_))
    refine HW.ret (thenQ_ret (?_))
    refine ⟨.inr rfl, .string (bs [45]), res1 rfl (rt rfl), ?_⟩
    exact ⟨F, [45], rfl, hK, hS, hL_l, hM⟩
  · replace hM := hM.2 (of_decide_eq_false c_1)
    refine HW.skip (thenQ_normal (?_))
    refine HW.seq ?_
    refine HW.region ?_
    refine HO.val (v := .slice none 0 0) (want_none) rfl (q_assign rfl) ?_
    refine HO.nil (thenQ_normal (?_))
    refine HW.seq ?_
    refine HW.seq ?_
    refine HW.region ?_
    refine HO.val (v := vl) (want_none) rfl (q_move rfl) ?_
    refine HO.val (v := .int .i64 (l.length : Int)) (want_none) rfl (q_len ts_22 (shp hL_l.is) rfl rfl) ?_
    refine HO.val (v := .int .i64 0) (want_none) rfl (q_move rfl) ?_
    refine HO.nil (thenQ_normal (?_))
    refine HW.block ?_
    obtain ⟨I_1, m_1, hI_1, hR_1⟩ := hM
    replace hS := hS.nilOwn 9 1 encT
    refine HW.loop (S := List Str × Int) (fun s f h => match s with | (out_1, n_1) => ∃ (F' : Fz) (vout_1 : Value), f 2 = .string (bs []) ∧ f 3 = vout_1 ∧ f 9 = vl ∧ f 10 = .int .i64 (l.length : Int) ∧ f 11 = .int .i64 n_1 ∧ Kp F h0 F' h ∧ St F' (Ow.own 9 1 encT vout_1 out_1 :: fr) h ∧ (SliceF F' h 17 e_api_Addr vl l) ∧ I_1 (out_1, n_1)) m_1 ([], 0) ⟨F, .slice none 0 0, rfl, rfl, rfl, rfl, rfl, hK, hS, hL_l, hI_1⟩ ?_
    rintro ⟨out_1, n_1⟩ f_1 h_1 ⟨F_1, vout_1, e2, e3, e9, e10, e11, hK, hS, hL_l, hI0⟩
    obtain ⟨K_1, hKe_1⟩ : ∃ K : (List Str) → Int → Prop, K = fun out_1' n_1' => I_1 (out_1', n_1') ∧ m_1 (out_1', n_1') < m_1 (out_1, n_1) := ⟨_, rfl⟩
    have hM : srcs_text_l1 l Q K_1 out_1 n_1 := by rw [hKe_1]; exact hR_1 (out_1, n_1) hI0
    unfold srcs_text_l1 at hM
    refine HW.fr [(2, .string (bs [])), (3, vout_1), (9, vl), (10, .int .i64 (l.length : Int)), (11, .int .i64 n_1)] ⟨e2, e3, e9, e10, e11, trivial⟩ ?_
    refine HW.seq ?_
    refine HW.region ?_
    refine HO.val (v := .bool (decide (n_1 < (l.length : Int)))) (want_none) rfl (q_lss rfl rfl) ?_
    refine HO.nil (thenQ_normal (?_))
    refine HW.seq ?_
    refine HW.cond (decide (n_1 < (l.length : Int))) rfl (fun c_2 => ?_) (fun c_2 => ?_)
    · replace hM := hM.1 (of_decide_eq_true c_2)
      refine HW.skip (thenQ_normal (?_))
      refine HW.seq ?_
      refine HW.block ?_
      refine HW.seq ?_
      refine HW.region ?_
      obtain ⟨ho_1, hM⟩ := hM
      refine HO.val (v := elemPtr 17 vl (n_1).toNat) (want_none) rfl (q_idx ts_22 hL_l.is rfl rfl ho_1) ?_
      refine HO.val (v := .agg (e_api_Addr (gi l n_1)).toArray) (want_none) rfl (q_ldElemAgg (cs := (e_api_Addr (gi l n_1))) ta_27 hL_l.is rfl ho_1 rfl) ?_
      refine HO.eff (want_none) rfl (st_alloc (c := (e_api_Addr (false, (default : Ba 16))).toArray) hS tz_27 rfl) ?_
      rintro _ h_2 ⟨b_1, rfl, hS, hk⟩
      replace hK := hK.trans hk
      replace hL_l := hL_l.kp hk
      refine HO.sto (want_none) rfl (st_storeAgg (c' := (e_api_Addr (gi l n_1)).toArray) hS (i := 0) rfl ta_27 rfl rfl rfl (one_e_api_Addr _) (Nat.le_of_ble_eq_true rfl) rfl) ?_
      rintro h_3 ⟨hS, hk⟩
      replace hS : St F_1 (Ow.box b_1 27 (e_api_Addr (gi l n_1)).toArray :: Ow.own 9 1 encT vout_1 out_1 :: fr) h_3 := hS
      replace hK := hK.trans hk
      replace hL_l := hL_l.kp hk
      refine HO.nil (thenQ_normal (?_))
      refine HW.region ?_
      refine HO.val (v := vout_1) (want_none) rfl (q_move rfl) ?_
      refine HO.val (v := .agg (e_api_Addr (gi l n_1)).toArray) (want_none) rfl (q_loadAgg (cs := (e_api_Addr (gi l n_1))) ta_27 rfl rfl (Blk.cells (k := 17) (hS.box 0 rfl) rfl)) ?_
      refine HO.call (want_none) rfl (ec en_89 rfl rfl) (addr_Print_walk (fr := (Ow.box b_1 27 (e_api_Addr (gi l n_1)).toArray :: Ow.own 9 1 encT vout_1 out_1 :: fr)) (gi l n_1) hS hD hM) ?_
      rintro _ h_4 ⟨F_2, r_2, rfl, hk, hS, hM⟩
      replace hK := hK.trans hk
      replace hL_l := hL_l.kp hk
      refine HO.eff (want_none) rfl (st_lit (enc := encT) (cells := #[.string (bs r_2)]) #[.string (bs [])] ([r_2] : List Str) hS tl_97 (by decide) (by decide) (by kernel_rfl) (by kernel_rfl) rfl (by intro x hx; rfl) rfl) ?_
      rintro _ h_5 ⟨b_2, rfl, hS, hk⟩
      replace hK := hK.trans hk
      replace hL_l := hL_l.kp hk
      obtain ⟨ho_2, hM⟩ := hM
      refine HO.eff (want_none) rfl (st_append te_97 hS (i := 2) rfl (hS.own 0 rfl).slice rfl rfl rfl (by intro a _ u hu; simp [encT, encI, encN, encB, encT] at hu; subst hu; rfl) ho_2 (by omega)) ?_
      rintro v_1 h_6 ⟨hS, hk⟩
      replace hS : St F_2 (Ow.own 9 1 encT (.slice (some ⟨b_2, 0, none⟩) 1 1) ([r_2] : List Str) :: Ow.box b_1 27 (e_api_Addr (gi l n_1)).toArray :: Ow.own 9 1 encT v_1 (out_1 ++ ([r_2] : List Str)) :: fr) h_6 := hS
      replace hK := hK.trans hk
      replace hL_l := hL_l.kp hk
      refine HO.val (v := v_1) (want_none) rfl (q_assign rfl) ?_
      refine HO.nil (blockQ_normal (thenQ_normal (?_)))
      refine HW.region ?_
      obtain ⟨ho_3, hM⟩ := hM
      refine HO.val (v := .int .i64 (n_1 + 1)) (want_none) rfl (q_addN _ rfl rfl rfl ho_3.1 ho_3.2) ?_
      refine HO.val (v := .int .i64 (n_1 + 1)) (want_none) rfl (q_move rfl) ?_
      refine HO.nil (thenQ_normal (?_))
      replace hS : St F_2 (Ow.own 9 1 encT v_1 (out_1 ++ ([r_2] : List Str)) :: fr) h_6 := hS.perm2 [2] 3 rfl rfl
      rw [hKe_1] at hM
      exact ⟨(out_1 ++ ([r_2] : List Str), n_1 + 1), ⟨F_2, v_1, rfl, rfl, rfl, rfl, rfl, hK, hS, hL_l, hM.1⟩, hM.2⟩
    · replace hM := hM.2 (of_decide_eq_false c_2)
      refine HW.exit (thenQ_exit (thenQ_exit (blockQ_exit (thenQ_normal (?_)))))
      refine HW.seq ?_
      refine HW.region ?_
      refine HO.val (v := vout_1) (want_none) rfl (q_move rfl) ?_
      obtain ⟨ho_4, hM⟩ := hM
      refine HO.call (want_none) rfl (ec en_90 rfl rfl) (strJoin_hc hD Tryd.join Tryd.joinX ([44] : Str) hS (hS.own 0 rfl).slice ho_4.1 ho_4.2) ?_
      rintro _ h_7 ⟨rfl, hS, hk⟩
      replace hK := hK.trans hk
      replace hL_l := hL_l.kp hk
      refine HO.val (v := .string (bs (joinS out_1 ([44] : Str)))) (want_none) rfl (q_assign rfl) ?_
      refine HO.nil (thenQ_normal (?_))
      refine HW.ret (?_)
      refine ⟨.inr rfl, .string (bs (joinS out_1 ([44] : Str))), res1 rfl (rt rfl), ?_⟩
      replace hS : St F_1 (fr) h_7 := hS.perm2 [] 1 rfl rfl
      exact ⟨F_1, joinS out_1 ([44] : Str), rfl, hK, hS, hL_l, hM⟩

def srcs_Print_W (l : List T_api_Addr) (Q : Str → Prop) : Prop :=
  srcs_text_W l (fun r_2 => Q r_2)
set_option maxHeartbeats 40000000 in
set_option maxRecDepth 100000 in
theorem srcs_Print_walk {F : Fz} {fr : List Ow} {h0 : Heap} (l : List T_api_Addr) (vl : Value) (hS : St F (fr) h0) (hL_l : SliceF F h0 17 e_api_Addr vl l) (hD : DM.on = false) {Q : Str → Prop} (hM : srcs_Print_W l Q) :
    HC Tryd.prog 63 #[vl] h0 fun u h' => ∃ (F' : Fz) (r_1 : Str), u = .string (bs r_1) ∧ Kp F h0 F' h' ∧ St F' (fr) h' ∧ (SliceF F' h' 17 e_api_Addr vl l) ∧ Q r_1 := by
  unfold srcs_Print_W at hM
  have hK := Kp.refl F h0
  refine HC.of_HW (n := 5) Tryd.func63 rfl rfl (Nat.le_of_ble_eq_true rfl) ?_
  refine HW.seq ?_
  refine HW.region ?_
  refine HO.val (v := .string (bs [])) (want_none) rfl (q_assign rfl) ?_
  refine HO.nil (thenQ_normal (?_))
  refine HW.seq ?_
  refine HW.region ?_
  refine HO.val (v := vl) (want_none) rfl (q_move rfl) ?_
  refine HO.call (want_none) rfl (ec en_76 rfl rfl) (srcs_text_walk (fr := (fr)) l vl hS hL_l hD hM) ?_
  rintro _ h_1 ⟨F_1, r_2, rfl, hk, hS, _, hM⟩
  replace hK := hK.trans hk
  replace hL_l := hL_l.kp hk
  refine HO.val (v := .string (bs r_2)) (want_none) rfl (q_assign rfl) ?_
  refine HO.nil (thenQ_normal (?_))
  refine HW.ret (?_)
  refine ⟨.inr rfl, .string (bs r_2), res1 rfl (rt rfl), ?_⟩
  exact ⟨F_1, r_2, rfl, hK, hS, hL_l, hM⟩

def merge_text_W (f_Exclude : Bool) (f_Sources : List T_api_Addr) (Q : Str → Prop) : Prop :=
  (f_Exclude = true → srcs_Print_W f_Sources (fun r_2 => (((([101, 120, 32] : Str)).length : Int) + (r_2.length : Int) ≤ 9223372036854775807) ∧ (Q (([101, 120, 32] : Str) ++ r_2)))) ∧ (f_Exclude = false → srcs_Print_W f_Sources (fun r_3 => (((([105, 110, 32] : Str)).length : Int) + (r_3.length : Int) ≤ 9223372036854775807) ∧ (Q (([105, 110, 32] : Str) ++ r_3))))
set_option maxHeartbeats 40000000 in
set_option maxRecDepth 100000 in
theorem merge_text_walk {F : Fz} {fr : List Ow} {h0 : Heap} (f_Exclude : Bool) (f_Sources : List T_api_Addr) (vf_Sources : Value) (hS : St F (fr) h0) (hL_f_Sources : SliceF F h0 17 e_api_Addr vf_Sources f_Sources) (hD : DM.on = false) {Q : Str → Prop} (hM : merge_text_W f_Exclude f_Sources Q) :
    HC Tryd.prog 67 #[.agg #[.bool f_Exclude, vf_Sources]] h0 fun u h' => ∃ (F' : Fz) (r_1 : Str), u = .string (bs r_1) ∧ Kp F h0 F' h' ∧ St F' (fr) h' ∧ (SliceF F' h' 17 e_api_Addr vf_Sources f_Sources) ∧ Q r_1 := by
  unfold merge_text_W at hM
  have hK := Kp.refl F h0
  refine HC.of_HW (n := 13) Tryd.func67 rfl rfl (Nat.le_of_ble_eq_true rfl) ?_
  refine HW.seq ?_
  refine HW.region ?_
  refine HO.eff (want_none) rfl (st_box (c := #[.bool f_Exclude, vf_Sources]) (k' := 2) hS rfl rfl) ?_
  rintro _ h_1 ⟨b_1, rfl, hS, hk⟩
  replace hK := hK.trans hk
  replace hL_f_Sources := hL_f_Sources.kp hk
  refine HO.val (v := .string (bs [])) (want_none) rfl (q_assign rfl) ?_
  refine HO.nil (thenQ_normal (?_))
  refine HW.seq ?_
  refine HW.seq ?_
  refine HW.region ?_
  refine HO.val (v := .pointer (some ⟨b_1, 0, none⟩)) (want_none) rfl (q_fieldAddr fa_24_0 rfl rfl) ?_
  refine HO.val (v := .bool f_Exclude) (want_none) rfl (q_load to_4 rfl (Blk.cell (hS.box 0 rfl) rfl)) ?_
  refine HO.nil (thenQ_normal (?_))
  refine HW.cond f_Exclude rfl (fun c_1 => ?_) (fun c_1 => ?_)
  · replace hM := hM.1 c_1
    refine HW.seq ?_
    refine HW.region ?_
    refine HO.val (v := .pointer (some ⟨b_1, 1, none⟩)) (want_none) rfl (q_fieldAddr fa_24_1 rfl rfl) ?_
    refine HO.val (v := vf_Sources) (want_none) rfl (q_load to_22 rfl (Blk.cell (hS.box 0 rfl) rfl)) ?_
    refine HO.call (want_none) rfl (ec en_63 rfl rfl) (srcs_Print_walk (fr := (Ow.box b_1 24 #[.bool f_Exclude, vf_Sources] :: fr)) f_Sources vf_Sources hS hL_f_Sources hD hM) ?_
    rintro _ h_2 ⟨F_1, r_2, rfl, hk, hS, _, hM⟩
    replace hK := hK.trans hk
    replace hL_f_Sources := hL_f_Sources.kp hk
    obtain ⟨ho_1, hM⟩ := hM
    refine HO.val (v := .string (bs (([101, 120, 32] : Str) ++ r_2))) (want_none) rfl (q_addT rfl rfl ho_1) ?_
    refine HO.val (v := .string (bs (([101, 120, 32] : Str) ++ r_2))) (want_none) rfl (q_assign rfl) ?_
    refine HO.nil (thenQ_normal (?_))
    refine HW.ret (thenQ_ret (?_))
    refine ⟨.inr rfl, .string (bs (([101, 120, 32] : Str) ++ r_2)), res1 rfl (rt rfl), ?_⟩
    replace hS : St F_1 (fr) h_2 := hS.perm2 [] 1 rfl rfl
    exact ⟨F_1, ([101, 120, 32] : Str) ++ r_2, rfl, hK, hS, hL_f_Sources, hM⟩
  · replace hM := hM.2 c_1
    refine HW.skip (thenQ_normal (?_))
    refine HW.seq ?_
    refine HW.region ?_
    refine HO.val (v := .pointer (some ⟨b_1, 1, none⟩)) (want_none) rfl (q_fieldAddr fa_24_1 rfl rfl) ?_
    refine HO.val (v := vf_Sources) (want_none) rfl (q_load to_22 rfl (Blk.cell (hS.box 0 rfl) rfl)) ?_
    refine HO.call (want_none) rfl (ec en_63 rfl rfl) (srcs_Print_walk (fr := (Ow.box b_1 24 #[.bool f_Exclude, vf_Sources] :: fr)) f_Sources vf_Sources hS hL_f_Sources hD hM) ?_
    rintro _ h_3 ⟨F_2, r_3, rfl, hk, hS, _, hM⟩
    replace hK := hK.trans hk
    replace hL_f_Sources := hL_f_Sources.kp hk
    obtain ⟨ho_2, hM⟩ := hM
    refine HO.val (v := .string (bs (([105, 110, 32] : Str) ++ r_3))) (want_none) rfl (q_addT rfl rfl ho_2) ?_
    refine HO.val (v := .string (bs (([105, 110, 32] : Str) ++ r_3))) (want_none) rfl (q_assign rfl) ?_
    refine HO.nil (thenQ_normal (?_))
    refine HW.ret (?_)
    refine ⟨.inr rfl, .string (bs (([105, 110, 32] : Str) ++ r_3)), res1 rfl (rt rfl), ?_⟩
    replace hS : St F_2 (fr) h_3 := hS.perm2 [] 1 rfl rfl
    exact ⟨F_2, ([105, 110, 32] : Str) ++ r_3, rfl, hK, hS, hL_f_Sources, hM⟩

def merge_Print_W (f_Exclude : Bool) (f_Sources : List T_api_Addr) (Q : Str → Prop) : Prop :=
  merge_text_W f_Exclude f_Sources (fun r_2 => Q r_2)
set_option maxHeartbeats 40000000 in
set_option maxRecDepth 100000 in
theorem merge_Print_walk {F : Fz} {fr : List Ow} {h0 : Heap} (f_Exclude : Bool) (f_Sources : List T_api_Addr) (vf_Sources : Value) (hS : St F (fr) h0) (hL_f_Sources : SliceF F h0 17 e_api_Addr vf_Sources f_Sources) (hD : DM.on = false) {Q : Str → Prop} (hM : merge_Print_W f_Exclude f_Sources Q) :
    HC Tryd.prog 51 #[.agg #[.bool f_Exclude, vf_Sources]] h0 fun u h' => ∃ (F' : Fz) (r_1 : Str), u = .string (bs r_1) ∧ Kp F h0 F' h' ∧ St F' (fr) h' ∧ (SliceF F' h' 17 e_api_Addr vf_Sources f_Sources) ∧ Q r_1 := by
  unfold merge_Print_W at hM
  have hK := Kp.refl F h0
  refine HC.of_HW (n := 5) Tryd.func51 rfl rfl (Nat.le_of_ble_eq_true rfl) ?_
  refine HW.seq ?_
  refine HW.region ?_
  refine HO.eff (want_none) rfl (st_box (c := #[.bool f_Exclude, vf_Sources]) (k' := 2) hS rfl rfl) ?_
  rintro _ h_1 ⟨b_1, rfl, hS, hk⟩
  replace hK := hK.trans hk
  replace hL_f_Sources := hL_f_Sources.kp hk
  refine HO.val (v := .string (bs [])) (want_none) rfl (q_assign rfl) ?_
  refine HO.nil (thenQ_normal (?_))
  refine HW.seq ?_
  refine HW.region ?_
  refine HO.val (v := .agg #[.bool f_Exclude, vf_Sources]) (want_none) rfl (q_loadAgg (cs := [.bool f_Exclude, vf_Sources]) ta_24 rfl rfl (Blk.cells (k := 2) (hS.box 0 rfl) rfl)) ?_
  refine HO.call (want_none) rfl (ec en_67 rfl rfl) (merge_text_walk (fr := (Ow.box b_1 24 #[.bool f_Exclude, vf_Sources] :: fr)) f_Exclude f_Sources vf_Sources hS hL_f_Sources hD hM) ?_
  rintro _ h_2 ⟨F_1, r_2, rfl, hk, hS, _, hM⟩
  replace hK := hK.trans hk
  replace hL_f_Sources := hL_f_Sources.kp hk
  refine HO.val (v := .string (bs r_2)) (want_none) rfl (q_assign rfl) ?_
  refine HO.nil (thenQ_normal (?_))
  refine HW.ret (?_)
  refine ⟨.inr rfl, .string (bs r_2), res1 rfl (rt rfl), ?_⟩
  replace hS : St F_1 (fr) h_2 := hS.perm2 [] 1 rfl rfl
  exact ⟨F_1, r_2, rfl, hK, hS, hL_f_Sources, hM⟩

def law19_lives_W (Q : Bool → Prop) : Prop :=
  law19_four_W 1 (fun r_2 => law19_four_W 1 (fun r_3 => law19_four_W 2 (fun r_4 => ∀ b_1 : Nat, (∀ b_2 : Nat, (merge_All_W ([(false, (.slice (some ⟨b_1, 0, none⟩) 1 1, ([r_2] : List T_api_Addr))), (true, (.slice (some ⟨b_2, 0, none⟩) 2 2, ([r_3, r_4] : List T_api_Addr)))] : List T_api_Filter) (fun r_0_1 r_1_1 => (r_0_1 = true → ((r_1_1.length : Int) = 1 → ((0 : Int) ≤ 0 ∧ 0 < (r_1_1.length : Int)) ∧ (law19_four_W 2 (fun r_5 => (((gi r_1_1 0) : T_api_Addr) = r_5 → merge_Print_W r_0_1 r_1_1 (fun r_6 => Q (decide ((r_6 : Str) = [101, 120, 32, 49, 48, 46, 48, 46, 48, 46, 50])))) ∧ (¬ (((gi r_1_1 0) : T_api_Addr) = r_5) → Q false)))) ∧ (¬ ((r_1_1.length : Int) = 1) → Q false)) ∧ (r_0_1 = false → Q false)))))))
set_option maxHeartbeats 40000000 in
set_option maxRecDepth 100000 in
theorem law19_lives_walk {F : Fz} {fr : List Ow} {h0 : Heap}  (hS : St F (fr) h0)  (hD : DM.on = false) {Q : Bool → Prop} (hM : law19_lives_W Q) :
    HC Tryd.prog 16 #[] h0 fun u h' => ∃ (F' : Fz) (r_1 : Bool), u = .bool r_1 ∧ Kp F h0 F' h' ∧ St F' (fr) h' ∧ Q r_1 := by
  unfold law19_lives_W at hM
  have hK := Kp.refl F h0
  refine HC.of_HW (n := 32) Tryd.func16 rfl rfl (Nat.le_of_ble_eq_true rfl) ?_
  refine HW.seq ?_
  refine HW.region ?_
  refine HO.val (v := .bool false) (want_none) rfl (q_assign rfl) ?_
  refine HO.nil (thenQ_normal (?_))
  refine HW.seq ?_
  refine HW.region ?_
  refine HO.call (want_none) rfl (ec en_50 rfl rfl) (law19_four_walk (fr := (fr)) 1 hS hM) ?_
  rintro _ h_1 ⟨F_1, r_2, rfl, hk, hS, hM⟩
  replace hK := hK.trans hk
  refine HO.eff (want_none) rfl (st_lit (enc := e_api_Addr) (cells := #[.bool r_2.1, .int .u8 (b8 r_2.2 0), .int .u8 (b8 r_2.2 1), .int .u8 (b8 r_2.2 2), .int .u8 (b8 r_2.2 3), .int .u8 (b8 r_2.2 4), .int .u8 (b8 r_2.2 5), .int .u8 (b8 r_2.2 6), .int .u8 (b8 r_2.2 7), .int .u8 (b8 r_2.2 8), .int .u8 (b8 r_2.2 9), .int .u8 (b8 r_2.2 10), .int .u8 (b8 r_2.2 11), .int .u8 (b8 r_2.2 12), .int .u8 (b8 r_2.2 13), .int .u8 (b8 r_2.2 14), .int .u8 (b8 r_2.2 15)]) #[.bool false, .int .u8 0, .int .u8 0, .int .u8 0, .int .u8 0, .int .u8 0, .int .u8 0, .int .u8 0, .int .u8 0, .int .u8 0, .int .u8 0, .int .u8 0, .int .u8 0, .int .u8 0, .int .u8 0, .int .u8 0, .int .u8 0] ([r_2] : List T_api_Addr) hS tl_22 (by decide) (by decide) (by kernel_rfl) (by kernel_rfl) rfl (by intro x hx; rfl) rfl) ?_
  rintro _ h_2 ⟨b_1, rfl, hS, hk⟩
  replace hK := hK.trans hk
  refine HO.val (v := .agg #[.bool false, .slice (some ⟨b_1, 0, none⟩) 1 1]) (want_none) rfl (q_build tp_24 rfl) ?_
  refine HO.call (want_none) rfl (ec en_50 rfl rfl) (law19_four_walk (fr := (Ow.own 27 17 e_api_Addr (.slice (some ⟨b_1, 0, none⟩) 1 1) ([r_2] : List T_api_Addr) :: fr)) 1 hS hM) ?_
  rintro _ h_3 ⟨F_2, r_3, rfl, hk, hS, hM⟩
  replace hK := hK.trans hk
  refine HO.call (want_none) rfl (ec en_50 rfl rfl) (law19_four_walk (fr := (Ow.own 27 17 e_api_Addr (.slice (some ⟨b_1, 0, none⟩) 1 1) ([r_2] : List T_api_Addr) :: fr)) 2 hS hM) ?_
  rintro _ h_4 ⟨F_3, r_4, rfl, hk, hS, hM⟩
  replace hK := hK.trans hk
  refine HO.eff (want_none) rfl (st_lit (enc := e_api_Addr) (cells := #[.bool r_3.1, .int .u8 (b8 r_3.2 0), .int .u8 (b8 r_3.2 1), .int .u8 (b8 r_3.2 2), .int .u8 (b8 r_3.2 3), .int .u8 (b8 r_3.2 4), .int .u8 (b8 r_3.2 5), .int .u8 (b8 r_3.2 6), .int .u8 (b8 r_3.2 7), .int .u8 (b8 r_3.2 8), .int .u8 (b8 r_3.2 9), .int .u8 (b8 r_3.2 10), .int .u8 (b8 r_3.2 11), .int .u8 (b8 r_3.2 12), .int .u8 (b8 r_3.2 13), .int .u8 (b8 r_3.2 14), .int .u8 (b8 r_3.2 15), .bool r_4.1, .int .u8 (b8 r_4.2 0), .int .u8 (b8 r_4.2 1), .int .u8 (b8 r_4.2 2), .int .u8 (b8 r_4.2 3), .int .u8 (b8 r_4.2 4), .int .u8 (b8 r_4.2 5), .int .u8 (b8 r_4.2 6), .int .u8 (b8 r_4.2 7), .int .u8 (b8 r_4.2 8), .int .u8 (b8 r_4.2 9), .int .u8 (b8 r_4.2 10), .int .u8 (b8 r_4.2 11), .int .u8 (b8 r_4.2 12), .int .u8 (b8 r_4.2 13), .int .u8 (b8 r_4.2 14), .int .u8 (b8 r_4.2 15)]) #[.bool false, .int .u8 0, .int .u8 0, .int .u8 0, .int .u8 0, .int .u8 0, .int .u8 0, .int .u8 0, .int .u8 0, .int .u8 0, .int .u8 0, .int .u8 0, .int .u8 0, .int .u8 0, .int .u8 0, .int .u8 0, .int .u8 0, .bool false, .int .u8 0, .int .u8 0, .int .u8 0, .int .u8 0, .int .u8 0, .int .u8 0, .int .u8 0, .int .u8 0, .int .u8 0, .int .u8 0, .int .u8 0, .int .u8 0, .int .u8 0, .int .u8 0, .int .u8 0, .int .u8 0] ([r_3, r_4] : List T_api_Addr) hS tl_22 (by decide) (by decide) (by kernel_rfl) (by kernel_rfl) rfl (by intro x hx; rfl) rfl) ?_
  rintro _ h_5 ⟨b_2, rfl, hS, hk⟩
  replace hK := hK.trans hk
  refine HO.val (v := .agg #[.bool true, .slice (some ⟨b_2, 0, none⟩) 2 2]) (want_none) rfl (q_build tp_24 rfl) ?_
  replace hS : St F_3 (Ow.own 27 17 e_api_Addr (.slice (some ⟨b_1, 0, none⟩) 1 1) ([r_2] : List T_api_Addr) :: Ow.own 27 17 e_api_Addr (.slice (some ⟨b_2, 0, none⟩) 2 2) ([r_3, r_4] : List T_api_Addr) :: fr) h_5 := hS.perm2 [1, 0] 2 rfl rfl
  obtain ⟨F_4, hS, hk, hL_1⟩ := hS.freezeOwn
  replace hK := hK.trans hk
  obtain ⟨F_5, hS, hk, hL_2⟩ := hS.freezeOwn
  replace hK := hK.trans hk
  replace hL_1 := hL_1.kp hk
  replace hM := hM b_1
  replace hM := hM b_2
  refine HO.eff (want_none) rfl (st_lit (enc := e_api_Filter) (cells := #[.bool false, .slice (some ⟨b_1, 0, none⟩) 1 1, .bool true, .slice (some ⟨b_2, 0, none⟩) 2 2]) #[.bool false, .slice none 0 0, .bool false, .slice none 0 0] ([(false, (.slice (some ⟨b_1, 0, none⟩) 1 1, ([r_2] : List T_api_Addr))), (true, (.slice (some ⟨b_2, 0, none⟩) 2 2, ([r_3, r_4] : List T_api_Addr)))] : List T_api_Filter) hS tl_45 (by decide) (by decide) (by kernel_rfl) (by kernel_rfl) rfl (by intro x hx; rfl) rfl) ?_
  rintro _ h_6 ⟨b_3, rfl, hS, hk⟩
  replace hK := hK.trans hk
  replace hL_1 := hL_1.kp hk
  replace hL_2 := hL_2.kp hk
  have hN_1 : NfL nf_api_Filter F_5 h_6 ([(false, (.slice (some ⟨b_1, 0, none⟩) 1 1, ([r_2] : List T_api_Addr))), (true, (.slice (some ⟨b_2, 0, none⟩) 2 2, ([r_3, r_4] : List T_api_Addr)))] : List T_api_Filter) := (NfL.cons (nfm_api_Filter (false, (.slice (some ⟨b_1, 0, none⟩) 1 1, ([r_2] : List T_api_Addr))) hL_1) (NfL.cons (nfm_api_Filter (true, (.slice (some ⟨b_2, 0, none⟩) 2 2, ([r_3, r_4] : List T_api_Addr))) hL_2) (NfL.nil _ _ _)))
  have hZ_1 := hS
  have hkz_1 := (hS.freeze).2
  replace hS := hS.freeze.1
  have hL_3 : SliceF (fun b => F_5 b ∨ (Ow.own 24 2 e_api_Filter (.slice (some ⟨b_3, 0, none⟩) 2 2) ([(false, (.slice (some ⟨b_1, 0, none⟩) 1 1, ([r_2] : List T_api_Addr))), (true, (.slice (some ⟨b_2, 0, none⟩) 2 2, ([r_3, r_4] : List T_api_Addr)))] : List T_api_Filter)).foot b) h_6 2 e_api_Filter (.slice (some ⟨b_3, 0, none⟩) 2 2) ([(false, (.slice (some ⟨b_1, 0, none⟩) 1 1, ([r_2] : List T_api_Addr))), (true, (.slice (some ⟨b_2, 0, none⟩) 2 2, ([r_3, r_4] : List T_api_Addr)))] : List T_api_Filter) := ⟨(hZ_1.own 0 rfl).slice, fun _ b hb => .inr hb⟩
  refine HO.call (want_none) rfl (ec en_17 rfl rfl) (merge_All_walk (fr := (fr)) ([(false, (.slice (some ⟨b_1, 0, none⟩) 1 1, ([r_2] : List T_api_Addr))), (true, (.slice (some ⟨b_2, 0, none⟩) 2 2, ([r_3, r_4] : List T_api_Addr)))] : List T_api_Filter) (.slice (some ⟨b_3, 0, none⟩) 2 2) hS (NfL.kp hN_1 hkz_1) hL_3 hM) ?_
  rintro _ h_7 ⟨F_6, r_0_1, r_1_1, vr_1_1, rfl, hk, hS, _, _, hM⟩
  obtain ⟨hS, hk⟩ := hZ_1.back hk hS
  generalize (fun b => F_6 b ∧ ¬ (Ow.own 24 2 e_api_Filter (.slice (some ⟨b_3, 0, none⟩) 2 2) ([(false, (.slice (some ⟨b_1, 0, none⟩) 1 1, ([r_2] : List T_api_Addr))), (true, (.slice (some ⟨b_2, 0, none⟩) 2 2, ([r_3, r_4] : List T_api_Addr)))] : List T_api_Filter)).foot b) = F_7 at hS hk
  replace hK := hK.trans hk
  replace hL_1 := hL_1.kp hk
  replace hL_2 := hL_2.kp hk
  replace hN_1 := hN_1.kp hk
  refine HO.eff (want_none) rfl (st_alloc (c := #[.bool false, .slice none 0 0]) hS tz_24 rfl) ?_
  rintro _ h_8 ⟨b_4, rfl, hS, hk⟩
  replace hK := hK.trans hk
  replace hL_1 := hL_1.kp hk
  replace hL_2 := hL_2.kp hk
  replace hN_1 := hN_1.kp hk
  refine HO.sto (want_none) rfl (st_storeAgg (c' := #[.bool r_0_1, vr_1_1]) hS (i := 0) rfl ta_24 rfl rfl rfl (List.forall_mem_cons.2 ⟨rfl, (List.forall_mem_cons.2 ⟨(shp (hS.own 2 rfl).slice).one, (fun _ h => by cases h)⟩)⟩) (Nat.le_of_ble_eq_true rfl) rfl) ?_
  rintro h_9 ⟨hS, hk⟩
  replace hS : St F_7 (Ow.box b_4 24 #[.bool r_0_1, vr_1_1] :: Ow.own 24 2 e_api_Filter (.slice (some ⟨b_3, 0, none⟩) 2 2) ([(false, (.slice (some ⟨b_1, 0, none⟩) 1 1, ([r_2] : List T_api_Addr))), (true, (.slice (some ⟨b_2, 0, none⟩) 2 2, ([r_3, r_4] : List T_api_Addr)))] : List T_api_Filter) :: Ow.own 27 17 e_api_Addr vr_1_1 r_1_1 :: fr) h_9 := hS
  replace hK := hK.trans hk
  replace hL_1 := hL_1.kp hk
  replace hL_2 := hL_2.kp hk
  replace hN_1 := hN_1.kp hk
  refine HO.nil (thenQ_normal (?_))
  refine HW.seq ?_
  refine HW.regionA 22 mixed (fun h => (Blk h b_4 (.cells #[.bool r_0_1, vr_1_1] 24 (0, 0))) ∧ (OwnIs h 0 27 17 e_api_Addr vr_1_1 r_1_1)) [] (by kernel_rfl) ?_
  refine HA.val (k := 0) (v := .pointer (some ⟨b_4, 0, none⟩)) rfl rfl (by kernel_rfl) (by kernel_rfl) (want_none) rfl (fun _ ⟨c205, c204⟩ => q_fieldAddr fa_24_0 rfl rfl) ?_
  refine HA.val (k := 1) (v := .bool r_0_1) rfl rfl (by kernel_rfl) (by kernel_rfl) (want_none) rfl (fun _ ⟨c205, c204⟩ => q_load to_4 rfl (Blk.cell c205 rfl)) ?_
  refine HA.val (k := 2) (v := .bool r_0_1) rfl rfl (by kernel_rfl) (by kernel_rfl) (want_none) rfl (fun _ ⟨c205, c204⟩ => q_move rfl) ?_
  rcases Bool.eq_false_or_eq_true r_0_1 with c_1 | c_1
  · replace hM := hM.1 c_1
    refine HA.val (k := 3) (v := .pointer (some ⟨b_4, 1, none⟩)) rfl rfl (by kernel_rfl) (by kernel_rfl) (want_by rfl rfl c_1) rfl (fun _ ⟨c205, c204⟩ => q_fieldAddr fa_24_1 rfl rfl) ?_
    refine HA.val (k := 4) (v := vr_1_1) rfl rfl (by kernel_rfl) (by kernel_rfl) (want_by rfl rfl c_1) rfl (fun _ ⟨c205, c204⟩ => q_load to_22 rfl (Blk.cell c205 rfl)) ?_
    refine HA.val (k := 5) (v := .int .i64 (r_1_1.length : Int)) rfl rfl (by kernel_rfl) (by kernel_rfl) (want_by rfl rfl c_1) rfl (fun _ ⟨c205, c204⟩ => q_len ts_22 (shp c204.slice) rfl rfl) ?_
    refine HA.val (k := 6) (v := .bool (decide ((r_1_1.length : Int) = 1))) rfl rfl (by kernel_rfl) (by kernel_rfl) (want_by rfl rfl c_1) rfl (fun _ ⟨c205, c204⟩ => q_eql rfl rfl) ?_
    refine HA.val (k := 7) (v := .bool (decide ((r_1_1.length : Int) = 1))) rfl rfl (by kernel_rfl) (by kernel_rfl) (want_none) rfl (fun _ ⟨c205, c204⟩ => q_pickK true rfl c_1 rfl) ?_
    refine HA.val (k := 8) (v := .bool (decide ((r_1_1.length : Int) = 1))) rfl rfl (by kernel_rfl) (by kernel_rfl) (want_none) rfl (fun _ ⟨c205, c204⟩ => q_move rfl) ?_
    rcases Bool.eq_false_or_eq_true (decide ((r_1_1.length : Int) = 1)) with c_2 | c_2
    · replace hM := hM.1 (of_decide_eq_true c_2)
      refine HA.val (k := 9) (v := .pointer (some ⟨b_4, 1, none⟩)) rfl rfl (by kernel_rfl) (by kernel_rfl) (want_by rfl rfl c_2) rfl (fun _ ⟨c205, c204⟩ => q_fieldAddr fa_24_1 rfl rfl) ?_
      refine HA.val (k := 10) (v := vr_1_1) rfl rfl (by kernel_rfl) (by kernel_rfl) (want_by rfl rfl c_2) rfl (fun _ ⟨c205, c204⟩ => q_load to_22 rfl (Blk.cell c205 rfl)) ?_
      obtain ⟨ho_1, hM⟩ := hM
      refine HA.val (k := 11) (v := elemPtr 17 vr_1_1 (0 : Int).toNat) rfl rfl (by kernel_rfl) (by kernel_rfl) (want_by rfl rfl c_2) rfl (fun _ ⟨c205, c204⟩ => q_idx ts_22 c204.slice rfl rfl ho_1) ?_
      refine HA.val (k := 12) (v := .agg (e_api_Addr (gi r_1_1 0)).toArray) rfl rfl (by kernel_rfl) (by kernel_rfl) (want_by rfl rfl c_2) rfl (fun _ ⟨c205, c204⟩ => q_ldElemAgg (cs := (e_api_Addr (gi r_1_1 0))) ta_27 c204.slice rfl ho_1 rfl) ?_
      refine HA.one (k := 13) ⟨⟨(hS.box 0 rfl), (hS.own 2 rfl)⟩, (Go.Wk.at_nil _ _)⟩ (by kernel_rfl) ?_
      refine HS.call rfl (want_by rfl rfl c_2) rfl (ec en_50 rfl rfl) (law19_four_walk (fr := (Ow.box b_4 24 #[.bool r_0_1, vr_1_1] :: Ow.own 24 2 e_api_Filter (.slice (some ⟨b_3, 0, none⟩) 2 2) ([(false, (.slice (some ⟨b_1, 0, none⟩) 1 1, ([r_2] : List T_api_Addr))), (true, (.slice (some ⟨b_2, 0, none⟩) 2 2, ([r_3, r_4] : List T_api_Addr)))] : List T_api_Filter) :: Ow.own 27 17 e_api_Addr vr_1_1 r_1_1 :: fr)) 2 hS hM) ?_
      rintro _ h_10 ⟨F_8, r_5, rfl, hk, hS, hM⟩
      replace hK := hK.trans hk
      replace hL_1 := hL_1.kp hk
      replace hL_2 := hL_2.kp hk
      replace hN_1 := hN_1.kp hk
      refine HA.val (k := 14) (v := .bool (decide (((gi r_1_1 0) : T_api_Addr) = r_5))) rfl rfl (by kernel_rfl) (by kernel_rfl) (want_by rfl rfl c_2) rfl (fun _ ⟨c205, c204⟩ => q_eqlAgg (a := (gi r_1_1 0)) (b := r_5) (fun a b w => teq_27 9997 a b w) (by kernel_rfl) rfl rfl rfl rfl) ?_
      refine HA.val (k := 15) (v := .bool (decide (((gi r_1_1 0) : T_api_Addr) = r_5))) rfl rfl (by kernel_rfl) (by kernel_rfl) (want_none) rfl (fun _ ⟨c205, c204⟩ => q_pickK true rfl c_2 rfl) ?_
      refine HA.val (k := 16) (v := .bool (decide (((gi r_1_1 0) : T_api_Addr) = r_5))) rfl rfl (by kernel_rfl) (by kernel_rfl) (want_none) rfl (fun _ ⟨c205, c204⟩ => q_move rfl) ?_
      rcases Bool.eq_false_or_eq_true (decide (((gi r_1_1 0) : T_api_Addr) = r_5)) with c_3 | c_3
      · replace hM := hM.1 (of_decide_eq_true c_3)
        refine HA.val (k := 17) (v := .agg #[.bool r_0_1, vr_1_1]) rfl rfl (by kernel_rfl) (by kernel_rfl) (want_by rfl rfl c_3) rfl (fun _ ⟨c205, c204⟩ => q_loadAgg (cs := [.bool r_0_1, vr_1_1]) ta_24 rfl rfl (Blk.cells (k := 2) c205 rfl)) ?_
        refine HA.one (k := 18) ⟨⟨(hS.box 0 rfl), (hS.own 2 rfl)⟩, (Go.Wk.at_nil _ _)⟩ (by kernel_rfl) ?_
        replace hS : St F_8 (Ow.own 27 17 e_api_Addr vr_1_1 r_1_1 :: Ow.box b_4 24 #[.bool r_0_1, vr_1_1] :: Ow.own 24 2 e_api_Filter (.slice (some ⟨b_3, 0, none⟩) 2 2) ([(false, (.slice (some ⟨b_1, 0, none⟩) 1 1, ([r_2] : List T_api_Addr))), (true, (.slice (some ⟨b_2, 0, none⟩) 2 2, ([r_3, r_4] : List T_api_Addr)))] : List T_api_Filter) :: fr) h_10 := hS.perm2 [2, 0, 1] 3 rfl rfl
        have hZ_2 := hS
        have hkz_2 := (hS.freeze).2
        replace hS := hS.freeze.1
        have hL_4 : SliceF (fun b => F_8 b ∨ (Ow.own 27 17 e_api_Addr vr_1_1 r_1_1).foot b) h_10 17 e_api_Addr vr_1_1 r_1_1 := ⟨(hZ_2.own 0 rfl).slice, fun _ b hb => .inr hb⟩
        refine HS.call rfl (want_by rfl rfl c_3) rfl (ec en_51 rfl rfl) (merge_Print_walk (fr := (Ow.box b_4 24 #[.bool r_0_1, vr_1_1] :: Ow.own 24 2 e_api_Filter (.slice (some ⟨b_3, 0, none⟩) 2 2) ([(false, (.slice (some ⟨b_1, 0, none⟩) 1 1, ([r_2] : List T_api_Addr))), (true, (.slice (some ⟨b_2, 0, none⟩) 2 2, ([r_3, r_4] : List T_api_Addr)))] : List T_api_Filter) :: fr)) r_0_1 r_1_1 vr_1_1 hS hL_4 hD hM) ?_
        rintro _ h_11 ⟨F_9, r_6, rfl, hk, hS, _, hM⟩
        obtain ⟨hS, hk⟩ := hZ_2.back hk hS
        generalize (fun b => F_9 b ∧ ¬ (Ow.own 27 17 e_api_Addr vr_1_1 r_1_1).foot b) = F_10 at hS hk
        replace hK := hK.trans hk
        replace hL_1 := hL_1.kp hk
        replace hL_2 := hL_2.kp hk
        replace hN_1 := hN_1.kp hk
        refine HA.val (k := 19) (v := .bool (decide ((r_6 : Str) = [101, 120, 32, 49, 48, 46, 48, 46, 48, 46, 50]))) rfl rfl (by kernel_rfl) (by kernel_rfl) (want_by rfl rfl c_3) rfl (fun _ ⟨c205, c204⟩ => q_eqlT rfl rfl) ?_
        refine HA.val (k := 20) (v := .bool (decide ((r_6 : Str) = [101, 120, 32, 49, 48, 46, 48, 46, 48, 46, 50]))) rfl rfl (by kernel_rfl) (by kernel_rfl) (want_none) rfl (fun _ ⟨c205, c204⟩ => q_pickK true rfl c_3 rfl) ?_
        refine HA.val (k := 21) (v := .bool (decide ((r_6 : Str) = [101, 120, 32, 49, 48, 46, 48, 46, 48, 46, 50]))) rfl rfl (by kernel_rfl) (by kernel_rfl) (want_none) rfl (fun _ ⟨c205, c204⟩ => q_assign rfl) ?_
        refine HA.nil ⟨⟨(hS.box 1 rfl), (hS.own 0 rfl)⟩, (Go.Wk.at_nil _ _)⟩ (by kernel_rfl) (thenQ_normal (?_))
        refine HW.ret (?_)
        refine ⟨.inr rfl, .bool (decide ((r_6 : Str) = [101, 120, 32, 49, 48, 46, 48, 46, 48, 46, 50])), res1 rfl (rt rfl), ?_⟩
        replace hS : St F_10 (fr) h_11 := hS.perm2 [] 3 rfl rfl
        exact ⟨F_10, decide ((r_6 : Str) = [101, 120, 32, 49, 48, 46, 48, 46, 48, 46, 50]), rfl, hK, hS, hM⟩
      · replace hM := hM.2 (of_decide_eq_false c_3)
        refine HA.past (k := 17) rfl rfl (by kernel_rfl) (by kernel_rfl) (past_by rfl rfl c_3) rfl ?_
        refine HA.one (k := 18) ⟨⟨(hS.box 0 rfl), (hS.own 2 rfl)⟩, (Go.Wk.at_nil _ _)⟩ (by kernel_rfl) ?_
        refine HS.past rfl (past_by rfl rfl c_3) rfl ?_
        refine HA.past (k := 19) rfl rfl (by kernel_rfl) (by kernel_rfl) (past_by rfl rfl c_3) rfl ?_
        refine HA.val (k := 20) (v := .bool false) rfl rfl (by kernel_rfl) (by kernel_rfl) (want_none) rfl (fun _ ⟨c205, c204⟩ => q_pickK false rfl c_3 rfl) ?_
        refine HA.val (k := 21) (v := .bool false) rfl rfl (by kernel_rfl) (by kernel_rfl) (want_none) rfl (fun _ ⟨c205, c204⟩ => q_assign rfl) ?_
        refine HA.nil ⟨⟨(hS.box 0 rfl), (hS.own 2 rfl)⟩, (Go.Wk.at_nil _ _)⟩ (by kernel_rfl) (thenQ_normal (?_))
        refine HW.ret (?_)
        refine ⟨.inr rfl, .bool false, res1 rfl (rt rfl), ?_⟩
        replace hS : St F_8 (fr) h_10 := hS.perm2 [] 3 rfl rfl
        exact ⟨F_8, false, rfl, hK, hS, hM⟩
    · replace hM := hM.2 (of_decide_eq_false c_2)
      refine HA.past (k := 9) rfl rfl (by kernel_rfl) (by kernel_rfl) (past_by rfl rfl c_2) rfl ?_
      refine HA.past (k := 10) rfl rfl (by kernel_rfl) (by kernel_rfl) (past_by rfl rfl c_2) rfl ?_
      refine HA.past (k := 11) rfl rfl (by kernel_rfl) (by kernel_rfl) (past_by rfl rfl c_2) rfl ?_
      refine HA.past (k := 12) rfl rfl (by kernel_rfl) (by kernel_rfl) (past_by rfl rfl c_2) rfl ?_
      refine HA.one (k := 13) ⟨⟨(hS.box 0 rfl), (hS.own 2 rfl)⟩, (Go.Wk.at_nil _ _)⟩ (by kernel_rfl) ?_
      refine HS.past rfl (past_by rfl rfl c_2) rfl ?_
      refine HA.past (k := 14) rfl rfl (by kernel_rfl) (by kernel_rfl) (past_by rfl rfl c_2) rfl ?_
      refine HA.val (k := 15) (v := .bool false) rfl rfl (by kernel_rfl) (by kernel_rfl) (want_none) rfl (fun _ ⟨c205, c204⟩ => q_pickK false rfl c_2 rfl) ?_
      refine HA.val (k := 16) (v := .bool false) rfl rfl (by kernel_rfl) (by kernel_rfl) (want_none) rfl (fun _ ⟨c205, c204⟩ => q_move rfl) ?_
      refine HA.past (k := 17) rfl rfl (by kernel_rfl) (by kernel_rfl) (past_some rfl rfl) rfl ?_
      refine HA.one (k := 18) ⟨⟨(hS.box 0 rfl), (hS.own 2 rfl)⟩, (Go.Wk.at_nil _ _)⟩ (by kernel_rfl) ?_
      refine HS.past rfl (past_some rfl rfl) rfl ?_
      refine HA.past (k := 19) rfl rfl (by kernel_rfl) (by kernel_rfl) (past_some rfl rfl) rfl ?_
      refine HA.val (k := 20) (v := .bool false) rfl rfl (by kernel_rfl) (by kernel_rfl) (want_none) rfl (fun _ ⟨c205, c204⟩ => q_pick rfl rfl) ?_
      refine HA.val (k := 21) (v := .bool false) rfl rfl (by kernel_rfl) (by kernel_rfl) (want_none) rfl (fun _ ⟨c205, c204⟩ => q_assign rfl) ?_
      refine HA.nil ⟨⟨(hS.box 0 rfl), (hS.own 2 rfl)⟩, (Go.Wk.at_nil _ _)⟩ (by kernel_rfl) (thenQ_normal (?_))
      refine HW.ret (?_)
      refine ⟨.inr rfl, .bool false, res1 rfl (rt rfl), ?_⟩
      replace hS : St F_7 (fr) h_9 := hS.perm2 [] 3 rfl rfl
      exact ⟨F_7, false, rfl, hK, hS, hM⟩
  · replace hM := hM.2 c_1
    refine HA.past (k := 3) rfl rfl (by kernel_rfl) (by kernel_rfl) (past_by rfl rfl c_1) rfl ?_
    refine HA.past (k := 4) rfl rfl (by kernel_rfl) (by kernel_rfl) (past_by rfl rfl c_1) rfl ?_
    refine HA.past (k := 5) rfl rfl (by kernel_rfl) (by kernel_rfl) (past_by rfl rfl c_1) rfl ?_
    refine HA.past (k := 6) rfl rfl (by kernel_rfl) (by kernel_rfl) (past_by rfl rfl c_1) rfl ?_
    refine HA.val (k := 7) (v := .bool false) rfl rfl (by kernel_rfl) (by kernel_rfl) (want_none) rfl (fun _ ⟨c205, c204⟩ => q_pickK false rfl c_1 rfl) ?_
    refine HA.val (k := 8) (v := .bool false) rfl rfl (by kernel_rfl) (by kernel_rfl) (want_none) rfl (fun _ ⟨c205, c204⟩ => q_move rfl) ?_
    refine HA.past (k := 9) rfl rfl (by kernel_rfl) (by kernel_rfl) (past_some rfl rfl) rfl ?_
    refine HA.past (k := 10) rfl rfl (by kernel_rfl) (by kernel_rfl) (past_some rfl rfl) rfl ?_
    refine HA.past (k := 11) rfl rfl (by kernel_rfl) (by kernel_rfl) (past_some rfl rfl) rfl ?_
    refine HA.past (k := 12) rfl rfl (by kernel_rfl) (by kernel_rfl) (past_some rfl rfl) rfl ?_
    refine HA.one (k := 13) ⟨⟨(hS.box 0 rfl), (hS.own 2 rfl)⟩, (Go.Wk.at_nil _ _)⟩ (by kernel_rfl) ?_
    refine HS.past rfl (past_some rfl rfl) rfl ?_
    refine HA.past (k := 14) rfl rfl (by kernel_rfl) (by kernel_rfl) (past_some rfl rfl) rfl ?_
    refine HA.val (k := 15) (v := .bool false) rfl rfl (by kernel_rfl) (by kernel_rfl) (want_none) rfl (fun _ ⟨c205, c204⟩ => q_pick rfl rfl) ?_
    refine HA.val (k := 16) (v := .bool false) rfl rfl (by kernel_rfl) (by kernel_rfl) (want_none) rfl (fun _ ⟨c205, c204⟩ => q_move rfl) ?_
    refine HA.past (k := 17) rfl rfl (by kernel_rfl) (by kernel_rfl) (past_some rfl rfl) rfl ?_
    refine HA.one (k := 18) ⟨⟨(hS.box 0 rfl), (hS.own 2 rfl)⟩, (Go.Wk.at_nil _ _)⟩ (by kernel_rfl) ?_
    refine HS.past rfl (past_some rfl rfl) rfl ?_
    refine HA.past (k := 19) rfl rfl (by kernel_rfl) (by kernel_rfl) (past_some rfl rfl) rfl ?_
    refine HA.val (k := 20) (v := .bool false) rfl rfl (by kernel_rfl) (by kernel_rfl) (want_none) rfl (fun _ ⟨c205, c204⟩ => q_pick rfl rfl) ?_
    refine HA.val (k := 21) (v := .bool false) rfl rfl (by kernel_rfl) (by kernel_rfl) (want_none) rfl (fun _ ⟨c205, c204⟩ => q_assign rfl) ?_
    refine HA.nil ⟨⟨(hS.box 0 rfl), (hS.own 2 rfl)⟩, (Go.Wk.at_nil _ _)⟩ (by kernel_rfl) (thenQ_normal (?_))
    refine HW.ret (?_)
    refine ⟨.inr rfl, .bool false, res1 rfl (rt rfl), ?_⟩
    replace hS : St F_7 (fr) h_9 := hS.perm2 [] 3 rfl rfl
    exact ⟨F_7, false, rfl, hK, hS, hM⟩
end Go.Wk
