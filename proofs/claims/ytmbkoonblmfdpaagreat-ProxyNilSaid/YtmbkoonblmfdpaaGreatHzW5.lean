/- Walks of Host and Proxy. -/
import Derived.Test.YtmbkoonblmfdpaaGreatHzW4
set_option linter.unusedSimpArgs false
set_option linter.unusedVariables false
set_option linter.unusedSectionVars false
set_option maxHeartbeats 40000000
set_option maxRecDepth 100000
namespace Go.Wk
open Go.HL
open Go.Proofs hiding encI
variable [DM]
def ref11_Has_l1 (l : List T_api_Addr) (a : T_api_Addr) (Q : Bool → Prop) (K_1 : Int → Prop) (i_1 : Int) : Prop :=
 (i_1 < (l.length : Int) → ((0 : Int) ≤ i_1 ∧ i_1 < (l.length : Int)) ∧ ((((gi l i_1) : T_api_Addr) = a → Q true) ∧ (¬ (((gi l i_1) : T_api_Addr) = a) → (I64 (i_1 + 1)) ∧ (K_1 (i_1 + 1))))) ∧ (¬ (i_1 < (l.length : Int)) → Q false)
def ref11_Has_W (l : List T_api_Addr) (a : T_api_Addr) (Q : Bool → Prop) : Prop :=
 loopW (fun (K_1 : Int → Prop) (s : Int) => ref11_Has_l1 l a Q K_1 s) 0
theorem ref11_Has_walk {F : Fz} {fr : List Ow} {h0 : Heap} (l : List T_api_Addr) (a : T_api_Addr) (vl : Value) (hS : St F (fr) h0) (hL_l : SliceF F h0 17 e_api_Addr vl l) {Q : Bool → Prop} (hM : ref11_Has_W l a Q) :
  HC Tryz.prog 75 #[vl, .agg (e_api_Addr a).toArray] h0 fun u h' => ∃ (F' : Fz) (r_1 : Bool), u = .bool r_1 ∧ Kp F h0 F' h' ∧ St F' (fr) h' ∧ (SliceF F' h' 17 e_api_Addr vl l) ∧ Q r_1 := by
 unfold ref11_Has_W at hM
 have hK := Kp.refl F h0
 refine HC.of_HW (n := 18) Tryz.func75 rfl rfl (Nat.le_of_ble_eq_true rfl) ?_
 refine HW.seq ?_
 refine HW.region ?_
 refine HO.eff (want_none) rfl (st_box (c := (e_api_Addr a).toArray) (k' := 17) hS rfl rfl) ?_
 rintro _ h_1 ⟨b_1, rfl, hS, hk⟩
 replace hK := hK.trans hk
 replace hL_l := hL_l.kp hk
 refine oA (.bool false) rfl rfl ?_
 refine HO.nil (thenQ_normal (?_))
 refine HW.seq ?_
 refine HW.seq ?_
 refine HW.region ?_
 refine oA (.int .i64 0) rfl rfl ?_
 refine HO.nil (thenQ_normal (?_))
 refine HW.block ?_
 obtain ⟨I_1, m_1, hI_1, hR_1⟩ := hM
 refine HW.loop (S := Int) (fun i_1 f h => ∃ (F' : Fz), f 0 = vl ∧ f 3 = .pointer (some ⟨b_1, 0, none⟩) ∧ f 4 = .bool false ∧ f 5 = .int .i64 i_1 ∧ Kp F h0 F' h ∧ St F' (Ow.box b_1 28 (e_api_Addr a).toArray :: fr) h ∧ (SliceF F' h 17 e_api_Addr vl l) ∧ I_1 i_1) m_1 0 ⟨F, rfl, rfl, rfl, rfl, hK, hS, hL_l, hI_1⟩ ?_
 rintro i_1 f_1 h_2 ⟨F_1, e0, e3, e4, e5, hK, hS, hL_l, hI0⟩
 obtain ⟨K_1, hKe_1⟩ : ∃ K : Int → Prop, K = fun i_1' => I_1 i_1' ∧ m_1 i_1' < m_1 i_1 := ⟨_, rfl⟩
 have hM : ref11_Has_l1 l a Q K_1 i_1 := by rw [hKe_1]; exact hR_1 i_1 hI0
 unfold ref11_Has_l1 at hM
 refine HW.fr [(0, vl), (3, .pointer (some ⟨b_1, 0, none⟩)), (4, .bool false), (5, .int .i64 i_1)] ⟨e0, e3, e4, e5, trivial⟩ ?_
 refine HW.seq ?_
 refine HW.seq ?_
 refine HW.region ?_
 refine oM (.int .i64 i_1) rfl rfl ?_
 refine oM (vl) rfl rfl ?_
 refine oV (.int .i64 (l.length : Int)) (q_len ts_29 (shp hL_l.is) rfl rfl) rfl ?_
 refine oV (.bool (decide (i_1 < (l.length : Int)))) (q_lss rfl rfl) rfl ?_
 refine HO.nil (thenQ_normal (?_))
 refine HW.cond (decide (i_1 < (l.length : Int))) rfl (fun c_1 => ?_) (fun c_1 => ?_)
 ·
  replace hM := hM.1 (of_decide_eq_true c_1)
  refine HW.skip (thenQ_normal (?_))
  refine HW.seq ?_
  refine HW.block ?_
  refine HW.seq ?_
  refine HW.regionA 6 mixed (fun h => (SliceIs h 17 e_api_Addr vl l) ∧ (Blk h b_1 (.cells (e_api_Addr a).toArray 28 (0, 0)))) [] (by kernel_rfl) ?_
  refine HA.val (k := 0) (v := vl) rfl rfl (by kernel_rfl) (by kernel_rfl) (want_none) rfl (fun _ ⟨hL_l, c302⟩ => q_move rfl) ?_
  refine HA.val (k := 1) (v := .int .i64 i_1) rfl rfl (by kernel_rfl) (by kernel_rfl) (want_none) rfl (fun _ ⟨hL_l, c302⟩ => q_move rfl) ?_
  obtain ⟨ho_1, hM⟩ := hM
  refine HA.val (k := 2) (v := elemPtr 17 vl (i_1).toNat) rfl rfl (by kernel_rfl) (by kernel_rfl) (want_none) rfl (fun _ ⟨hL_l, c302⟩ => q_idx ts_29 hL_l rfl rfl ho_1) ?_
  refine HA.val (k := 3) (v := .agg (e_api_Addr (gi l i_1)).toArray) rfl rfl (by kernel_rfl) (by kernel_rfl) (want_none) rfl (fun _ ⟨hL_l, c302⟩ => q_ldElemAgg (cs := (e_api_Addr (gi l i_1))) ta_28 hL_l rfl ho_1 rfl) ?_
  refine HA.val (k := 4) (v := .agg (e_api_Addr a).toArray) rfl rfl (by kernel_rfl) (by kernel_rfl) (want_none) rfl (fun _ ⟨hL_l, c302⟩ => q_loadAgg (cs := (e_api_Addr a)) ta_28 rfl rfl (Blk.cells (k := 17) c302 rfl)) ?_
  refine HA.val (k := 5) (v := .bool (decide (((gi l i_1) : T_api_Addr) = a))) rfl rfl (by kernel_rfl) (by kernel_rfl) (want_none) rfl (fun _ ⟨hL_l, c302⟩ => q_eqlAgg (a := (gi l i_1)) (b := a) (fun a b w => teq_28 9997 a b w) (by kernel_rfl) rfl rfl rfl rfl) ?_
  refine HA.nil ⟨⟨hL_l.is, (hS.box 0 rfl)⟩, (Go.Wk.at_nil _ _)⟩ (by kernel_rfl) (thenQ_normal (?_))
  refine HW.cond (decide (((gi l i_1) : T_api_Addr) = a)) rfl (fun c_2 => ?_) (fun c_2 => ?_)
  ·
   replace hM := hM.1 (of_decide_eq_true c_2)
   refine HW.seq ?_
   refine HW.region ?_
   refine oA (.bool true) rfl rfl ?_
   refine HO.nil (thenQ_normal (?_))
   refine HW.ret (blockQ_ret (thenQ_ret (thenQ_ret (blockQ_ret (thenQ_ret (?_))))))
   refine ⟨.inr rfl, .bool true, res1 rfl (rt rfl), ?_⟩
   replace hS : St F_1 (fr) h_2 := hS.perm2 [] 1 rfl rfl
   exact ⟨F_1, true, rfl, hK, hS, hL_l, hM⟩
  ·
   replace hM := hM.2 (of_decide_eq_false c_2)
   refine HW.skip (blockQ_normal (thenQ_normal (?_)))
   refine HW.region ?_
   refine oM (.int .i64 i_1) rfl rfl ?_
   obtain ⟨ho_2, hM⟩ := hM
   refine oV (.int .i64 (i_1 + 1)) (q_addN _ rfl rfl rfl ho_2.1 ho_2.2) rfl ?_
   refine oA (.int .i64 (i_1 + 1)) rfl rfl ?_
   refine HO.nil (thenQ_normal (?_))
   rw [hKe_1] at hM
   exact ⟨i_1 + 1, ⟨F_1, rfl, rfl, rfl, rfl, hK, hS, hL_l, hM.1⟩, hM.2⟩
 ·
  replace hM := hM.2 (of_decide_eq_false c_1)
  refine HW.exit (thenQ_exit (thenQ_exit (blockQ_exit (thenQ_normal (?_)))))
  refine HW.seq ?_
  refine HW.region ?_
  refine oA (.bool false) rfl rfl ?_
  refine HO.nil (thenQ_normal (?_))
  refine HW.ret (?_)
  refine ⟨.inr rfl, .bool false, res1 rfl (rt rfl), ?_⟩
  replace hS : St F_1 (fr) h_2 := hS.perm2 [] 1 rfl rfl
  exact ⟨F_1, false, rfl, hK, hS, hL_l, hM⟩
def ref03_Cmp_j1 (a : T_api_Addr) (b : T_api_Addr) (Q : Int → Prop) (i_1 : Int) (K_1 : Int → Prop) : Prop :=
 ((0 : Int) ≤ i_1 ∧ i_1 < 16) ∧ (((b8 a.2 i_1) < (b8 b.2 i_1) → Q (-1)) ∧ (¬ ((b8 a.2 i_1) < (b8 b.2 i_1)) → ((b8 b.2 i_1) < (b8 a.2 i_1) → Q 1) ∧ (¬ ((b8 b.2 i_1) < (b8 a.2 i_1)) → (I64 (i_1 + 1)) ∧ (K_1 (i_1 + 1)))))
def ref03_Cmp_l1 (a : T_api_Addr) (b : T_api_Addr) (Q : Int → Prop) (K_1 : Int → Prop) (i_1 : Int) : Prop :=
 (i_1 < 16 → (a.1 = true → ref03_Cmp_j1 a b Q i_1 K_1) ∧ (a.1 = false → (i_1 < 4 → ref03_Cmp_j1 a b Q i_1 K_1) ∧ (¬ (i_1 < 4) → Q 0))) ∧ (¬ (i_1 < 16) → Q 0)
def ref03_Cmp_W (a : T_api_Addr) (b : T_api_Addr) (Q : Int → Prop) : Prop :=
 ((!(a.1 == b.1)) = true → (b.1 = true → Q (-1)) ∧ (b.1 = false → Q 1)) ∧ ((!(a.1 == b.1)) = false → loopW (fun (K_1 : Int → Prop) (s : Int) => ref03_Cmp_l1 a b Q K_1 s) 0)
theorem ref03_Cmp_walk {F : Fz} {fr : List Ow} {h0 : Heap} (a : T_api_Addr) (b : T_api_Addr) (hS : St F (fr) h0)  {Q : Int → Prop} (hM : ref03_Cmp_W a b Q) :
  HC Tryz.prog 80 #[.agg (e_api_Addr a).toArray, .agg (e_api_Addr b).toArray] h0 fun u h' => ∃ (F' : Fz) (r_1 : Int), u = .int .i64 r_1 ∧ Kp F h0 F' h' ∧ St F' (fr) h' ∧ Q r_1 := by
 unfold ref03_Cmp_W at hM
 have hK := Kp.refl F h0
 refine HC.of_HW (n := 43) Tryz.func80 rfl rfl (Nat.le_of_ble_eq_true rfl) ?_
 refine HW.seq ?_
 refine HW.region ?_
 refine HO.eff (want_none) rfl (st_box (c := (e_api_Addr a).toArray) (k' := 17) hS rfl rfl) ?_
 rintro _ h_1 ⟨b_1, rfl, hS, hk⟩
 replace hK := hK.trans hk
 refine HO.eff (want_none) rfl (st_box (c := (e_api_Addr b).toArray) (k' := 17) hS rfl rfl) ?_
 rintro _ h_2 ⟨b_2, rfl, hS, hk⟩
 replace hK := hK.trans hk
 refine oA (.int .i64 0) rfl rfl ?_
 refine HO.nil (thenQ_normal (?_))
 refine HW.seq ?_
 refine HW.seq ?_
 refine HW.region ?_
 refine oV (.pointer (some ⟨b_1, 0, none⟩)) (q_fieldAddr fa_28_0 rfl rfl) rfl ?_
 refine oV (.bool a.1) (q_load to_4 rfl (Blk.cell (hS.box 1 rfl) rfl)) rfl ?_
 refine oV (.pointer (some ⟨b_2, 0, none⟩)) (q_fieldAddr fa_28_0 rfl rfl) rfl ?_
 refine oV (.bool b.1) (q_load to_4 rfl (Blk.cell (hS.box 0 rfl) rfl)) rfl ?_
 refine oV (.bool (!(a.1 == b.1))) (q_neqB Tryz.underlying4 rfl rfl) rfl ?_
 refine HO.nil (thenQ_normal (?_))
 refine HW.cond (!(a.1 == b.1)) rfl (fun c_1 => ?_) (fun c_1 => ?_)
 ·
  replace hM := hM.1 c_1
  refine HW.seq ?_
  refine HW.seq ?_
  refine HW.region ?_
  refine oV (.pointer (some ⟨b_2, 0, none⟩)) (q_fieldAddr fa_28_0 rfl rfl) rfl ?_
  refine oV (.bool b.1) (q_load to_4 rfl (Blk.cell (hS.box 0 rfl) rfl)) rfl ?_
  refine HO.nil (thenQ_normal (?_))
  refine HW.cond b.1 rfl (fun c_2 => ?_) (fun c_2 => ?_)
  ·
   replace hM := hM.1 c_2
   refine HW.seq ?_
   refine HW.region ?_
   refine oA (.int .i64 (-1)) rfl rfl ?_
   refine HO.nil (thenQ_normal (?_))
   refine HW.ret (thenQ_ret (thenQ_ret (?_)))
   refine ⟨.inr rfl, .int .i64 (-1), res1 rfl (rt rfl), ?_⟩
   replace hS : St F (fr) h_2 := hS.perm2 [] 2 rfl rfl
   exact ⟨F, (-1), rfl, hK, hS, hM⟩
  ·
   replace hM := hM.2 c_2
   refine HW.skip (thenQ_normal (?_))
   refine HW.seq ?_
   refine HW.region ?_
   refine oA (.int .i64 1) rfl rfl ?_
   refine HO.nil (thenQ_normal (?_))
   refine HW.ret (thenQ_ret (?_))
   refine ⟨.inr rfl, .int .i64 1, res1 rfl (rt rfl), ?_⟩
   replace hS : St F (fr) h_2 := hS.perm2 [] 2 rfl rfl
   exact ⟨F, 1, rfl, hK, hS, hM⟩
 ·
  replace hM := hM.2 c_1
  refine HW.skip (thenQ_normal (?_))
  refine HW.seq ?_
  refine HW.seq ?_
  refine HW.region ?_
  refine oA (.int .i64 0) rfl rfl ?_
  refine HO.nil (thenQ_normal (?_))
  refine HW.block ?_
  obtain ⟨I_1, m_1, hI_1, hR_1⟩ := hM
  replace hS : St F (Ow.box b_1 28 (e_api_Addr a).toArray :: Ow.box b_2 28 (e_api_Addr b).toArray :: fr) h_2 := hS.perm2 [1, 0] 2 rfl rfl
  refine HW.loop (S := Int) (fun i_1 f h => ∃ (F' : Fz), f 2 = .pointer (some ⟨b_1, 0, none⟩) ∧ f 3 = .pointer (some ⟨b_2, 0, none⟩) ∧ f 4 = .int .i64 0 ∧ f 5 = .int .i64 i_1 ∧ Kp F h0 F' h ∧ St F' (Ow.box b_1 28 (e_api_Addr a).toArray :: Ow.box b_2 28 (e_api_Addr b).toArray :: fr) h ∧ I_1 i_1) m_1 0 ⟨F, rfl, rfl, rfl, rfl, hK, hS, hI_1⟩ ?_
  rintro i_1 f_1 h_3 ⟨F_1, e2, e3, e4, e5, hK, hS, hI0⟩
  obtain ⟨K_1, hKe_1⟩ : ∃ K : Int → Prop, K = fun i_1' => I_1 i_1' ∧ m_1 i_1' < m_1 i_1 := ⟨_, rfl⟩
  have hM : ref03_Cmp_l1 a b Q K_1 i_1 := by rw [hKe_1]; exact hR_1 i_1 hI0
  unfold ref03_Cmp_l1 at hM
  refine HW.fr [(2, .pointer (some ⟨b_1, 0, none⟩)), (3, .pointer (some ⟨b_2, 0, none⟩)), (4, .int .i64 0), (5, .int .i64 i_1)] ⟨e2, e3, e4, e5, trivial⟩ ?_
  refine HW.seq_mid (fun f h => ∃ (F' : Fz), f 2 = .pointer (some ⟨b_1, 0, none⟩) ∧ f 3 = .pointer (some ⟨b_2, 0, none⟩) ∧ f 4 = .int .i64 0 ∧ f 5 = .int .i64 i_1 ∧ Kp F h0 F' h ∧ St F' (Ow.box b_1 28 (e_api_Addr a).toArray :: Ow.box b_2 28 (e_api_Addr b).toArray :: fr) h ∧ ref03_Cmp_j1 a b Q i_1 K_1) ?_ ?_
  ·
   refine HW.seq ?_
   refine HW.region ?_
   refine oM (.int .i64 i_1) rfl rfl ?_
   refine oV (.bool (decide (i_1 < 16))) (q_lss rfl rfl) rfl ?_
   refine oM (.bool (decide (i_1 < 16))) rfl rfl ?_
   rcases Bool.eq_false_or_eq_true (decide (i_1 < 16)) with c_3 | c_3
   ·
    replace hM := hM.1 (of_decide_eq_true c_3)
    refine HO.val (v := .pointer (some ⟨b_1, 0, none⟩)) (want_by rfl rfl c_3) rfl (q_fieldAddr fa_28_0 rfl rfl) ?_
    refine HO.val (v := .bool a.1) (want_by rfl rfl c_3) rfl (q_load to_4 rfl (Blk.cell (hS.box 0 rfl) rfl)) ?_
    refine HO.val (v := .bool a.1) (want_by rfl rfl c_3) rfl (q_move rfl) ?_
    rcases Bool.eq_false_or_eq_true a.1 with c_4 | c_4
    ·
     replace hM := hM.1 c_4
     refine HO.past (past_by rfl rfl c_4) rfl ?_
     refine HO.past (past_by rfl rfl c_4) rfl ?_
     refine HO.val (v := .bool true) (want_by rfl rfl c_3) rfl (q_pickK true rfl c_4 rfl) ?_
     refine oV (.bool true) (q_pickK true rfl c_3 rfl) rfl ?_
     refine HO.nil (thenQ_normal (?_))
     refine HW.condT rfl ?_
     refine HW.skip (thenQ_normal (?_))
     exact ⟨F_1, rfl, rfl, rfl, rfl, hK, hS, hM⟩
    ·
     replace hM := hM.2 c_4
     refine HO.val (v := .int .i64 i_1) (want_by rfl rfl c_4) rfl (q_move rfl) ?_
     refine HO.val (v := .bool (decide (i_1 < 4))) (want_by rfl rfl c_4) rfl (q_lss rfl rfl) ?_
     refine HO.val (v := .bool (decide (i_1 < 4))) (want_by rfl rfl c_3) rfl (q_pickK false rfl c_4 rfl) ?_
     refine oV (.bool (decide (i_1 < 4))) (q_pickK true rfl c_3 rfl) rfl ?_
     refine HO.nil (thenQ_normal (?_))
     refine HW.cond (decide (i_1 < 4)) rfl (fun c_5 => ?_) (fun c_5 => ?_)
     ·
      replace hM := hM.1 (of_decide_eq_true c_5)
      refine HW.skip (thenQ_normal (?_))
      exact ⟨F_1, rfl, rfl, rfl, rfl, hK, hS, hM⟩
     ·
      replace hM := hM.2 (of_decide_eq_false c_5)
      refine HW.exit (thenQ_exit (thenQ_exit (blockQ_exit (thenQ_normal (?_)))))
      refine HW.seq ?_
      refine HW.region ?_
      refine oA (.int .i64 0) rfl rfl ?_
      refine HO.nil (thenQ_normal (?_))
      refine HW.ret (?_)
      refine ⟨.inr rfl, .int .i64 0, res1 rfl (rt rfl), ?_⟩
      replace hS : St F_1 (fr) h_3 := hS.perm2 [] 2 rfl rfl
      exact ⟨F_1, 0, rfl, hK, hS, hM⟩
   ·
    replace hM := hM.2 (of_decide_eq_false c_3)
    refine HO.past (past_by rfl rfl c_3) rfl ?_
    refine HO.past (past_by rfl rfl c_3) rfl ?_
    refine HO.past (past_by rfl rfl c_3) rfl ?_
    refine HO.past (past_undef rfl rfl) rfl ?_
    refine HO.past (past_undef rfl rfl) rfl ?_
    refine HO.past (past_by rfl rfl c_3) rfl ?_
    refine oV (.bool false) (q_pickK false rfl c_3 rfl) rfl ?_
    refine HO.nil (thenQ_normal (?_))
    refine HW.condF rfl ?_
    refine HW.exit (thenQ_exit (thenQ_exit (blockQ_exit (thenQ_normal (?_)))))
    refine HW.seq ?_
    refine HW.region ?_
    refine oA (.int .i64 0) rfl rfl ?_
    refine HO.nil (thenQ_normal (?_))
    refine HW.ret (?_)
    refine ⟨.inr rfl, .int .i64 0, res1 rfl (rt rfl), ?_⟩
    replace hS : St F_1 (fr) h_3 := hS.perm2 [] 2 rfl rfl
    exact ⟨F_1, 0, rfl, hK, hS, hM⟩
  ·
   rintro f_2 h_4 ⟨F_2, e2, e3, e4, e5, hK, hS, hM⟩
   unfold ref03_Cmp_j1 at hM
   refine HW.fr [(2, .pointer (some ⟨b_1, 0, none⟩)), (3, .pointer (some ⟨b_2, 0, none⟩)), (4, .int .i64 0), (5, .int .i64 i_1)] ⟨e2, e3, e4, e5, trivial⟩ ?_
   refine HW.seq ?_
   refine HW.block ?_
   refine HW.seq ?_
   refine HW.seq ?_
   refine HW.regionA 9 mixed (fun h => (Blk h b_1 (.cells (e_api_Addr a).toArray 28 (0, 0))) ∧ (Blk h b_2 (.cells (e_api_Addr b).toArray 28 (0, 0)))) [] (by kernel_rfl) ?_
   refine HA.val (k := 0) (v := .int .i64 i_1) rfl rfl (by kernel_rfl) (by kernel_rfl) (want_none) rfl (fun _ ⟨c305, c306⟩ => q_move rfl) ?_
   refine HA.val (k := 1) (v := .pointer (some ⟨b_1, 1, none⟩)) rfl rfl (by kernel_rfl) (by kernel_rfl) (want_none) rfl (fun _ ⟨c305, c306⟩ => q_fieldAddr fa_28_1 rfl rfl) ?_
   obtain ⟨ho_1, hM⟩ := hM
   refine HA.val (k := 2) (v := .pointer (some ⟨b_1, 1 + (i_1).toNat, none⟩)) rfl rfl (by kernel_rfl) (by kernel_rfl) (want_none) rfl (fun _ ⟨c305, c306⟩ => q_idxA (o := 1) (t := i_1) tr_26 rfl rfl ho_1) ?_
   refine HA.val (k := 3) (v := .int .u8 (b8 a.2 i_1)) rfl rfl (by kernel_rfl) (by kernel_rfl) (want_none) rfl (fun _ ⟨c305, c306⟩ => q_ldArr (o := 1) (t := i_1) (X := a.2) to_5 rfl c305 rfl ho_1) ?_
   refine HA.val (k := 4) (v := .int .i64 i_1) rfl rfl (by kernel_rfl) (by kernel_rfl) (want_none) rfl (fun _ ⟨c305, c306⟩ => q_move rfl) ?_
   refine HA.val (k := 5) (v := .pointer (some ⟨b_2, 1, none⟩)) rfl rfl (by kernel_rfl) (by kernel_rfl) (want_none) rfl (fun _ ⟨c305, c306⟩ => q_fieldAddr fa_28_1 rfl rfl) ?_
   refine HA.val (k := 6) (v := .pointer (some ⟨b_2, 1 + (i_1).toNat, none⟩)) rfl rfl (by kernel_rfl) (by kernel_rfl) (want_none) rfl (fun _ ⟨c305, c306⟩ => q_idxA (o := 1) (t := i_1) tr_26 rfl rfl ho_1) ?_
   refine HA.val (k := 7) (v := .int .u8 (b8 b.2 i_1)) rfl rfl (by kernel_rfl) (by kernel_rfl) (want_none) rfl (fun _ ⟨c305, c306⟩ => q_ldArr (o := 1) (t := i_1) (X := b.2) to_5 rfl c306 rfl ho_1) ?_
   refine HA.val (k := 8) (v := .bool (decide ((b8 a.2 i_1) < (b8 b.2 i_1)))) rfl rfl (by kernel_rfl) (by kernel_rfl) (want_none) rfl (fun _ ⟨c305, c306⟩ => q_lss rfl rfl) ?_
   refine HA.nil ⟨⟨(hS.box 0 rfl), (hS.box 1 rfl)⟩, (Go.Wk.at_nil _ _)⟩ (by kernel_rfl) (thenQ_normal (?_))
   refine HW.cond (decide ((b8 a.2 i_1) < (b8 b.2 i_1))) rfl (fun c_6 => ?_) (fun c_6 => ?_)
   ·
    replace hM := hM.1 (of_decide_eq_true c_6)
    refine HW.seq ?_
    refine HW.region ?_
    refine oA (.int .i64 (-1)) rfl rfl ?_
    refine HO.nil (thenQ_normal (?_))
    refine HW.ret (thenQ_ret (blockQ_ret (thenQ_ret (thenQ_ret (blockQ_ret (thenQ_ret (?_)))))))
    refine ⟨.inr rfl, .int .i64 (-1), res1 rfl (rt rfl), ?_⟩
    replace hS : St F_2 (fr) h_4 := hS.perm2 [] 2 rfl rfl
    exact ⟨F_2, (-1), rfl, hK, hS, hM⟩
   ·
    replace hM := hM.2 (of_decide_eq_false c_6)
    refine HW.skip (thenQ_normal (?_))
    refine HW.seq ?_
    refine HW.regionA 9 mixed (fun h => (Blk h b_1 (.cells (e_api_Addr a).toArray 28 (0, 0))) ∧ (Blk h b_2 (.cells (e_api_Addr b).toArray 28 (0, 0)))) [] (by kernel_rfl) ?_
    refine HA.val (k := 0) (v := .int .i64 i_1) rfl rfl (by kernel_rfl) (by kernel_rfl) (want_none) rfl (fun _ ⟨c305, c306⟩ => q_move rfl) ?_
    refine HA.val (k := 1) (v := .pointer (some ⟨b_1, 1, none⟩)) rfl rfl (by kernel_rfl) (by kernel_rfl) (want_none) rfl (fun _ ⟨c305, c306⟩ => q_fieldAddr fa_28_1 rfl rfl) ?_
    refine HA.val (k := 2) (v := .pointer (some ⟨b_1, 1 + (i_1).toNat, none⟩)) rfl rfl (by kernel_rfl) (by kernel_rfl) (want_none) rfl (fun _ ⟨c305, c306⟩ => q_idxA (o := 1) (t := i_1) tr_26 rfl rfl ho_1) ?_
    refine HA.val (k := 3) (v := .int .u8 (b8 a.2 i_1)) rfl rfl (by kernel_rfl) (by kernel_rfl) (want_none) rfl (fun _ ⟨c305, c306⟩ => q_ldArr (o := 1) (t := i_1) (X := a.2) to_5 rfl c305 rfl ho_1) ?_
    refine HA.val (k := 4) (v := .int .i64 i_1) rfl rfl (by kernel_rfl) (by kernel_rfl) (want_none) rfl (fun _ ⟨c305, c306⟩ => q_move rfl) ?_
    refine HA.val (k := 5) (v := .pointer (some ⟨b_2, 1, none⟩)) rfl rfl (by kernel_rfl) (by kernel_rfl) (want_none) rfl (fun _ ⟨c305, c306⟩ => q_fieldAddr fa_28_1 rfl rfl) ?_
    refine HA.val (k := 6) (v := .pointer (some ⟨b_2, 1 + (i_1).toNat, none⟩)) rfl rfl (by kernel_rfl) (by kernel_rfl) (want_none) rfl (fun _ ⟨c305, c306⟩ => q_idxA (o := 1) (t := i_1) tr_26 rfl rfl ho_1) ?_
    refine HA.val (k := 7) (v := .int .u8 (b8 b.2 i_1)) rfl rfl (by kernel_rfl) (by kernel_rfl) (want_none) rfl (fun _ ⟨c305, c306⟩ => q_ldArr (o := 1) (t := i_1) (X := b.2) to_5 rfl c306 rfl ho_1) ?_
    refine HA.val (k := 8) (v := .bool (decide ((b8 b.2 i_1) < (b8 a.2 i_1)))) rfl rfl (by kernel_rfl) (by kernel_rfl) (want_none) rfl (fun _ ⟨c305, c306⟩ => q_gtr rfl rfl) ?_
    refine HA.nil ⟨⟨(hS.box 0 rfl), (hS.box 1 rfl)⟩, (Go.Wk.at_nil _ _)⟩ (by kernel_rfl) (thenQ_normal (?_))
    refine HW.cond (decide ((b8 b.2 i_1) < (b8 a.2 i_1))) rfl (fun c_7 => ?_) (fun c_7 => ?_)
    ·
     replace hM := hM.1 (of_decide_eq_true c_7)
     refine HW.seq ?_
     refine HW.region ?_
     refine oA (.int .i64 1) rfl rfl ?_
     refine HO.nil (thenQ_normal (?_))
     refine HW.ret (blockQ_ret (thenQ_ret (thenQ_ret (blockQ_ret (thenQ_ret (?_))))))
     refine ⟨.inr rfl, .int .i64 1, res1 rfl (rt rfl), ?_⟩
     replace hS : St F_2 (fr) h_4 := hS.perm2 [] 2 rfl rfl
     exact ⟨F_2, 1, rfl, hK, hS, hM⟩
    ·
     replace hM := hM.2 (of_decide_eq_false c_7)
     refine HW.skip (blockQ_normal (thenQ_normal (?_)))
     refine HW.region ?_
     refine oM (.int .i64 i_1) rfl rfl ?_
     obtain ⟨ho_2, hM⟩ := hM
     refine oV (.int .i64 (i_1 + 1)) (q_addN _ rfl rfl rfl ho_2.1 ho_2.2) rfl ?_
     refine oA (.int .i64 (i_1 + 1)) rfl rfl ?_
     refine HO.nil (thenQ_normal (?_))
     rw [hKe_1] at hM
     exact ⟨i_1 + 1, ⟨F_2, rfl, rfl, rfl, rfl, hK, hS, hM.1⟩, hM.2⟩
def ref11_Add_j2 (l : List T_api_Addr) (a : T_api_Addr) (Q : (List T_api_Addr) → Prop) (n_1 : Int) : Prop :=
 ((0 : Int) ≤ n_1 ∧ n_1 ≤ (l.length : Int)) ∧ (((([] : List T_api_Addr).length + (cut l 0 n_1).length) * 17 ≤ 140737488355328) ∧ ((((([] : List T_api_Addr) ++ (cut l 0 n_1)).length + ([a] : List T_api_Addr).length) * 17 ≤ 140737488355328) ∧ (((((([] : List T_api_Addr) ++ (cut l 0 n_1)) ++ ([a] : List T_api_Addr)).length + (cut l n_1 (l.length : Int)).length) * 17 ≤ 140737488355328) ∧ (Q (((([] : List T_api_Addr) ++ (cut l 0 n_1)) ++ ([a] : List T_api_Addr)) ++ (cut l n_1 (l.length : Int)))))))
def ref11_Add_l1 (l : List T_api_Addr) (a : T_api_Addr) (Q : (List T_api_Addr) → Prop) (K_1 : Int → Prop) (n_2 : Int) : Prop :=
 (n_2 < (l.length : Int) → ((0 : Int) ≤ n_2 ∧ n_2 < (l.length : Int)) ∧ (ref03_Cmp_W (gi l n_2) a (fun r_4 => (r_4 < 0 → (I64 (n_2 + 1)) ∧ (K_1 (n_2 + 1))) ∧ (¬ (r_4 < 0) → ref11_Add_j2 l a Q n_2)))) ∧ (¬ (n_2 < (l.length : Int)) → ref11_Add_j2 l a Q n_2)
def ref11_Add_j1 (l : List T_api_Addr) (a : T_api_Addr) (Q : (List T_api_Addr) → Prop) (b_2 : Bool) : Prop :=
 (b_2 = true → Q l) ∧ (b_2 = false → loopW (fun (K_1 : Int → Prop) (s : Int) => ref11_Add_l1 l a Q K_1 s) 0)
def ref11_Add_W (l : List T_api_Addr) (a : T_api_Addr) (Q : (List T_api_Addr) → Prop) : Prop :=
 ref11_Has_W l a (fun r_2 => (r_2 = true → ref11_Add_j1 l a Q true) ∧ (r_2 = false → ref03_Good_W a (fun r_3 => ref11_Add_j1 l a Q (!r_3))))
theorem ref11_Add_walk {F : Fz} {fr : List Ow} {h0 : Heap} (l : List T_api_Addr) (a : T_api_Addr) (vl : Value) (hS : St F (fr) h0) (hL_l : SliceF F h0 17 e_api_Addr vl l) {Q : (List T_api_Addr) → Prop} (hM : ref11_Add_W l a Q) :
  HC Tryz.prog 143 #[vl, .agg (e_api_Addr a).toArray] h0 fun u h' => ∃ (F' : Fz) (r_1 : List T_api_Addr) (vr_1 : Value), u = vr_1 ∧ Kp F h0 F' h' ∧ St F' (fr) h' ∧ (SliceF F' h' 17 e_api_Addr vl l) ∧ (SliceF F' h' 17 e_api_Addr vr_1 r_1) ∧ Q r_1 := by
 unfold ref11_Add_W at hM
 have hK := Kp.refl F h0
 refine HC.of_HW (n := 42) Tryz.func143 rfl rfl (Nat.le_of_ble_eq_true rfl) ?_
 refine HW.seq ?_
 refine HW.region ?_
 refine HO.eff (want_none) rfl (st_box (c := (e_api_Addr a).toArray) (k' := 17) hS rfl rfl) ?_
 rintro _ h_1 ⟨b_1, rfl, hS, hk⟩
 replace hK := hK.trans hk
 replace hL_l := hL_l.kp hk
 refine oA (.slice none 0 0) rfl rfl ?_
 refine HO.nil (thenQ_normal (?_))
 refine HW.seq ?_
 refine HW.seq_mid (fun f h => ∃ (F' : Fz) (b_2 : Bool), f 0 = vl ∧ f 3 = .pointer (some ⟨b_1, 0, none⟩) ∧ f 4 = .slice none 0 0 ∧ f 13 = .bool b_2 ∧ Kp F h0 F' h ∧ St F' (Ow.box b_1 28 (e_api_Addr a).toArray :: fr) h ∧ (SliceF F' h 17 e_api_Addr vl l) ∧ ref11_Add_j1 l a Q b_2) ?_ ?_
 ·
  refine HW.region ?_
  refine oM (vl) rfl rfl ?_
  refine oV (.agg (e_api_Addr a).toArray) (q_loadAgg (cs := (e_api_Addr a)) ta_28 rfl rfl (Blk.cells (k := 17) (hS.box 0 rfl) rfl)) rfl ?_
  refine HO.call (want_none) rfl (ec en_75 rfl rfl) (ref11_Has_walk (fr := (Ow.box b_1 28 (e_api_Addr a).toArray :: fr)) l a vl hS hL_l hM) ?_
  rintro _ h_2 ⟨F_1, r_2, rfl, hk, hS, _, hM⟩
  replace hK := hK.trans hk
  replace hL_l := hL_l.kp hk
  refine oM (.bool r_2) rfl rfl ?_
  rcases Bool.eq_false_or_eq_true r_2 with c_1 | c_1
  ·
   replace hM := hM.1 c_1
   refine HO.past (past_by rfl rfl c_1) rfl ?_
   refine HO.past (past_by rfl rfl c_1) rfl ?_
   refine HO.past (past_by rfl rfl c_1) rfl ?_
   refine oV (.bool true) (q_pickK true rfl c_1 rfl) rfl ?_
   refine HO.nil (thenQ_normal (?_))
   exact ⟨F_1, true, rfl, rfl, rfl, rfl, hK, hS, hL_l, hM⟩
  ·
   replace hM := hM.2 c_1
   refine HO.val (v := .agg (e_api_Addr a).toArray) (want_by rfl rfl c_1) rfl (q_loadAgg (cs := (e_api_Addr a)) ta_28 rfl rfl (Blk.cells (k := 17) (hS.box 0 rfl) rfl)) ?_
   refine HO.call (want_by rfl rfl c_1) rfl (ec en_66 rfl rfl) (ref03_Good_walk (fr := (Ow.box b_1 28 (e_api_Addr a).toArray :: fr)) a hS hM) ?_
   rintro _ h_3 ⟨F_2, r_3, rfl, hk, hS, hM⟩
   replace hK := hK.trans hk
   replace hL_l := hL_l.kp hk
   refine HO.val (v := .bool (!r_3)) (want_by rfl rfl c_1) rfl (q_not rfl) ?_
   refine oV (.bool (!r_3)) (q_pickK false rfl c_1 rfl) rfl ?_
   refine HO.nil (thenQ_normal (?_))
   exact ⟨F_2, !r_3, rfl, rfl, rfl, rfl, hK, hS, hL_l, hM⟩
 ·
  rintro f_1 h_4 ⟨F_3, b_2, e0, e3, e4, e13, hK, hS, hL_l, hM⟩
  unfold ref11_Add_j1 at hM
  refine HW.fr [(0, vl), (3, .pointer (some ⟨b_1, 0, none⟩)), (4, .slice none 0 0), (13, .bool b_2)] ⟨e0, e3, e4, e13, trivial⟩ ?_
  refine HW.cond b_2 rfl (fun c_2 => ?_) (fun c_2 => ?_)
  ·
   replace hM := hM.1 c_2
   refine HW.seq ?_
   refine HW.region ?_
   refine oM (vl) rfl rfl ?_
   refine oA (vl) rfl rfl ?_
   refine HO.nil (thenQ_normal (?_))
   refine HW.ret (thenQ_ret (?_))
   refine ⟨.inr rfl, vl, res1 rfl (rt rfl), ?_⟩
   replace hS : St F_3 (fr) h_4 := hS.perm2 [] 1 rfl rfl
   exact ⟨F_3, l, vl, rfl, hK, hS, hL_l, hL_l, hM⟩
  ·
   replace hM := hM.2 c_2
   refine HW.skip (thenQ_normal (?_))
   refine HW.seq ?_
   refine HW.region ?_
   refine oA (.int .i64 0) rfl rfl ?_
   refine HO.nil (thenQ_normal (?_))
   refine HW.seq_mid (fun f h => ∃ (F' : Fz) (n_1 : Int), f 0 = vl ∧ f 3 = .pointer (some ⟨b_1, 0, none⟩) ∧ f 4 = .slice none 0 0 ∧ f 5 = .int .i64 n_1 ∧ Kp F h0 F' h ∧ St F' (Ow.box b_1 28 (e_api_Addr a).toArray :: fr) h ∧ (SliceF F' h 17 e_api_Addr vl l) ∧ ref11_Add_j2 l a Q n_1) ?_ ?_
   ·
    refine HW.block ?_
    obtain ⟨I_1, m_1, hI_1, hR_1⟩ := hM
    refine HW.loop (S := Int) (fun n_2 f h => ∃ (F' : Fz), f 0 = vl ∧ f 3 = .pointer (some ⟨b_1, 0, none⟩) ∧ f 4 = .slice none 0 0 ∧ f 5 = .int .i64 n_2 ∧ Kp F h0 F' h ∧ St F' (Ow.box b_1 28 (e_api_Addr a).toArray :: fr) h ∧ (SliceF F' h 17 e_api_Addr vl l) ∧ I_1 n_2) m_1 0 ⟨F_3, rfl, rfl, rfl, rfl, hK, hS, hL_l, hI_1⟩ ?_
    rintro n_2 f_2 h_5 ⟨F_4, e0, e3, e4, e5, hK, hS, hL_l, hI0⟩
    obtain ⟨K_1, hKe_1⟩ : ∃ K : Int → Prop, K = fun n_2' => I_1 n_2' ∧ m_1 n_2' < m_1 n_2 := ⟨_, rfl⟩
    have hM : ref11_Add_l1 l a Q K_1 n_2 := by rw [hKe_1]; exact hR_1 n_2 hI0
    unfold ref11_Add_l1 at hM
    refine HW.fr [(0, vl), (3, .pointer (some ⟨b_1, 0, none⟩)), (4, .slice none 0 0), (5, .int .i64 n_2)] ⟨e0, e3, e4, e5, trivial⟩ ?_
    refine HW.seq ?_
    refine HW.seq ?_
    refine HW.regionA 13 mixed (fun h => (SliceIs h 17 e_api_Addr vl l) ∧ (Blk h b_1 (.cells (e_api_Addr a).toArray 28 (0, 0)))) [] (by kernel_rfl) ?_
    refine HA.val (k := 0) (v := .int .i64 n_2) rfl rfl (by kernel_rfl) (by kernel_rfl) (want_none) rfl (fun _ ⟨hL_l, c304⟩ => q_move rfl) ?_
    refine HA.val (k := 1) (v := vl) rfl rfl (by kernel_rfl) (by kernel_rfl) (want_none) rfl (fun _ ⟨hL_l, c304⟩ => q_move rfl) ?_
    refine HA.val (k := 2) (v := .int .i64 (l.length : Int)) rfl rfl (by kernel_rfl) (by kernel_rfl) (want_none) rfl (fun _ ⟨hL_l, c304⟩ => q_len ts_29 (shp hL_l) rfl rfl) ?_
    refine HA.val (k := 3) (v := .bool (decide (n_2 < (l.length : Int)))) rfl rfl (by kernel_rfl) (by kernel_rfl) (want_none) rfl (fun _ ⟨hL_l, c304⟩ => q_lss rfl rfl) ?_
    refine HA.val (k := 4) (v := .bool (decide (n_2 < (l.length : Int)))) rfl rfl (by kernel_rfl) (by kernel_rfl) (want_none) rfl (fun _ ⟨hL_l, c304⟩ => q_move rfl) ?_
    rcases Bool.eq_false_or_eq_true (decide (n_2 < (l.length : Int))) with c_3 | c_3
    ·
     replace hM := hM.1 (of_decide_eq_true c_3)
     refine HA.val (k := 5) (v := vl) rfl rfl (by kernel_rfl) (by kernel_rfl) (want_by rfl rfl c_3) rfl (fun _ ⟨hL_l, c304⟩ => q_move rfl) ?_
     refine HA.val (k := 6) (v := .int .i64 n_2) rfl rfl (by kernel_rfl) (by kernel_rfl) (want_by rfl rfl c_3) rfl (fun _ ⟨hL_l, c304⟩ => q_move rfl) ?_
     obtain ⟨ho_1, hM⟩ := hM
     refine HA.val (k := 7) (v := elemPtr 17 vl (n_2).toNat) rfl rfl (by kernel_rfl) (by kernel_rfl) (want_by rfl rfl c_3) rfl (fun _ ⟨hL_l, c304⟩ => q_idx ts_29 hL_l rfl rfl ho_1) ?_
     refine HA.val (k := 8) (v := .agg (e_api_Addr (gi l n_2)).toArray) rfl rfl (by kernel_rfl) (by kernel_rfl) (want_by rfl rfl c_3) rfl (fun _ ⟨hL_l, c304⟩ => q_ldElemAgg (cs := (e_api_Addr (gi l n_2))) ta_28 hL_l rfl ho_1 rfl) ?_
     refine HA.val (k := 9) (v := .agg (e_api_Addr a).toArray) rfl rfl (by kernel_rfl) (by kernel_rfl) (want_by rfl rfl c_3) rfl (fun _ ⟨hL_l, c304⟩ => q_loadAgg (cs := (e_api_Addr a)) ta_28 rfl rfl (Blk.cells (k := 17) c304 rfl)) ?_
     refine HA.one (k := 10) ⟨⟨hL_l.is, (hS.box 0 rfl)⟩, (Go.Wk.at_nil _ _)⟩ (by kernel_rfl) ?_
     refine HS.call rfl (want_by rfl rfl c_3) rfl (ec en_80 rfl rfl) (ref03_Cmp_walk (fr := (Ow.box b_1 28 (e_api_Addr a).toArray :: fr)) (gi l n_2) a hS hM) ?_
     rintro _ h_6 ⟨F_5, r_4, rfl, hk, hS, hM⟩
     replace hK := hK.trans hk
     replace hL_l := hL_l.kp hk
     refine HA.val (k := 11) (v := .bool (decide (r_4 < 0))) rfl rfl (by kernel_rfl) (by kernel_rfl) (want_by rfl rfl c_3) rfl (fun _ ⟨hL_l, c304⟩ => q_lss rfl rfl) ?_
     refine HA.val (k := 12) (v := .bool (decide (r_4 < 0))) rfl rfl (by kernel_rfl) (by kernel_rfl) (want_none) rfl (fun _ ⟨hL_l, c304⟩ => q_pickK true rfl c_3 rfl) ?_
     refine HA.nil ⟨⟨hL_l.is, (hS.box 0 rfl)⟩, (Go.Wk.at_nil _ _)⟩ (by kernel_rfl) (thenQ_normal (?_))
     refine HW.cond (decide (r_4 < 0)) rfl (fun c_4 => ?_) (fun c_4 => ?_)
     ·
      replace hM := hM.1 (of_decide_eq_true c_4)
      refine HW.skip (thenQ_normal (?_))
      refine HW.block ?_
      refine HW.region ?_
      refine oM (.int .i64 n_2) rfl rfl ?_
      obtain ⟨ho_2, hM⟩ := hM
      refine oV (.int .i64 (n_2 + 1)) (q_addN _ rfl rfl rfl ho_2.1 ho_2.2) rfl ?_
      refine oA (.int .i64 (n_2 + 1)) rfl rfl ?_
      refine HO.nil (blockQ_normal (thenQ_normal (?_)))
      rw [hKe_1] at hM
      exact ⟨n_2 + 1, ⟨F_5, rfl, rfl, rfl, rfl, hK, hS, hL_l, hM.1⟩, hM.2⟩
     ·
      replace hM := hM.2 (of_decide_eq_false c_4)
      refine HW.exit (thenQ_exit (thenQ_exit (blockQ_exit (thenQ_normal (?_)))))
      exact ⟨F_5, n_2, rfl, rfl, rfl, rfl, hK, hS, hL_l, hM⟩
    ·
     replace hM := hM.2 (of_decide_eq_false c_3)
     refine HA.past (k := 5) rfl rfl (by kernel_rfl) (by kernel_rfl) (past_by rfl rfl c_3) rfl ?_
     refine HA.past (k := 6) rfl rfl (by kernel_rfl) (by kernel_rfl) (past_by rfl rfl c_3) rfl ?_
     refine HA.past (k := 7) rfl rfl (by kernel_rfl) (by kernel_rfl) (past_by rfl rfl c_3) rfl ?_
     refine HA.past (k := 8) rfl rfl (by kernel_rfl) (by kernel_rfl) (past_by rfl rfl c_3) rfl ?_
     refine HA.past (k := 9) rfl rfl (by kernel_rfl) (by kernel_rfl) (past_by rfl rfl c_3) rfl ?_
     refine HA.one (k := 10) ⟨⟨hL_l.is, (hS.box 0 rfl)⟩, (Go.Wk.at_nil _ _)⟩ (by kernel_rfl) ?_
     refine HS.past rfl (past_by rfl rfl c_3) rfl ?_
     refine HA.past (k := 11) rfl rfl (by kernel_rfl) (by kernel_rfl) (past_by rfl rfl c_3) rfl ?_
     refine HA.val (k := 12) (v := .bool false) rfl rfl (by kernel_rfl) (by kernel_rfl) (want_none) rfl (fun _ ⟨hL_l, c304⟩ => q_pickK false rfl c_3 rfl) ?_
     refine HA.nil ⟨⟨hL_l.is, (hS.box 0 rfl)⟩, (Go.Wk.at_nil _ _)⟩ (by kernel_rfl) (thenQ_normal (?_))
     refine HW.condF rfl ?_
     refine HW.exit (thenQ_exit (thenQ_exit (blockQ_exit (thenQ_normal (?_)))))
     exact ⟨F_4, n_2, rfl, rfl, rfl, rfl, hK, hS, hL_l, hM⟩
   ·
    rintro f_3 h_7 ⟨F_6, n_1, e0, e3, e4, e5, hK, hS, hL_l, hM⟩
    unfold ref11_Add_j2 at hM
    refine HW.fr [(0, vl), (3, .pointer (some ⟨b_1, 0, none⟩)), (4, .slice none 0 0), (5, .int .i64 n_1)] ⟨e0, e3, e4, e5, trivial⟩ ?_
    refine HW.seq ?_
    obtain ⟨ho_3, hM⟩ := hM
    obtain ⟨ho_4, hM⟩ := hM
    obtain ⟨ho_5, hM⟩ := hM
    obtain ⟨ho_6, hM⟩ := hM
    refine HW.regionA 13 mixed (fun h => (SliceIs h 17 e_api_Addr vl l) ∧ (Blk h b_1 (.cells (e_api_Addr a).toArray 28 (0, 0)))) [] (by kernel_rfl) ?_
    refine HA.val (k := 1) (v := vl) rfl rfl (by kernel_rfl) (by kernel_rfl) (want_none) rfl (fun _ ⟨hL_l, c203⟩ => q_move rfl) ?_
    refine HA.val (k := 2) (v := .int .i64 n_1) rfl rfl (by kernel_rfl) (by kernel_rfl) (want_none) rfl (fun _ ⟨hL_l, c203⟩ => q_move rfl) ?_
    refine HA.val (k := 3) (v := cutV 17 vl (0 : Int).toNat (n_1).toNat) rfl rfl (by kernel_rfl) (by kernel_rfl) (want_none) rfl (fun _ ⟨hL_l, c203⟩ => q_slH ts_29 hL_l rfl rfl ho_3) ?_
    refine HA.val (k := 5) (v := .agg (e_api_Addr a).toArray) rfl rfl (by kernel_rfl) (by kernel_rfl) (want_none) rfl (fun _ ⟨hL_l, c203⟩ => q_loadAgg (cs := (e_api_Addr a)) ta_28 rfl rfl (Blk.cells (k := 17) c203 rfl)) ?_
    refine HA.val (k := 8) (v := vl) rfl rfl (by kernel_rfl) (by kernel_rfl) (want_none) rfl (fun _ ⟨hL_l, c203⟩ => q_move rfl) ?_
    refine HA.val (k := 9) (v := .int .i64 n_1) rfl rfl (by kernel_rfl) (by kernel_rfl) (want_none) rfl (fun _ ⟨hL_l, c203⟩ => q_move rfl) ?_
    refine HA.val (k := 10) (v := cutV 17 vl (n_1).toNat ((l.length : Int)).toNat) rfl rfl (by kernel_rfl) (by kernel_rfl) (want_none) rfl (fun _ ⟨hL_l, c203⟩ => q_slL ts_29 hL_l rfl rfl ho_3) ?_
    refine HA.two (k := 0) (k' := 6) ⟨⟨hL_l.is, (hS.box 0 rfl)⟩, (Go.Wk.at_nil _ _)⟩ (by kernel_rfl) ?_ ?_
    ·
     refine HS.eff rfl (want_none) rfl (st_litEmpty (α := T_api_Addr) e_api_Addr hS tl_29) ?_
     rintro _ h_8 ⟨b_3, rfl, hS, hk⟩
     replace hK := hK.trans hk
     replace hL_l := hL_l.kp hk
     refine HA.two (k := 4) (k' := 6) ⟨⟨hL_l.is, (hS.box 1 rfl)⟩, (Go.Wk.at_nil _ _)⟩ (by kernel_rfl) ?_ ?_
     ·
      refine HS.eff rfl (want_none) rfl (st_append te_29 hS (i := 0) rfl (cutIs hL_l.is 0 n_1 (Int.le_refl _) ho_3.1 ho_3.2) rfl rfl rfl (by intro a _ u hu; simp [e_api_Addr, encI, encN, encB, encT] at hu; rcases hu with rfl | rfl | rfl | rfl | rfl | rfl | rfl | rfl | rfl | rfl | rfl | rfl | rfl | rfl | rfl | rfl | rfl <;> rfl) ho_4 (by omega)) ?_
      rintro v_1 h_9 ⟨hS, hk⟩
      replace hK := hK.trans hk
      replace hL_l := hL_l.kp hk
      refine HA.one (k := 6) ⟨⟨hL_l.is, (hS.box 1 rfl)⟩, (Go.Wk.at_nil _ _)⟩ (by kernel_rfl) ?_
      refine HS.eff rfl (want_none) rfl (st_lit (enc := e_api_Addr) (cells := #[.bool a.1, .int .u8 (b8 a.2 0), .int .u8 (b8 a.2 1), .int .u8 (b8 a.2 2), .int .u8 (b8 a.2 3), .int .u8 (b8 a.2 4), .int .u8 (b8 a.2 5), .int .u8 (b8 a.2 6), .int .u8 (b8 a.2 7), .int .u8 (b8 a.2 8), .int .u8 (b8 a.2 9), .int .u8 (b8 a.2 10), .int .u8 (b8 a.2 11), .int .u8 (b8 a.2 12), .int .u8 (b8 a.2 13), .int .u8 (b8 a.2 14), .int .u8 (b8 a.2 15)]) #[.bool false, .int .u8 0, .int .u8 0, .int .u8 0, .int .u8 0, .int .u8 0, .int .u8 0, .int .u8 0, .int .u8 0, .int .u8 0, .int .u8 0, .int .u8 0, .int .u8 0, .int .u8 0, .int .u8 0, .int .u8 0, .int .u8 0] ([a] : List T_api_Addr) hS tl_29 (by decide) (by decide) (by kernel_rfl) (by kernel_rfl) rfl (by intro x hx; rfl) rfl) ?_
      rintro _ h_10 ⟨b_4, rfl, hS, hk⟩
      replace hK := hK.trans hk
      replace hL_l := hL_l.kp hk
      refine HA.one (k := 7) ⟨⟨hL_l.is, (hS.box 2 rfl)⟩, (Go.Wk.at_nil _ _)⟩ (by kernel_rfl) ?_
      refine HS.eff rfl (want_none) rfl (st_append te_29 hS (i := 1) rfl (hS.own 0 rfl).slice rfl rfl rfl (by intro a _ u hu; simp [e_api_Addr, encI, encN, encB, encT] at hu; rcases hu with rfl | rfl | rfl | rfl | rfl | rfl | rfl | rfl | rfl | rfl | rfl | rfl | rfl | rfl | rfl | rfl | rfl <;> rfl) ho_5 (by omega)) ?_
      rintro v_2 h_11 ⟨hS, hk⟩
      replace hK := hK.trans hk
      replace hL_l := hL_l.kp hk
      refine HA.one (k := 11) ⟨⟨hL_l.is, (hS.box 2 rfl)⟩, (Go.Wk.at_nil _ _)⟩ (by kernel_rfl) ?_
      refine HS.eff rfl (want_none) rfl (st_append te_29 hS (i := 1) rfl (cutIs hL_l.is n_1 (l.length : Int) ho_3.1 ho_3.2 (Int.le_refl _)) rfl rfl rfl (by intro a _ u hu; simp [e_api_Addr, encI, encN, encB, encT] at hu; rcases hu with rfl | rfl | rfl | rfl | rfl | rfl | rfl | rfl | rfl | rfl | rfl | rfl | rfl | rfl | rfl | rfl | rfl <;> rfl) ho_6 (by omega)) ?_
      rintro v_3 h_12 ⟨hS, hk⟩
      replace hK := hK.trans hk
      replace hL_l := hL_l.kp hk
      refine HA.val (k := 12) (v := v_3) rfl rfl (by kernel_rfl) (by kernel_rfl) (want_none) rfl (fun _ ⟨hL_l, c203⟩ => q_assign rfl) ?_
      refine HA.nil ⟨⟨hL_l.is, (hS.box 2 rfl)⟩, (Go.Wk.at_nil _ _)⟩ (by kernel_rfl) (thenQ_normal (?_))
      refine HW.ret (?_)
      refine ⟨.inr rfl, v_3, res1 rfl (rt rfl), ?_⟩
      replace hS : St F_6 (Ow.own 28 17 e_api_Addr v_3 (((([] : List T_api_Addr) ++ (cut l 0 n_1)) ++ ([a] : List T_api_Addr)) ++ (cut l n_1 (l.length : Int))) :: Ow.own 28 17 e_api_Addr (.slice (some ⟨b_4, 0, none⟩) 1 1) ([a] : List T_api_Addr) :: Ow.box b_1 28 (e_api_Addr a).toArray :: fr) h_12 := hS.perm2 [1, 0, 2] 3 rfl rfl
      obtain ⟨F_7, hS, hk, hL_2⟩ := hS.freezeOwn
      replace hK := hK.trans hk
      replace hL_l := hL_l.kp hk
      replace hS : St F_7 (fr) h_12 := hS.perm2 [] 2 rfl rfl
      exact ⟨F_7, ((([] : List T_api_Addr) ++ (cut l 0 n_1)) ++ ([a] : List T_api_Addr)) ++ (cut l n_1 (l.length : Int)), v_3, rfl, hK, hS, hL_l, hL_2, hM⟩
     ·
      refine HS.eff rfl (want_none) rfl (st_lit (enc := e_api_Addr) (cells := #[.bool a.1, .int .u8 (b8 a.2 0), .int .u8 (b8 a.2 1), .int .u8 (b8 a.2 2), .int .u8 (b8 a.2 3), .int .u8 (b8 a.2 4), .int .u8 (b8 a.2 5), .int .u8 (b8 a.2 6), .int .u8 (b8 a.2 7), .int .u8 (b8 a.2 8), .int .u8 (b8 a.2 9), .int .u8 (b8 a.2 10), .int .u8 (b8 a.2 11), .int .u8 (b8 a.2 12), .int .u8 (b8 a.2 13), .int .u8 (b8 a.2 14), .int .u8 (b8 a.2 15)]) #[.bool false, .int .u8 0, .int .u8 0, .int .u8 0, .int .u8 0, .int .u8 0, .int .u8 0, .int .u8 0, .int .u8 0, .int .u8 0, .int .u8 0, .int .u8 0, .int .u8 0, .int .u8 0, .int .u8 0, .int .u8 0, .int .u8 0] ([a] : List T_api_Addr) hS tl_29 (by decide) (by decide) (by kernel_rfl) (by kernel_rfl) rfl (by intro x hx; rfl) rfl) ?_
      rintro _ h_9 ⟨b_4, rfl, hS, hk⟩
      replace hK := hK.trans hk
      replace hL_l := hL_l.kp hk
      refine HA.one (k := 4) ⟨⟨hL_l.is, (hS.box 2 rfl)⟩, (Go.Wk.at_nil _ _)⟩ (by kernel_rfl) ?_
      refine HS.eff rfl (want_none) rfl (st_append te_29 hS (i := 1) rfl (cutIs hL_l.is 0 n_1 (Int.le_refl _) ho_3.1 ho_3.2) rfl rfl rfl (by intro a _ u hu; simp [e_api_Addr, encI, encN, encB, encT] at hu; rcases hu with rfl | rfl | rfl | rfl | rfl | rfl | rfl | rfl | rfl | rfl | rfl | rfl | rfl | rfl | rfl | rfl | rfl <;> rfl) ho_4 (by omega)) ?_
      rintro v_1 h_10 ⟨hS, hk⟩
      replace hK := hK.trans hk
      replace hL_l := hL_l.kp hk
      refine HA.one (k := 7) ⟨⟨hL_l.is, (hS.box 2 rfl)⟩, (Go.Wk.at_nil _ _)⟩ (by kernel_rfl) ?_
      refine HS.eff rfl (want_none) rfl (st_append te_29 hS (i := 1) rfl (hS.own 0 rfl).slice rfl rfl rfl (by intro a _ u hu; simp [e_api_Addr, encI, encN, encB, encT] at hu; rcases hu with rfl | rfl | rfl | rfl | rfl | rfl | rfl | rfl | rfl | rfl | rfl | rfl | rfl | rfl | rfl | rfl | rfl <;> rfl) ho_5 (by omega)) ?_
      rintro v_2 h_11 ⟨hS, hk⟩
      replace hK := hK.trans hk
      replace hL_l := hL_l.kp hk
      refine HA.one (k := 11) ⟨⟨hL_l.is, (hS.box 2 rfl)⟩, (Go.Wk.at_nil _ _)⟩ (by kernel_rfl) ?_
      refine HS.eff rfl (want_none) rfl (st_append te_29 hS (i := 1) rfl (cutIs hL_l.is n_1 (l.length : Int) ho_3.1 ho_3.2 (Int.le_refl _)) rfl rfl rfl (by intro a _ u hu; simp [e_api_Addr, encI, encN, encB, encT] at hu; rcases hu with rfl | rfl | rfl | rfl | rfl | rfl | rfl | rfl | rfl | rfl | rfl | rfl | rfl | rfl | rfl | rfl | rfl <;> rfl) ho_6 (by omega)) ?_
      rintro v_3 h_12 ⟨hS, hk⟩
      replace hK := hK.trans hk
      replace hL_l := hL_l.kp hk
      refine HA.val (k := 12) (v := v_3) rfl rfl (by kernel_rfl) (by kernel_rfl) (want_none) rfl (fun _ ⟨hL_l, c203⟩ => q_assign rfl) ?_
      refine HA.nil ⟨⟨hL_l.is, (hS.box 2 rfl)⟩, (Go.Wk.at_nil _ _)⟩ (by kernel_rfl) (thenQ_normal (?_))
      refine HW.ret (?_)
      refine ⟨.inr rfl, v_3, res1 rfl (rt rfl), ?_⟩
      replace hS : St F_6 (Ow.own 28 17 e_api_Addr v_3 (((([] : List T_api_Addr) ++ (cut l 0 n_1)) ++ ([a] : List T_api_Addr)) ++ (cut l n_1 (l.length : Int))) :: Ow.own 28 17 e_api_Addr (.slice (some ⟨b_4, 0, none⟩) 1 1) ([a] : List T_api_Addr) :: Ow.box b_1 28 (e_api_Addr a).toArray :: fr) h_12 := hS.perm2 [1, 0, 2] 3 rfl rfl
      obtain ⟨F_7, hS, hk, hL_2⟩ := hS.freezeOwn
      replace hK := hK.trans hk
      replace hL_l := hL_l.kp hk
      replace hS : St F_7 (fr) h_12 := hS.perm2 [] 2 rfl rfl
      exact ⟨F_7, ((([] : List T_api_Addr) ++ (cut l 0 n_1)) ++ ([a] : List T_api_Addr)) ++ (cut l n_1 (l.length : Int)), v_3, rfl, hK, hS, hL_l, hL_2, hM⟩
    ·
     refine HS.eff rfl (want_none) rfl (st_lit (enc := e_api_Addr) (cells := #[.bool a.1, .int .u8 (b8 a.2 0), .int .u8 (b8 a.2 1), .int .u8 (b8 a.2 2), .int .u8 (b8 a.2 3), .int .u8 (b8 a.2 4), .int .u8 (b8 a.2 5), .int .u8 (b8 a.2 6), .int .u8 (b8 a.2 7), .int .u8 (b8 a.2 8), .int .u8 (b8 a.2 9), .int .u8 (b8 a.2 10), .int .u8 (b8 a.2 11), .int .u8 (b8 a.2 12), .int .u8 (b8 a.2 13), .int .u8 (b8 a.2 14), .int .u8 (b8 a.2 15)]) #[.bool false, .int .u8 0, .int .u8 0, .int .u8 0, .int .u8 0, .int .u8 0, .int .u8 0, .int .u8 0, .int .u8 0, .int .u8 0, .int .u8 0, .int .u8 0, .int .u8 0, .int .u8 0, .int .u8 0, .int .u8 0, .int .u8 0] ([a] : List T_api_Addr) hS tl_29 (by decide) (by decide) (by kernel_rfl) (by kernel_rfl) rfl (by intro x hx; rfl) rfl) ?_
     rintro _ h_8 ⟨b_3, rfl, hS, hk⟩
     replace hK := hK.trans hk
     replace hL_l := hL_l.kp hk
     refine HA.one (k := 0) ⟨⟨hL_l.is, (hS.box 1 rfl)⟩, (Go.Wk.at_nil _ _)⟩ (by kernel_rfl) ?_
     refine HS.eff rfl (want_none) rfl (st_litEmpty (α := T_api_Addr) e_api_Addr hS tl_29) ?_
     rintro _ h_9 ⟨b_4, rfl, hS, hk⟩
     replace hK := hK.trans hk
     replace hL_l := hL_l.kp hk
     refine HA.one (k := 4) ⟨⟨hL_l.is, (hS.box 2 rfl)⟩, (Go.Wk.at_nil _ _)⟩ (by kernel_rfl) ?_
     refine HS.eff rfl (want_none) rfl (st_append te_29 hS (i := 0) rfl (cutIs hL_l.is 0 n_1 (Int.le_refl _) ho_3.1 ho_3.2) rfl rfl rfl (by intro a _ u hu; simp [e_api_Addr, encI, encN, encB, encT] at hu; rcases hu with rfl | rfl | rfl | rfl | rfl | rfl | rfl | rfl | rfl | rfl | rfl | rfl | rfl | rfl | rfl | rfl | rfl <;> rfl) ho_4 (by omega)) ?_
     rintro v_1 h_10 ⟨hS, hk⟩
     replace hK := hK.trans hk
     replace hL_l := hL_l.kp hk
     refine HA.one (k := 7) ⟨⟨hL_l.is, (hS.box 2 rfl)⟩, (Go.Wk.at_nil _ _)⟩ (by kernel_rfl) ?_
     refine HS.eff rfl (want_none) rfl (st_append te_29 hS (i := 0) rfl (hS.own 1 rfl).slice rfl rfl rfl (by intro a _ u hu; simp [e_api_Addr, encI, encN, encB, encT] at hu; rcases hu with rfl | rfl | rfl | rfl | rfl | rfl | rfl | rfl | rfl | rfl | rfl | rfl | rfl | rfl | rfl | rfl | rfl <;> rfl) ho_5 (by omega)) ?_
     rintro v_2 h_11 ⟨hS, hk⟩
     replace hK := hK.trans hk
     replace hL_l := hL_l.kp hk
     refine HA.one (k := 11) ⟨⟨hL_l.is, (hS.box 2 rfl)⟩, (Go.Wk.at_nil _ _)⟩ (by kernel_rfl) ?_
     refine HS.eff rfl (want_none) rfl (st_append te_29 hS (i := 0) rfl (cutIs hL_l.is n_1 (l.length : Int) ho_3.1 ho_3.2 (Int.le_refl _)) rfl rfl rfl (by intro a _ u hu; simp [e_api_Addr, encI, encN, encB, encT] at hu; rcases hu with rfl | rfl | rfl | rfl | rfl | rfl | rfl | rfl | rfl | rfl | rfl | rfl | rfl | rfl | rfl | rfl | rfl <;> rfl) ho_6 (by omega)) ?_
     rintro v_3 h_12 ⟨hS, hk⟩
     replace hK := hK.trans hk
     replace hL_l := hL_l.kp hk
     refine HA.val (k := 12) (v := v_3) rfl rfl (by kernel_rfl) (by kernel_rfl) (want_none) rfl (fun _ ⟨hL_l, c203⟩ => q_assign rfl) ?_
     refine HA.nil ⟨⟨hL_l.is, (hS.box 2 rfl)⟩, (Go.Wk.at_nil _ _)⟩ (by kernel_rfl) (thenQ_normal (?_))
     refine HW.ret (?_)
     refine ⟨.inr rfl, v_3, res1 rfl (rt rfl), ?_⟩
     obtain ⟨F_7, hS, hk, hL_2⟩ := hS.freezeOwn
     replace hK := hK.trans hk
     replace hL_l := hL_l.kp hk
     replace hS : St F_7 (fr) h_12 := hS.perm2 [] 2 rfl rfl
     exact ⟨F_7, ((([] : List T_api_Addr) ++ (cut l 0 n_1)) ++ ([a] : List T_api_Addr)) ++ (cut l n_1 (l.length : Int)), v_3, rfl, hK, hS, hL_l, hL_2, hM⟩
def ref11_Of_l1 (l : List T_api_Addr) (Q : (List T_api_Addr) → Prop) (K_1 : (List T_api_Addr) → Int → Prop) (out_1 : List T_api_Addr) (i_1 : Int) : Prop :=
 (i_1 < (l.length : Int) → ((0 : Int) ≤ i_1 ∧ i_1 < (l.length : Int)) ∧ (ref11_Add_W out_1 (gi l i_1) (fun r_2 => (I64 (i_1 + 1)) ∧ (K_1 r_2 (i_1 + 1))))) ∧ (¬ (i_1 < (l.length : Int)) → Q out_1)
def ref11_Of_W (l : List T_api_Addr) (Q : (List T_api_Addr) → Prop) : Prop :=
 loopW (fun (K_1 : (List T_api_Addr × Int) → Prop) (s : List T_api_Addr × Int) => ref11_Of_l1 l Q (fun out_1 i_1 => K_1 (out_1, i_1)) s.1 s.2) ([], 0)
theorem ref11_Of_walk {F : Fz} {fr : List Ow} {h0 : Heap} (l : List T_api_Addr) (vl : Value) (hS : St F (fr) h0) (hL_l : SliceF F h0 17 e_api_Addr vl l) {Q : (List T_api_Addr) → Prop} (hM : ref11_Of_W l Q) :
  HC Tryz.prog 109 #[vl] h0 fun u h' => ∃ (F' : Fz) (r_1 : List T_api_Addr) (vr_1 : Value), u = vr_1 ∧ Kp F h0 F' h' ∧ St F' (fr) h' ∧ (SliceF F' h' 17 e_api_Addr vl l) ∧ (SliceF F' h' 17 e_api_Addr vr_1 r_1) ∧ Q r_1 := by
 unfold ref11_Of_W at hM
 have hK := Kp.refl F h0
 refine HC.of_HW (n := 19) Tryz.func109 rfl rfl (Nat.le_of_ble_eq_true rfl) ?_
 refine HW.seq ?_
 refine HW.region ?_
 refine oA (.slice none 0 0) rfl rfl ?_
 refine HO.nil (thenQ_normal (?_))
 refine HW.seq ?_
 refine HW.region ?_
 refine HO.eff (want_none) rfl (st_litEmpty (α := T_api_Addr) e_api_Addr hS tl_29) ?_
 rintro _ h_1 ⟨b_1, rfl, hS, hk⟩
 replace hK := hK.trans hk
 replace hL_l := hL_l.kp hk
 refine oA (.slice (some ⟨b_1, 0, none⟩) 0 0) rfl rfl ?_
 refine HO.nil (thenQ_normal (?_))
 refine HW.seq ?_
 refine HW.seq ?_
 refine HW.region ?_
 refine oA (.int .i64 0) rfl rfl ?_
 refine HO.nil (thenQ_normal (?_))
 refine HW.block ?_
 obtain ⟨I_1, m_1, hI_1, hR_1⟩ := hM
 obtain ⟨F_1, hS, hk, hL_3⟩ := hS.freezeOwn
 replace hK := hK.trans hk
 replace hL_l := hL_l.kp hk
 refine HW.loop (S := List T_api_Addr × Int) (fun s f h => match s with | (out_1, i_1) => ∃ (F' : Fz) (vout_1 : Value), f 0 = vl ∧ f 2 = .slice none 0 0 ∧ f 3 = vout_1 ∧ f 4 = .int .i64 i_1 ∧ Kp F h0 F' h ∧ St F' (fr) h ∧ (SliceF F' h 17 e_api_Addr vl l) ∧ (SliceF F' h 17 e_api_Addr vout_1 out_1) ∧ I_1 (out_1, i_1)) m_1 ([], 0) ⟨F_1, .slice (some ⟨b_1, 0, none⟩) 0 0, rfl, rfl, rfl, rfl, hK, hS, hL_l, hL_3, hI_1⟩ ?_
 rintro ⟨out_1, i_1⟩ f_1 h_2 ⟨F_2, vout_1, e0, e2, e3, e4, hK, hS, hL_l, hL_2, hI0⟩
 obtain ⟨K_1, hKe_1⟩ : ∃ K : (List T_api_Addr) → Int → Prop, K = fun out_1' i_1' => I_1 (out_1', i_1') ∧ m_1 (out_1', i_1') < m_1 (out_1, i_1) := ⟨_, rfl⟩
 have hM : ref11_Of_l1 l Q K_1 out_1 i_1 := by rw [hKe_1]; exact hR_1 (out_1, i_1) hI0
 unfold ref11_Of_l1 at hM
 refine HW.fr [(0, vl), (2, .slice none 0 0), (3, vout_1), (4, .int .i64 i_1)] ⟨e0, e2, e3, e4, trivial⟩ ?_
 refine HW.seq ?_
 refine HW.seq ?_
 refine HW.region ?_
 refine oM (.int .i64 i_1) rfl rfl ?_
 refine oM (vl) rfl rfl ?_
 refine oV (.int .i64 (l.length : Int)) (q_len ts_29 (shp hL_l.is) rfl rfl) rfl ?_
 refine oV (.bool (decide (i_1 < (l.length : Int)))) (q_lss rfl rfl) rfl ?_
 refine HO.nil (thenQ_normal (?_))
 refine HW.cond (decide (i_1 < (l.length : Int))) rfl (fun c_1 => ?_) (fun c_1 => ?_)
 ·
  replace hM := hM.1 (of_decide_eq_true c_1)
  refine HW.skip (thenQ_normal (?_))
  refine HW.seq ?_
  refine HW.block ?_
  refine HW.region ?_
  refine oM (vout_1) rfl rfl ?_
  refine oM (vl) rfl rfl ?_
  refine oM (.int .i64 i_1) rfl rfl ?_
  obtain ⟨ho_1, hM⟩ := hM
  refine oV (elemPtr 17 vl (i_1).toNat) (q_idx ts_29 hL_l.is rfl rfl ho_1) rfl ?_
  refine oV (.agg (e_api_Addr (gi l i_1)).toArray) (q_ldElemAgg (cs := (e_api_Addr (gi l i_1))) ta_28 hL_l.is rfl ho_1 rfl) rfl ?_
  refine HO.call (want_none) rfl (ec en_143 rfl rfl) (ref11_Add_walk (fr := (fr)) out_1 (gi l i_1) vout_1 hS hL_2 hM) ?_
  rintro vr_2 h_3 ⟨F_3, r_2, _, rfl, hk, hS, _, hL_4, hM⟩
  replace hK := hK.trans hk
  replace hL_l := hL_l.kp hk
  refine oA (vr_2) rfl rfl ?_
  refine HO.nil (blockQ_normal (thenQ_normal (?_)))
  refine HW.region ?_
  refine oM (.int .i64 i_1) rfl rfl ?_
  obtain ⟨ho_2, hM⟩ := hM
  refine oV (.int .i64 (i_1 + 1)) (q_addN _ rfl rfl rfl ho_2.1 ho_2.2) rfl ?_
  refine oA (.int .i64 (i_1 + 1)) rfl rfl ?_
  refine HO.nil (thenQ_normal (?_))
  rw [hKe_1] at hM
  exact ⟨(r_2, i_1 + 1), ⟨F_3, vr_2, rfl, rfl, rfl, rfl, hK, hS, hL_l, hL_4, hM.1⟩, hM.2⟩
 ·
  replace hM := hM.2 (of_decide_eq_false c_1)
  refine HW.exit (thenQ_exit (thenQ_exit (blockQ_exit (thenQ_normal (?_)))))
  refine HW.seq ?_
  refine HW.region ?_
  refine oM (vout_1) rfl rfl ?_
  refine oA (vout_1) rfl rfl ?_
  refine HO.nil (thenQ_normal (?_))
  refine HW.ret (?_)
  refine ⟨.inr rfl, vout_1, res1 rfl (rt rfl), ?_⟩
  exact ⟨F_2, out_1, vout_1, rfl, hK, hS, hL_l, hL_2, hM⟩
def ref19_Own_W (f_Exclude : Bool) (f_Sources : List T_api_Addr) (Q : Bool → (List T_api_Addr) → Prop) : Prop :=
 ref11_Of_W f_Sources (fun r_1 => Q f_Exclude r_1)
theorem ref19_Own_walk {F : Fz} {fr : List Ow} {h0 : Heap} (f_Exclude : Bool) (f_Sources : List T_api_Addr) (vf_Sources : Value) (hS : St F (fr) h0) (hL_f_Sources : SliceF F h0 17 e_api_Addr vf_Sources f_Sources) {Q : Bool → (List T_api_Addr) → Prop} (hM : ref19_Own_W f_Exclude f_Sources Q) :
  HC Tryz.prog 56 #[.agg #[.bool f_Exclude, vf_Sources]] h0 fun u h' => ∃ (F' : Fz) (r_0_1 : Bool) (r_1_1 : List T_api_Addr) (vr_1_1 : Value), u = .agg #[.bool r_0_1, vr_1_1] ∧ Kp F h0 F' h' ∧ St F' (fr) h' ∧ (SliceF F' h' 17 e_api_Addr vf_Sources f_Sources) ∧ (SliceF F' h' 17 e_api_Addr vr_1_1 r_1_1) ∧ Q r_0_1 r_1_1 := by
 unfold ref19_Own_W at hM
 have hK := Kp.refl F h0
 refine HC.of_HW (n := 9) Tryz.func56 rfl rfl (Nat.le_of_ble_eq_true rfl) ?_
 refine HW.seq ?_
 refine HW.region ?_
 refine HO.eff (want_none) rfl (st_box (c := #[.bool f_Exclude, vf_Sources]) (k' := 2) hS rfl rfl) ?_
 rintro _ h_1 ⟨b_1, rfl, hS, hk⟩
 replace hK := hK.trans hk
 replace hL_f_Sources := hL_f_Sources.kp hk
 refine HO.eff (want_none) rfl (st_alloc (c := #[.bool false, .slice none 0 0]) hS tz_50 rfl) ?_
 rintro _ h_2 ⟨b_2, rfl, hS, hk⟩
 replace hK := hK.trans hk
 replace hL_f_Sources := hL_f_Sources.kp hk
 refine HO.nil (thenQ_normal (?_))
 refine HW.seq ?_
 refine HW.regionA 7 mixed (fun h => (Blk h b_1 (.cells #[.bool f_Exclude, vf_Sources] 50 (0, 0)))) [] (by kernel_rfl) ?_
 refine HA.val (k := 0) (v := .pointer (some ⟨b_1, 0, none⟩)) rfl rfl (by kernel_rfl) (by kernel_rfl) (want_none) rfl (fun _ c201 => q_fieldAddr fa_50_0 rfl rfl) ?_
 refine HA.val (k := 1) (v := .bool f_Exclude) rfl rfl (by kernel_rfl) (by kernel_rfl) (want_none) rfl (fun _ c201 => q_load to_4 rfl (Blk.cell c201 rfl)) ?_
 refine HA.val (k := 2) (v := .pointer (some ⟨b_1, 1, none⟩)) rfl rfl (by kernel_rfl) (by kernel_rfl) (want_none) rfl (fun _ c201 => q_fieldAddr fa_50_1 rfl rfl) ?_
 refine HA.val (k := 3) (v := vf_Sources) rfl rfl (by kernel_rfl) (by kernel_rfl) (want_none) rfl (fun _ c201 => q_load to_29 rfl (Blk.cell c201 rfl)) ?_
 refine HA.one (k := 4) ⟨(hS.box 1 rfl), (Go.Wk.at_nil _ _)⟩ (by kernel_rfl) ?_
 refine HS.call rfl (want_none) rfl (ec en_109 rfl rfl) (ref11_Of_walk (fr := (Ow.box b_2 50 #[.bool false, .slice none 0 0] :: Ow.box b_1 50 #[.bool f_Exclude, vf_Sources] :: fr)) f_Sources vf_Sources hS hL_f_Sources hM) ?_
 rintro vr_1 h_3 ⟨F_1, r_1, _, rfl, hk, hS, _, hL_2, hM⟩
 replace hK := hK.trans hk
 replace hL_f_Sources := hL_f_Sources.kp hk
 refine Go.Wk.HA.re (fun h => (SliceIs h 17 e_api_Addr vr_1 r_1) ∧ (Blk h b_1 (.cells #[.bool f_Exclude, vf_Sources] 50 (0, 0)))) [] (fun L_ h_ hL_ ⟨hL_2, c201⟩ hs_ => ⟨c201, (Go.Wk.at_nil _ _)⟩) ?_
 refine HA.val (k := 5) (v := .agg #[.bool f_Exclude, vr_1]) rfl rfl (by kernel_rfl) (by kernel_rfl) (want_none) rfl (fun _ ⟨hL_2, c201⟩ => q_build tp_50 (fill_cons (cs' := #[.bool f_Exclude, .slice none 0 0]) (vc := #[.bool f_Exclude]) rfl rfl rfl (Nat.le_of_ble_eq_true rfl) rfl (fill_cons (cs' := #[.bool f_Exclude, vr_1]) (vc := #[vr_1]) rfl (shp hL_2).cells rfl (Nat.le_of_ble_eq_true rfl) rfl rfl))) ?_
 refine HA.one (k := 6) ⟨⟨hL_2.is, (hS.box 1 rfl)⟩, (Go.Wk.at_nil _ _)⟩ (by kernel_rfl) ?_
 refine HS.sto rfl (want_none) rfl (st_storeAgg (c' := #[.bool f_Exclude, vr_1]) hS (i := 0) rfl ta_50 rfl rfl rfl (List.forall_mem_cons.2 ⟨rfl, (List.forall_mem_cons.2 ⟨(shp hL_2.is).one, (fun _ h => by cases h)⟩)⟩) (Nat.le_of_ble_eq_true rfl) rfl) ?_
 rintro h_4 ⟨hS, hk⟩
 replace hK := hK.trans hk
 replace hL_f_Sources := hL_f_Sources.kp hk
 replace hL_2 := hL_2.kp hk
 refine HA.nil ⟨⟨hL_2.is, (hS.box 1 rfl)⟩, (Go.Wk.at_nil _ _)⟩ (by kernel_rfl) (thenQ_normal (?_))
 refine HW.ret (?_)
 refine ⟨.inr rfl, .agg #[.bool f_Exclude, vr_1], res1 rfl (rca (cs := [.bool f_Exclude, vr_1]) ta_50 rfl rfl (Blk.cells (k := 2) (hS.box 0 rfl) rfl)), ?_⟩
 replace hS : St F_1 (fr) h_4 := hS.perm2 [] 2 rfl rfl
 exact ⟨F_1, f_Exclude, r_1, vr_1, rfl, hK, hS, hL_f_Sources, hL_2, hM⟩
def law19_Few_W (f_Exclude : Bool) (f_Sources : List T_api_Addr) (Q : Bool → (List T_api_Addr) → Prop) : Prop :=
 law08_Addrs_W f_Sources 6 (fun r_1 => ref19_Own_W f_Exclude r_1 (fun r_0_2 r_1_2 => Q r_0_2 r_1_2))
theorem law19_Few_walk {F : Fz} {fr : List Ow} {h0 : Heap} (f_Exclude : Bool) (f_Sources : List T_api_Addr) (vf_Sources : Value) (hS : St F (fr) h0) (hL_f_Sources : SliceF F h0 17 e_api_Addr vf_Sources f_Sources) {Q : Bool → (List T_api_Addr) → Prop} (hM : law19_Few_W f_Exclude f_Sources Q) :
  HC Tryz.prog 18 #[.agg #[.bool f_Exclude, vf_Sources]] h0 fun u h' => ∃ (F' : Fz) (r_0_1 : Bool) (r_1_1 : List T_api_Addr) (vr_1_1 : Value), u = .agg #[.bool r_0_1, vr_1_1] ∧ Kp F h0 F' h' ∧ St F' (fr) h' ∧ (SliceF F' h' 17 e_api_Addr vf_Sources f_Sources) ∧ (SliceF F' h' 17 e_api_Addr vr_1_1 r_1_1) ∧ Q r_0_1 r_1_1 := by
 unfold law19_Few_W at hM
 have hK := Kp.refl F h0
 refine HC.of_HW (n := 10) Tryz.func18 rfl rfl (Nat.le_of_ble_eq_true rfl) ?_
 refine HW.seq ?_
 refine HW.region ?_
 refine HO.eff (want_none) rfl (st_box (c := #[.bool f_Exclude, vf_Sources]) (k' := 2) hS rfl rfl) ?_
 rintro _ h_1 ⟨b_1, rfl, hS, hk⟩
 replace hK := hK.trans hk
 replace hL_f_Sources := hL_f_Sources.kp hk
 refine HO.eff (want_none) rfl (st_alloc (c := #[.bool false, .slice none 0 0]) hS tz_50 rfl) ?_
 rintro _ h_2 ⟨b_2, rfl, hS, hk⟩
 replace hK := hK.trans hk
 replace hL_f_Sources := hL_f_Sources.kp hk
 refine HO.nil (thenQ_normal (?_))
 refine HW.seq ?_
 refine HW.regionA 8 mixed (fun h => (Blk h b_1 (.cells #[.bool f_Exclude, vf_Sources] 50 (0, 0)))) [] (by kernel_rfl) ?_
 refine HA.val (k := 0) (v := .pointer (some ⟨b_1, 0, none⟩)) rfl rfl (by kernel_rfl) (by kernel_rfl) (want_none) rfl (fun _ c201 => q_fieldAddr fa_50_0 rfl rfl) ?_
 refine HA.val (k := 1) (v := .bool f_Exclude) rfl rfl (by kernel_rfl) (by kernel_rfl) (want_none) rfl (fun _ c201 => q_load to_4 rfl (Blk.cell c201 rfl)) ?_
 refine HA.val (k := 2) (v := .pointer (some ⟨b_1, 1, none⟩)) rfl rfl (by kernel_rfl) (by kernel_rfl) (want_none) rfl (fun _ c201 => q_fieldAddr fa_50_1 rfl rfl) ?_
 refine HA.val (k := 3) (v := vf_Sources) rfl rfl (by kernel_rfl) (by kernel_rfl) (want_none) rfl (fun _ c201 => q_load to_29 rfl (Blk.cell c201 rfl)) ?_
 refine HA.one (k := 4) ⟨(hS.box 1 rfl), (Go.Wk.at_nil _ _)⟩ (by kernel_rfl) ?_
 refine HS.call rfl (want_none) rfl (ec en_38 rfl rfl) (law08_Addrs_walk (fr := (Ow.box b_2 50 #[.bool false, .slice none 0 0] :: Ow.box b_1 50 #[.bool f_Exclude, vf_Sources] :: fr)) f_Sources 6 vf_Sources hS hL_f_Sources hM) ?_
 rintro vr_1 h_3 ⟨F_1, r_1, _, rfl, hk, hS, _, hM⟩
 replace hK := hK.trans hk
 replace hL_f_Sources := hL_f_Sources.kp hk
 refine Go.Wk.HA.re (fun h => (Blk h b_1 (.cells #[.bool f_Exclude, vf_Sources] 50 (0, 0)))) [(6, fun h => (OwnIs h 0 28 17 e_api_Addr vr_1 r_1))] (fun L_ h_ hL_ c201 hs_ => ⟨c201, (Go.Wk.at_nil _ _)⟩) ?_
 refine Go.Wk.HA.valN (k := 5) (v := .agg #[.bool f_Exclude, vr_1]) 0 6 (fun h => (OwnIs h 0 28 17 e_api_Addr vr_1 r_1)) rfl rfl (by kernel_rfl) (by kernel_rfl) (want_none) rfl rfl (by kernel_rfl) (fun _ c201 c227 => q_build tp_50 (fill_cons (cs' := #[.bool f_Exclude, .slice none 0 0]) (vc := #[.bool f_Exclude]) rfl rfl rfl (Nat.le_of_ble_eq_true rfl) rfl (fill_cons (cs' := #[.bool f_Exclude, vr_1]) (vc := #[vr_1]) rfl (shp c227.slice).cells rfl (Nat.le_of_ble_eq_true rfl) rfl rfl))) ?_
 refine HA.one (k := 6) ⟨(hS.box 2 rfl), (at_now (hS.own 0 rfl) (Go.Wk.at_nil _ _))⟩ (by kernel_rfl) ?_
 obtain ⟨F_2, hS, hk, hL_2⟩ := hS.freezeOwn
 replace hK := hK.trans hk
 replace hL_f_Sources := hL_f_Sources.kp hk
 refine HS.call rfl (want_none) rfl (ec en_56 rfl rfl) (ref19_Own_walk (fr := (Ow.box b_2 50 #[.bool false, .slice none 0 0] :: Ow.box b_1 50 #[.bool f_Exclude, vf_Sources] :: fr)) f_Exclude r_1 vr_1 hS hL_2 hM) ?_
 rintro _ h_4 ⟨F_3, r_0_2, r_1_2, vr_1_2, rfl, hk, hS, _, hL_3, hM⟩
 replace hK := hK.trans hk
 replace hL_f_Sources := hL_f_Sources.kp hk
 refine HA.one (k := 7) ⟨(hS.box 1 rfl), (at_done (by kernel_rfl) (Go.Wk.at_nil _ _))⟩ (by kernel_rfl) ?_
 refine HS.sto rfl (want_none) rfl (st_storeAgg (c' := #[.bool r_0_2, vr_1_2]) hS (i := 0) rfl ta_50 rfl rfl rfl (List.forall_mem_cons.2 ⟨rfl, (List.forall_mem_cons.2 ⟨(shp hL_3.is).one, (fun _ h => by cases h)⟩)⟩) (Nat.le_of_ble_eq_true rfl) rfl) ?_
 rintro h_5 ⟨hS, hk⟩
 replace hK := hK.trans hk
 replace hL_f_Sources := hL_f_Sources.kp hk
 replace hL_3 := hL_3.kp hk
 refine HA.nil ⟨(hS.box 1 rfl), (at_done (by kernel_rfl) (Go.Wk.at_nil _ _))⟩ (by kernel_rfl) (thenQ_normal (?_))
 refine HW.ret (?_)
 refine ⟨.inr rfl, .agg #[.bool r_0_2, vr_1_2], res1 rfl (rca (cs := [.bool r_0_2, vr_1_2]) ta_50 rfl rfl (Blk.cells (k := 2) (hS.box 0 rfl) rfl)), ?_⟩
 replace hS : St F_3 (fr) h_5 := hS.perm2 [] 2 rfl rfl
 exact ⟨F_3, r_0_2, r_1_2, vr_1_2, rfl, hK, hS, hL_f_Sources, hL_3, hM⟩
def law24_Wants_j1 (l : List T_api_Want) (Q : (List T_api_Want) → Prop) (out_1 : List T_api_Want) (i_1 : Int) (K_1 : (List T_api_Want) → Int → Prop) (b_2 : Bool) : Prop :=
 (b_2 = true → ((0 : Int) ≤ i_1 ∧ i_1 < (l.length : Int)) ∧ (law19_Few_W (((gi l i_1).2).1) ((((gi l i_1).2).2).2) (fun r_0_1 r_1_1 => ∀ vr_1_1 : Value, (((out_1.length + ([(((gi l i_1).1), (r_0_1, (vr_1_1, r_1_1)))] : List T_api_Want).length) * 56 ≤ 140737488355328) ∧ ((I64 (i_1 + 1)) ∧ (K_1 (out_1 ++ ([(((gi l i_1).1), (r_0_1, (vr_1_1, r_1_1)))] : List T_api_Want)) (i_1 + 1))))))) ∧ (b_2 = false → Q out_1)
def law24_Wants_l1 (l : List T_api_Want) (most : Int) (Q : (List T_api_Want) → Prop) (K_1 : (List T_api_Want) → Int → Prop) (out_1 : List T_api_Want) (i_1 : Int) : Prop :=
 (i_1 < (l.length : Int) → law24_Wants_j1 l Q out_1 i_1 K_1 (decide (i_1 < most))) ∧ (¬ (i_1 < (l.length : Int)) → law24_Wants_j1 l Q out_1 i_1 K_1 false)
def law24_Wants_W (l : List T_api_Want) (most : Int) (Q : (List T_api_Want) → Prop) : Prop :=
 loopW (fun (K_1 : (List T_api_Want × Int) → Prop) (s : List T_api_Want × Int) => law24_Wants_l1 l most Q (fun out_1 i_1 => K_1 (out_1, i_1)) s.1 s.2) ([], 0)
theorem law24_Wants_walk {F : Fz} {fr : List Ow} {h0 : Heap} (l : List T_api_Want) (most : Int) (vl : Value) (hS : St F (fr) h0) (hN_l : NfL nf_api_Want F h0 l) (hL_l : SliceF F h0 19 e_api_Want vl l) {Q : (List T_api_Want) → Prop} (hM : law24_Wants_W l most Q) :
  HC Tryz.prog 27 #[vl, .int .i64 most] h0 fun u h' => ∃ (F' : Fz) (r_1 : List T_api_Want) (vr_1 : Value), u = vr_1 ∧ Kp F h0 F' h' ∧ St F' (Ow.own 77 19 e_api_Want vr_1 r_1 :: fr) h' ∧ (NfL nf_api_Want F' h' l) ∧ (SliceF F' h' 19 e_api_Want vl l) ∧ (NfL nf_api_Want F' h' r_1) ∧ Q r_1 := by
 unfold law24_Wants_W at hM
 have hK := Kp.refl F h0
 refine HC.of_HW (n := 35) Tryz.func27 rfl rfl (Nat.le_of_ble_eq_true rfl) ?_
 refine HW.seq ?_
 refine HW.region ?_
 refine oA (.slice none 0 0) rfl rfl ?_
 refine HO.nil (thenQ_normal (?_))
 refine HW.seq ?_
 refine HW.region ?_
 refine HO.eff (want_none) rfl (st_litEmpty (α := T_api_Want) e_api_Want hS tl_71) ?_
 rintro _ h_1 ⟨b_1, rfl, hS, hk⟩
 replace hK := hK.trans hk
 replace hN_l := hN_l.kp hk
 replace hL_l := hL_l.kp hk
 have hN_2 : NfL nf_api_Want F h_1 ([] : List T_api_Want) := NfL.nil _ _ _
 refine oA (.slice (some ⟨b_1, 0, none⟩) 0 0) rfl rfl ?_
 refine HO.nil (thenQ_normal (?_))
 refine HW.seq ?_
 refine HW.seq ?_
 refine HW.region ?_
 refine oA (.int .i64 0) rfl rfl ?_
 refine HO.nil (thenQ_normal (?_))
 refine HW.block ?_
 obtain ⟨I_1, m_1, hI_1, hR_1⟩ := hM
 refine HW.loop (S := List T_api_Want × Int) (fun s f h => match s with | (out_1, i_1) => ∃ (F' : Fz) (vout_1 : Value), f 0 = vl ∧ f 1 = .int .i64 most ∧ f 4 = .slice none 0 0 ∧ f 5 = vout_1 ∧ f 6 = .int .i64 i_1 ∧ Kp F h0 F' h ∧ St F' (Ow.own 77 19 e_api_Want vout_1 out_1 :: fr) h ∧ (NfL nf_api_Want F' h l) ∧ (SliceF F' h 19 e_api_Want vl l) ∧ (NfL nf_api_Want F' h ([] : List T_api_Want)) ∧ (NfL nf_api_Want F' h out_1) ∧ I_1 (out_1, i_1)) m_1 ([], 0) ⟨F, .slice (some ⟨b_1, 0, none⟩) 0 0, rfl, rfl, rfl, rfl, rfl, hK, hS, hN_l, hL_l, hN_2, hN_2, hI_1⟩ ?_
 rintro ⟨out_1, i_1⟩ f_1 h_2 ⟨F_1, vout_1, e0, e1, e4, e5, e6, hK, hS, hN_l, hL_l, hN_2, hN_3, hI0⟩
 obtain ⟨K_1, hKe_1⟩ : ∃ K : (List T_api_Want) → Int → Prop, K = fun out_1' i_1' => I_1 (out_1', i_1') ∧ m_1 (out_1', i_1') < m_1 (out_1, i_1) := ⟨_, rfl⟩
 have hM : law24_Wants_l1 l most Q K_1 out_1 i_1 := by rw [hKe_1]; exact hR_1 (out_1, i_1) hI0
 unfold law24_Wants_l1 at hM
 refine HW.fr [(0, vl), (1, .int .i64 most), (4, .slice none 0 0), (5, vout_1), (6, .int .i64 i_1)] ⟨e0, e1, e4, e5, e6, trivial⟩ ?_
 refine HW.seq ?_
 refine HW.seq_mid (fun f h => ∃ (F' : Fz) (b_2 : Bool), f 0 = vl ∧ f 1 = .int .i64 most ∧ f 4 = .slice none 0 0 ∧ f 5 = vout_1 ∧ f 6 = .int .i64 i_1 ∧ f 16 = .bool b_2 ∧ Kp F h0 F' h ∧ St F' (Ow.own 77 19 e_api_Want vout_1 out_1 :: fr) h ∧ (NfL nf_api_Want F' h l) ∧ (SliceF F' h 19 e_api_Want vl l) ∧ (NfL nf_api_Want F' h ([] : List T_api_Want)) ∧ (NfL nf_api_Want F' h out_1) ∧ law24_Wants_j1 l Q out_1 i_1 K_1 b_2) ?_ ?_
 ·
  refine HW.region ?_
  refine oM (.int .i64 i_1) rfl rfl ?_
  refine oM (vl) rfl rfl ?_
  refine oV (.int .i64 (l.length : Int)) (q_len ts_71 (shp hL_l.is) rfl rfl) rfl ?_
  refine oV (.bool (decide (i_1 < (l.length : Int)))) (q_lss rfl rfl) rfl ?_
  refine oM (.bool (decide (i_1 < (l.length : Int)))) rfl rfl ?_
  rcases Bool.eq_false_or_eq_true (decide (i_1 < (l.length : Int))) with c_1 | c_1
  ·
   replace hM := hM.1 (of_decide_eq_true c_1)
   refine HO.val (v := .int .i64 i_1) (want_by rfl rfl c_1) rfl (q_move rfl) ?_
   refine HO.val (v := .int .i64 most) (want_by rfl rfl c_1) rfl (q_move rfl) ?_
   refine HO.val (v := .bool (decide (i_1 < most))) (want_by rfl rfl c_1) rfl (q_lss rfl rfl) ?_
   refine oV (.bool (decide (i_1 < most))) (q_pickK true rfl c_1 rfl) rfl ?_
   refine HO.nil (thenQ_normal (?_))
   exact ⟨F_1, decide (i_1 < most), rfl, rfl, rfl, rfl, rfl, rfl, hK, hS, hN_l, hL_l, hN_2, hN_3, hM⟩
  ·
   replace hM := hM.2 (of_decide_eq_false c_1)
   refine HO.past (past_by rfl rfl c_1) rfl ?_
   refine HO.past (past_by rfl rfl c_1) rfl ?_
   refine HO.past (past_by rfl rfl c_1) rfl ?_
   refine oV (.bool false) (q_pickK false rfl c_1 rfl) rfl ?_
   refine HO.nil (thenQ_normal (?_))
   exact ⟨F_1, false, rfl, rfl, rfl, rfl, rfl, rfl, hK, hS, hN_l, hL_l, hN_2, hN_3, hM⟩
 ·
  rintro f_2 h_3 ⟨F_2, b_2, e0, e1, e4, e5, e6, e16, hK, hS, hN_l, hL_l, hN_2, hN_3, hM⟩
  unfold law24_Wants_j1 at hM
  refine HW.fr [(0, vl), (1, .int .i64 most), (4, .slice none 0 0), (5, vout_1), (6, .int .i64 i_1), (16, .bool b_2)] ⟨e0, e1, e4, e5, e6, e16, trivial⟩ ?_
  refine HW.cond b_2 rfl (fun c_2 => ?_) (fun c_2 => ?_)
  ·
   replace hM := hM.1 c_2
   refine HW.skip (thenQ_normal (?_))
   refine HW.seq ?_
   refine HW.block ?_
   refine HW.regionA 16 mixed (fun h => (SliceIs h 19 e_api_Want vl l)) [] (by kernel_rfl) ?_
   refine HA.val (k := 0) (v := vout_1) rfl rfl (by kernel_rfl) (by kernel_rfl) (want_none) rfl (fun _ hL_l => q_move rfl) ?_
   refine HA.val (k := 1) (v := vl) rfl rfl (by kernel_rfl) (by kernel_rfl) (want_none) rfl (fun _ hL_l => q_move rfl) ?_
   refine HA.val (k := 2) (v := .int .i64 i_1) rfl rfl (by kernel_rfl) (by kernel_rfl) (want_none) rfl (fun _ hL_l => q_move rfl) ?_
   obtain ⟨ho_1, hM⟩ := hM
   refine HA.val (k := 3) (v := elemPtr 19 vl (i_1).toNat) rfl rfl (by kernel_rfl) (by kernel_rfl) (want_none) rfl (fun _ hL_l => q_idx ts_71 hL_l rfl rfl ho_1) ?_
   refine HA.val (k := 4) (v := fieldPtr 19 vl (i_1).toNat 0) rfl rfl (by kernel_rfl) (by kernel_rfl) (want_none) rfl (fun _ hL_l => q_fldElem fa_77_0 hL_l rfl ho_1) ?_
   refine HA.val (k := 5) (v := .agg (e_api_Addr ((gi l i_1).1)).toArray) rfl rfl (by kernel_rfl) (by kernel_rfl) (want_none) rfl (fun _ hL_l => q_ldFieldAgg (n := 17) (cs := (e_api_Addr ((gi l i_1).1))) ta_28 hL_l rfl ho_1 (by decide) rfl) ?_
   refine HA.val (k := 6) (v := vl) rfl rfl (by kernel_rfl) (by kernel_rfl) (want_none) rfl (fun _ hL_l => q_move rfl) ?_
   refine HA.val (k := 7) (v := .int .i64 i_1) rfl rfl (by kernel_rfl) (by kernel_rfl) (want_none) rfl (fun _ hL_l => q_move rfl) ?_
   refine HA.val (k := 8) (v := elemPtr 19 vl (i_1).toNat) rfl rfl (by kernel_rfl) (by kernel_rfl) (want_none) rfl (fun _ hL_l => q_idx ts_71 hL_l rfl rfl ho_1) ?_
   refine HA.val (k := 9) (v := fieldPtr 19 vl (i_1).toNat 17) rfl rfl (by kernel_rfl) (by kernel_rfl) (want_none) rfl (fun _ hL_l => q_fldElem fa_77_1 hL_l rfl ho_1) ?_
   refine HA.val (k := 10) (v := .agg #[.bool (((gi l i_1).2).1), (((gi l i_1).2).2).1]) rfl rfl (by kernel_rfl) (by kernel_rfl) (want_none) rfl (fun _ hL_l => q_ldFieldAgg (n := 2) (cs := [.bool (((gi l i_1).2).1), (((gi l i_1).2).2).1]) ta_50 hL_l rfl ho_1 (by decide) rfl) ?_
   refine HA.one (k := 11) ⟨hL_l.is, (Go.Wk.at_nil _ _)⟩ (by kernel_rfl) ?_
   refine HS.call rfl (want_none) rfl (ec en_18 rfl rfl) (law19_Few_walk (fr := (Ow.own 77 19 e_api_Want vout_1 out_1 :: fr)) (((gi l i_1).2).1) ((((gi l i_1).2).2).2) ((((gi l i_1).2).2).1) hS (nff_api_Want_18 (NfL.at hN_l ho_1)) hM) ?_
   rintro _ h_4 ⟨F_3, r_0_1, r_1_1, vr_1_1, rfl, hk, hS, _, hL_1, hM⟩
   replace hK := hK.trans hk
   replace hN_l := hN_l.kp hk
   replace hL_l := hL_l.kp hk
   replace hN_2 := hN_2.kp hk
   replace hN_3 := hN_3.kp hk
   refine HA.val (k := 12) (v := .agg #[.bool (((gi l i_1).1).1), .int .u8 (b8 (((gi l i_1).1).2) 0), .int .u8 (b8 (((gi l i_1).1).2) 1), .int .u8 (b8 (((gi l i_1).1).2) 2), .int .u8 (b8 (((gi l i_1).1).2) 3), .int .u8 (b8 (((gi l i_1).1).2) 4), .int .u8 (b8 (((gi l i_1).1).2) 5), .int .u8 (b8 (((gi l i_1).1).2) 6), .int .u8 (b8 (((gi l i_1).1).2) 7), .int .u8 (b8 (((gi l i_1).1).2) 8), .int .u8 (b8 (((gi l i_1).1).2) 9), .int .u8 (b8 (((gi l i_1).1).2) 10), .int .u8 (b8 (((gi l i_1).1).2) 11), .int .u8 (b8 (((gi l i_1).1).2) 12), .int .u8 (b8 (((gi l i_1).1).2) 13), .int .u8 (b8 (((gi l i_1).1).2) 14), .int .u8 (b8 (((gi l i_1).1).2) 15), .bool r_0_1, vr_1_1]) rfl rfl (by kernel_rfl) (by kernel_rfl) (want_none) rfl (fun _ hL_l => q_build tp_77 (fill_cons (cs' := #[.bool (((gi l i_1).1).1), .int .u8 (b8 (((gi l i_1).1).2) 0), .int .u8 (b8 (((gi l i_1).1).2) 1), .int .u8 (b8 (((gi l i_1).1).2) 2), .int .u8 (b8 (((gi l i_1).1).2) 3), .int .u8 (b8 (((gi l i_1).1).2) 4), .int .u8 (b8 (((gi l i_1).1).2) 5), .int .u8 (b8 (((gi l i_1).1).2) 6), .int .u8 (b8 (((gi l i_1).1).2) 7), .int .u8 (b8 (((gi l i_1).1).2) 8), .int .u8 (b8 (((gi l i_1).1).2) 9), .int .u8 (b8 (((gi l i_1).1).2) 10), .int .u8 (b8 (((gi l i_1).1).2) 11), .int .u8 (b8 (((gi l i_1).1).2) 12), .int .u8 (b8 (((gi l i_1).1).2) 13), .int .u8 (b8 (((gi l i_1).1).2) 14), .int .u8 (b8 (((gi l i_1).1).2) 15), .bool false, .slice none 0 0]) (vc := (e_api_Addr ((gi l i_1).1)).toArray) rfl rfl rfl (Nat.le_of_ble_eq_true rfl) rfl (fill_cons (cs' := #[.bool (((gi l i_1).1).1), .int .u8 (b8 (((gi l i_1).1).2) 0), .int .u8 (b8 (((gi l i_1).1).2) 1), .int .u8 (b8 (((gi l i_1).1).2) 2), .int .u8 (b8 (((gi l i_1).1).2) 3), .int .u8 (b8 (((gi l i_1).1).2) 4), .int .u8 (b8 (((gi l i_1).1).2) 5), .int .u8 (b8 (((gi l i_1).1).2) 6), .int .u8 (b8 (((gi l i_1).1).2) 7), .int .u8 (b8 (((gi l i_1).1).2) 8), .int .u8 (b8 (((gi l i_1).1).2) 9), .int .u8 (b8 (((gi l i_1).1).2) 10), .int .u8 (b8 (((gi l i_1).1).2) 11), .int .u8 (b8 (((gi l i_1).1).2) 12), .int .u8 (b8 (((gi l i_1).1).2) 13), .int .u8 (b8 (((gi l i_1).1).2) 14), .int .u8 (b8 (((gi l i_1).1).2) 15), .bool r_0_1, vr_1_1]) (vc := #[.bool r_0_1, vr_1_1]) rfl rfl rfl (Nat.le_of_ble_eq_true rfl) rfl rfl))) ?_
   refine HA.one (k := 13) ⟨hL_l.is, (Go.Wk.at_nil _ _)⟩ (by kernel_rfl) ?_
   replace hM := hM vr_1_1
   refine HS.eff rfl (want_none) rfl (st_lit (enc := e_api_Want) (cells := #[.bool (((gi l i_1).1).1), .int .u8 (b8 (((gi l i_1).1).2) 0), .int .u8 (b8 (((gi l i_1).1).2) 1), .int .u8 (b8 (((gi l i_1).1).2) 2), .int .u8 (b8 (((gi l i_1).1).2) 3), .int .u8 (b8 (((gi l i_1).1).2) 4), .int .u8 (b8 (((gi l i_1).1).2) 5), .int .u8 (b8 (((gi l i_1).1).2) 6), .int .u8 (b8 (((gi l i_1).1).2) 7), .int .u8 (b8 (((gi l i_1).1).2) 8), .int .u8 (b8 (((gi l i_1).1).2) 9), .int .u8 (b8 (((gi l i_1).1).2) 10), .int .u8 (b8 (((gi l i_1).1).2) 11), .int .u8 (b8 (((gi l i_1).1).2) 12), .int .u8 (b8 (((gi l i_1).1).2) 13), .int .u8 (b8 (((gi l i_1).1).2) 14), .int .u8 (b8 (((gi l i_1).1).2) 15), .bool r_0_1, vr_1_1]) #[.bool false, .int .u8 0, .int .u8 0, .int .u8 0, .int .u8 0, .int .u8 0, .int .u8 0, .int .u8 0, .int .u8 0, .int .u8 0, .int .u8 0, .int .u8 0, .int .u8 0, .int .u8 0, .int .u8 0, .int .u8 0, .int .u8 0, .bool false, .slice none 0 0] ([(((gi l i_1).1), (r_0_1, (vr_1_1, r_1_1)))] : List T_api_Want) hS tl_71 (by decide) (by decide) (by kernel_rfl) (by kernel_rfl) rfl (by intro x hx; rfl) rfl) ?_
   rintro _ h_5 ⟨b_3, rfl, hS, hk⟩
   replace hK := hK.trans hk
   replace hN_l := hN_l.kp hk
   replace hL_l := hL_l.kp hk
   replace hN_2 := hN_2.kp hk
   replace hN_3 := hN_3.kp hk
   replace hL_1 := hL_1.kp hk
   have hN_4 : NfL nf_api_Want F_3 h_5 ([(((gi l i_1).1), (r_0_1, (vr_1_1, r_1_1)))] : List T_api_Want) := (NfL.cons (nfm_api_Want (((gi l i_1).1), (r_0_1, (vr_1_1, r_1_1))) hL_1) (NfL.nil _ _ _))
   refine HA.one (k := 14) ⟨hL_l.is, (Go.Wk.at_nil _ _)⟩ (by kernel_rfl) ?_
   obtain ⟨ho_2, hM⟩ := hM
   refine HS.eff rfl (want_none) rfl (st_append te_71 hS (i := 1) rfl (hS.own 0 rfl).slice rfl rfl rfl (fun a_ ha_ => nfo_api_Want (hN_4.is.all a_ ha_)) ho_2 (by omega)) ?_
   rintro v_1 h_6 ⟨hS, hk⟩
   replace hK := hK.trans hk
   replace hN_l := hN_l.kp hk
   replace hL_l := hL_l.kp hk
   replace hN_2 := hN_2.kp hk
   replace hN_3 := hN_3.kp hk
   replace hN_4 := hN_4.kp hk
   have hN_5 : NfL nf_api_Want F_3 h_6 (out_1 ++ ([(((gi l i_1).1), (r_0_1, (vr_1_1, r_1_1)))] : List T_api_Want)) := NfL.app hN_3 hN_4
   refine HA.val (k := 15) (v := v_1) rfl rfl (by kernel_rfl) (by kernel_rfl) (want_none) rfl (fun _ hL_l => q_assign rfl) ?_
   refine HA.nil ⟨hL_l.is, (Go.Wk.at_nil _ _)⟩ (by kernel_rfl) (blockQ_normal (thenQ_normal (?_)))
   refine HW.region ?_
   refine oM (.int .i64 i_1) rfl rfl ?_
   obtain ⟨ho_3, hM⟩ := hM
   refine oV (.int .i64 (i_1 + 1)) (q_addN _ rfl rfl rfl ho_3.1 ho_3.2) rfl ?_
   refine oA (.int .i64 (i_1 + 1)) rfl rfl ?_
   refine HO.nil (thenQ_normal (?_))
   replace hS : St F_3 (Ow.own 77 19 e_api_Want v_1 (out_1 ++ ([(((gi l i_1).1), (r_0_1, (vr_1_1, r_1_1)))] : List T_api_Want)) :: fr) h_6 := hS.perm2 [1] 2 rfl rfl
   rw [hKe_1] at hM
   exact ⟨(out_1 ++ ([(((gi l i_1).1), (r_0_1, (vr_1_1, r_1_1)))] : List T_api_Want), i_1 + 1), ⟨F_3, v_1, rfl, rfl, rfl, rfl, rfl, hK, hS, hN_l, hL_l, hN_2, hN_5, hM.1⟩, hM.2⟩
  ·
   replace hM := hM.2 c_2
   refine HW.exit (thenQ_exit (thenQ_exit (blockQ_exit (thenQ_normal (?_)))))
   refine HW.seq ?_
   refine HW.region ?_
   refine oM (vout_1) rfl rfl ?_
   refine oA (vout_1) rfl rfl ?_
   refine HO.nil (thenQ_normal (?_))
   refine HW.ret (?_)
   refine ⟨.inr rfl, vout_1, res1 rfl (rt rfl), ?_⟩
   exact ⟨F_2, out_1, vout_1, rfl, hK, hS, hN_l, hL_l, hN_3, hM⟩
def slices_Concat_s_api_Want_api_Want_l2 (slices : List T_s_api_Want) (Q : (List T_api_Want) → Prop) (K_2 : (List T_api_Want) → Int → Prop) (newslice_1 : List T_api_Want) (n_2 : Int) : Prop :=
 (n_2 < (slices.length : Int) → ((0 : Int) ≤ n_2 ∧ n_2 < (slices.length : Int)) ∧ (((newslice_1.length + ((gi slices n_2).2).length) * 56 ≤ 140737488355328) ∧ ((I64 (n_2 + 1)) ∧ (K_2 (newslice_1 ++ ((gi slices n_2).2)) (n_2 + 1))))) ∧ (¬ (n_2 < (slices.length : Int)) → Q newslice_1)
def slices_Concat_s_api_Want_api_Want_l1 (slices : List T_s_api_Want) (Q : (List T_api_Want) → Prop) (K_1 : Int → Int → Prop) (size_1 : Int) (n_1 : Int) : Prop :=
 (n_1 < (slices.length : Int) → ((0 : Int) ≤ n_1 ∧ n_1 < (slices.length : Int)) ∧ ((I64 (size_1 + (((gi slices n_1).2).length : Int))) ∧ (((size_1 + (((gi slices n_1).2).length : Int)) < 0 → False) ∧ (¬ ((size_1 + (((gi slices n_1).2).length : Int)) < 0) → (I64 (n_1 + 1)) ∧ (K_1 (size_1 + (((gi slices n_1).2).length : Int)) (n_1 + 1)))))) ∧ (¬ (n_1 < (slices.length : Int)) → ((0 : Int) ≤ size_1 ∧ (size_1 : Int).toNat * 56 ≤ 140737488355328 ∧ size_1 ≤ 4611686018427387904) ∧ (loopW (fun (K_2 : (List T_api_Want × Int) → Prop) (s : List T_api_Want × Int) => slices_Concat_s_api_Want_api_Want_l2 slices Q (fun newslice_1 n_2 => K_2 (newslice_1, n_2)) s.1 s.2) ([], 0)))
def slices_Concat_s_api_Want_api_Want_W (slices : List T_s_api_Want) (Q : (List T_api_Want) → Prop) : Prop :=
 loopW (fun (K_1 : (Int × Int) → Prop) (s : Int × Int) => slices_Concat_s_api_Want_api_Want_l1 slices Q (fun size_1 n_1 => K_1 (size_1, n_1)) s.1 s.2) (0, 0)
theorem slices_Concat_s_api_Want_api_Want_walk {F : Fz} {fr : List Ow} {h0 : Heap} (slices : List T_s_api_Want) (vslices : Value) (hS : St F (Ow.own 71 1 e_s_api_Want vslices slices :: fr) h0) (hN_slices : NfL nf_s_api_Want F h0 slices) (hD : DM.on = false) {Q : (List T_api_Want) → Prop} (hM : slices_Concat_s_api_Want_api_Want_W slices Q) :
  HC Tryz.prog 129 #[vslices] h0 fun u h' => ∃ (F' : Fz) (r_1 : List T_api_Want) (vr_1 : Value), u = vr_1 ∧ Kp F h0 F' h' ∧ St F' (Ow.own 77 19 e_api_Want vr_1 r_1 :: fr) h' ∧ (NfL nf_s_api_Want F' h' slices) ∧ (NfL nf_api_Want F' h' r_1) ∧ Q r_1 := by
 unfold slices_Concat_s_api_Want_api_Want_W at hM
 have hK := Kp.refl F h0
 refine HC.of_HW (n := 36) Tryz.func129 rfl rfl (Nat.le_of_ble_eq_true rfl) ?_
 refine HW.seq ?_
 refine HW.region ?_
 refine oA (.slice none 0 0) rfl rfl ?_
 refine HO.nil (thenQ_normal (?_))
 refine HW.seq ?_
 refine HW.region ?_
 refine oA (.int .i64 0) rfl rfl ?_
 refine HO.nil (thenQ_normal (?_))
 refine HW.seq ?_
 refine HW.seq ?_
 refine HW.region ?_
 refine oM (vslices) rfl rfl ?_
 refine oV (.int .i64 (slices.length : Int)) (q_len ts_129 (shp (hS.own 0 rfl).slice) rfl rfl) rfl ?_
 refine oM (.int .i64 0) rfl rfl ?_
 refine HO.nil (thenQ_normal (?_))
 refine HW.block ?_
 obtain ⟨I_1, m_1, hI_1, hR_1⟩ := hM
 refine HW.loop (S := Int × Int) (fun s f h => match s with | (size_1, n_1) => ∃ (F' : Fz), f 0 = vslices ∧ f 2 = .slice none 0 0 ∧ f 3 = .int .i64 size_1 ∧ f 9 = vslices ∧ f 10 = .int .i64 (slices.length : Int) ∧ f 11 = .int .i64 n_1 ∧ Kp F h0 F' h ∧ St F' (Ow.own 71 1 e_s_api_Want vslices slices :: fr) h ∧ (NfL nf_s_api_Want F' h slices) ∧ I_1 (size_1, n_1)) m_1 (0, 0) ⟨F, rfl, rfl, rfl, rfl, rfl, rfl, hK, hS, hN_slices, hI_1⟩ ?_
 rintro ⟨size_1, n_1⟩ f_1 h_1 ⟨F_1, e0, e2, e3, e9, e10, e11, hK, hS, hN_slices, hI0⟩
 obtain ⟨K_1, hKe_1⟩ : ∃ K : Int → Int → Prop, K = fun size_1' n_1' => I_1 (size_1', n_1') ∧ m_1 (size_1', n_1') < m_1 (size_1, n_1) := ⟨_, rfl⟩
 have hM : slices_Concat_s_api_Want_api_Want_l1 slices Q K_1 size_1 n_1 := by rw [hKe_1]; exact hR_1 (size_1, n_1) hI0
 unfold slices_Concat_s_api_Want_api_Want_l1 at hM
 refine HW.fr [(0, vslices), (2, .slice none 0 0), (3, .int .i64 size_1), (9, vslices), (10, .int .i64 (slices.length : Int)), (11, .int .i64 n_1)] ⟨e0, e2, e3, e9, e10, e11, trivial⟩ ?_
 refine HW.seq ?_
 refine HW.region ?_
 refine oV (.bool (decide (n_1 < (slices.length : Int)))) (q_lss rfl rfl) rfl ?_
 refine HO.nil (thenQ_normal (?_))
 refine HW.seq ?_
 refine HW.cond (decide (n_1 < (slices.length : Int))) rfl (fun c_1 => ?_) (fun c_1 => ?_)
 ·
  replace hM := hM.1 (of_decide_eq_true c_1)
  refine HW.skip (thenQ_normal (?_))
  refine HW.seq ?_
  refine HW.block ?_
  refine HW.seq ?_
  refine HW.region ?_
  obtain ⟨ho_1, hM⟩ := hM
  refine oV (elemPtr 1 vslices (n_1).toNat) (q_idx ts_129 (hS.own 0 rfl).slice rfl rfl ho_1) rfl ?_
  refine oV ((gi slices n_1).1) (q_ldElem to_71 (hS.own 0 rfl).slice rfl ho_1 rfl) rfl ?_
  refine oA ((gi slices n_1).1) rfl rfl ?_
  refine HO.nil (thenQ_normal (?_))
  refine HW.seq ?_
  refine HW.region ?_
  refine oM (.int .i64 size_1) rfl rfl ?_
  refine oM ((gi slices n_1).1) rfl rfl ?_
  refine oV (.int .i64 (((gi slices n_1).2).length : Int)) (q_len ts_71 (shp (nfi_s_api_Want_0 (NfI.at hN_slices.is ho_1))) rfl rfl) rfl ?_
  obtain ⟨ho_2, hM⟩ := hM
  refine oV (.int .i64 (size_1 + (((gi slices n_1).2).length : Int))) (q_addN _ rfl rfl rfl ho_2.1 ho_2.2) rfl ?_
  refine oA (.int .i64 (size_1 + (((gi slices n_1).2).length : Int))) rfl rfl ?_
  refine HO.nil (thenQ_normal (?_))
  refine HW.seq ?_
  refine HW.region ?_
  refine oM (.int .i64 (size_1 + (((gi slices n_1).2).length : Int))) rfl rfl ?_
  refine oV (.bool (decide ((size_1 + (((gi slices n_1).2).length : Int)) < 0))) (q_lss rfl rfl) rfl ?_
  refine HO.nil (thenQ_normal (?_))
  refine HW.cond (decide ((size_1 + (((gi slices n_1).2).length : Int)) < 0)) rfl (fun c_2 => ?_) (fun c_2 => ?_)
  ·
   replace hM := hM.1 (of_decide_eq_true c_2)
   refine HW.region ?_
   refine oV (.iface 9 (.string (bs [108, 101, 110, 32, 111, 117, 116, 32, 111, 102, 32, 114, 97, 110, 103, 101]))) (q_mkIfaceS Tryz.underlying9 rfl) rfl ?_
   exact hM.elim
  ·
   replace hM := hM.2 (of_decide_eq_false c_2)
   refine HW.skip (blockQ_normal (thenQ_normal (?_)))
   refine HW.region ?_
   obtain ⟨ho_3, hM⟩ := hM
   refine oV (.int .i64 (n_1 + 1)) (q_addN _ rfl rfl rfl ho_3.1 ho_3.2) rfl ?_
   refine oM (.int .i64 (n_1 + 1)) rfl rfl ?_
   refine HO.nil (thenQ_normal (?_))
   rw [hKe_1] at hM
   exact ⟨(size_1 + (((gi slices n_1).2).length : Int), n_1 + 1), ⟨F_1, rfl, rfl, rfl, rfl, rfl, rfl, hK, hS, hN_slices, hM.1⟩, hM.2⟩
 ·
  replace hM := hM.2 (of_decide_eq_false c_1)
  refine HW.exit (thenQ_exit (thenQ_exit (blockQ_exit (thenQ_normal (?_)))))
  refine HW.seq ?_
  refine HW.region ?_
  refine oM (.int .i64 size_1) rfl rfl ?_
  obtain ⟨ho_4, hM⟩ := hM
  refine HO.call (want_none) rfl (ec en_153 rfl rfl) (growNil_hc (enc := e_api_Want) hD Tryz.growW te_71 rfl ho_4.1 ho_4.2.1 ho_4.2.2 hS) ?_
  rintro v_1 h_2 ⟨hS, hk⟩
  replace hK := hK.trans hk
  replace hN_slices := hN_slices.kp hk
  have hN_2 : NfL nf_api_Want F_1 h_2 ([] : List T_api_Want) := NfL.nil _ _ _
  refine oA (v_1) rfl rfl ?_
  refine HO.nil (thenQ_normal (?_))
  refine HW.seq ?_
  refine HW.seq ?_
  refine HW.region ?_
  refine oM (vslices) rfl rfl ?_
  refine oV (.int .i64 (slices.length : Int)) (q_len ts_129 (shp (hS.own 1 rfl).slice) rfl rfl) rfl ?_
  refine oM (.int .i64 0) rfl rfl ?_
  refine HO.nil (thenQ_normal (?_))
  refine HW.block ?_
  obtain ⟨I_2, m_2, hI_2, hR_2⟩ := hM
  refine HW.loop (S := List T_api_Want × Int) (fun s f h => match s with | (newslice_1, n_2) => ∃ (F' : Fz) (vnewslice_1 : Value), f 2 = .slice none 0 0 ∧ f 6 = vnewslice_1 ∧ f 25 = vslices ∧ f 26 = .int .i64 (slices.length : Int) ∧ f 27 = .int .i64 n_2 ∧ Kp F h0 F' h ∧ St F' (Ow.own 77 19 e_api_Want vnewslice_1 newslice_1 :: Ow.own 71 1 e_s_api_Want vslices slices :: fr) h ∧ (NfL nf_s_api_Want F' h slices) ∧ (NfL nf_api_Want F' h ([] : List T_api_Want)) ∧ (NfL nf_api_Want F' h newslice_1) ∧ I_2 (newslice_1, n_2)) m_2 ([], 0) ⟨F_1, v_1, rfl, rfl, rfl, rfl, rfl, hK, hS, hN_slices, hN_2, hN_2, hI_2⟩ ?_
  rintro ⟨newslice_1, n_2⟩ f_2 h_3 ⟨F_2, vnewslice_1, e2, e6, e25, e26, e27, hK, hS, hN_slices, hN_2, hN_3, hI0⟩
  obtain ⟨K_2, hKe_2⟩ : ∃ K : (List T_api_Want) → Int → Prop, K = fun newslice_1' n_2' => I_2 (newslice_1', n_2') ∧ m_2 (newslice_1', n_2') < m_2 (newslice_1, n_2) := ⟨_, rfl⟩
  have hM : slices_Concat_s_api_Want_api_Want_l2 slices Q K_2 newslice_1 n_2 := by rw [hKe_2]; exact hR_2 (newslice_1, n_2) hI0
  unfold slices_Concat_s_api_Want_api_Want_l2 at hM
  refine HW.fr [(2, .slice none 0 0), (6, vnewslice_1), (25, vslices), (26, .int .i64 (slices.length : Int)), (27, .int .i64 n_2)] ⟨e2, e6, e25, e26, e27, trivial⟩ ?_
  refine HW.seq ?_
  refine HW.region ?_
  refine oV (.bool (decide (n_2 < (slices.length : Int)))) (q_lss rfl rfl) rfl ?_
  refine HO.nil (thenQ_normal (?_))
  refine HW.seq ?_
  refine HW.cond (decide (n_2 < (slices.length : Int))) rfl (fun c_3 => ?_) (fun c_3 => ?_)
  ·
   replace hM := hM.1 (of_decide_eq_true c_3)
   refine HW.skip (thenQ_normal (?_))
   refine HW.seq ?_
   refine HW.block ?_
   refine HW.seq ?_
   refine HW.region ?_
   obtain ⟨ho_5, hM⟩ := hM
   refine oV (elemPtr 1 vslices (n_2).toNat) (q_idx ts_129 (hS.own 1 rfl).slice rfl rfl ho_5) rfl ?_
   refine oV ((gi slices n_2).1) (q_ldElem to_71 (hS.own 1 rfl).slice rfl ho_5 rfl) rfl ?_
   refine oA ((gi slices n_2).1) rfl rfl ?_
   refine HO.nil (thenQ_normal (?_))
   refine HW.region ?_
   refine oM (vnewslice_1) rfl rfl ?_
   refine oM ((gi slices n_2).1) rfl rfl ?_
   obtain ⟨ho_6, hM⟩ := hM
   refine HO.eff (want_none) rfl (st_append te_71 hS (i := 0) rfl (nfi_s_api_Want_0 (NfI.at hN_slices.is ho_5)) rfl rfl rfl (fun a_ ha_ => nfo_api_Want ((nfj_s_api_Want_0 (NfI.at hN_slices.is ho_5)).all a_ ha_)) ho_6 (by omega)) ?_
   rintro v_2 h_4 ⟨hS, hk⟩
   replace hK := hK.trans hk
   replace hN_slices := hN_slices.kp hk
   replace hN_2 := hN_2.kp hk
   replace hN_3 := hN_3.kp hk
   have hN_4 : NfL nf_api_Want F_2 h_4 (newslice_1 ++ ((gi slices n_2).2)) := NfL.app hN_3 (nfn_s_api_Want_0 (NfL.at hN_slices ho_5))
   refine oA (v_2) rfl rfl ?_
   refine HO.nil (blockQ_normal (thenQ_normal (?_)))
   refine HW.region ?_
   obtain ⟨ho_7, hM⟩ := hM
   refine oV (.int .i64 (n_2 + 1)) (q_addN _ rfl rfl rfl ho_7.1 ho_7.2) rfl ?_
   refine oM (.int .i64 (n_2 + 1)) rfl rfl ?_
   refine HO.nil (thenQ_normal (?_))
   rw [hKe_2] at hM
   exact ⟨(newslice_1 ++ ((gi slices n_2).2), n_2 + 1), ⟨F_2, v_2, rfl, rfl, rfl, rfl, rfl, hK, hS, hN_slices, hN_2, hN_4, hM.1⟩, hM.2⟩
  ·
   replace hM := hM.2 (of_decide_eq_false c_3)
   refine HW.exit (thenQ_exit (thenQ_exit (blockQ_exit (thenQ_normal (?_)))))
   refine HW.seq ?_
   refine HW.region ?_
   refine oM (vnewslice_1) rfl rfl ?_
   refine oA (vnewslice_1) rfl rfl ?_
   refine HO.nil (thenQ_normal (?_))
   refine HW.ret (?_)
   refine ⟨.inr rfl, vnewslice_1, res1 rfl (rt rfl), ?_⟩
   replace hS : St F_2 (Ow.own 77 19 e_api_Want vnewslice_1 newslice_1 :: fr) h_3 := hS.perm2 [0] 2 rfl rfl
   exact ⟨F_2, newslice_1, vnewslice_1, rfl, hK, hS, hN_slices, hN_3, hM⟩
def srcs_Or_W (a : List T_api_Addr) (b : List T_api_Addr) (Q : (List T_api_Addr) → Prop) : Prop :=
 ∃ cf_1 : T_api_Addr → T_api_Addr → Int, (∀ x0 x1, addr_Cmp_W x0 x1 (fun r => r = cf_1 x0 x1)) ∧ (srcs_walk_api_Addr_W a b cf_1 true true true (fun r_2 => Q r_2))
theorem srcs_Or_walk {F : Fz} {fr : List Ow} {h0 : Heap} (a : List T_api_Addr) (b : List T_api_Addr) (va : Value) (vb : Value) (hS : St F (fr) h0) (hL_a : SliceF F h0 17 e_api_Addr va a) (hL_b : SliceF F h0 17 e_api_Addr vb b) {Q : (List T_api_Addr) → Prop} (hM : srcs_Or_W a b Q) :
  HC Tryz.prog 155 #[va, vb] h0 fun u h' => ∃ (F' : Fz) (r_1 : List T_api_Addr) (vr_1 : Value), u = vr_1 ∧ Kp F h0 F' h' ∧ St F' (Ow.own 28 17 e_api_Addr vr_1 r_1 :: fr) h' ∧ (SliceF F' h' 17 e_api_Addr va a) ∧ (SliceF F' h' 17 e_api_Addr vb b) ∧ Q r_1 := by
 unfold srcs_Or_W at hM
 have hK := Kp.refl F h0
 refine HC.of_HW (n := 8) Tryz.func155 rfl rfl (Nat.le_of_ble_eq_true rfl) ?_
 refine HW.seq ?_
 refine HW.region ?_
 refine oA (.slice none 0 0) rfl rfl ?_
 refine HO.nil (thenQ_normal (?_))
 refine HW.seq ?_
 refine HW.region ?_
 refine oM (va) rfl rfl ?_
 refine oM (vb) rfl rfl ?_
 obtain ⟨cf_1, hc_1, hM⟩ := hM
 have hF_1 : FnP Tryz.prog F h0 106 #[] #[] (fun x : T_api_Addr × T_api_Addr => [.agg (e_api_Addr x.1).toArray, .agg (e_api_Addr x.2).toArray]) (fun x => .int .i64 (cf_1 x.1 x.2)) := FnP.of en_106 (fun x h' hk_ => @HC.mono ⟨true⟩ _ _ _ _ _ _ (@addr_Cmp_walk ⟨true⟩ (allF h') [] h' x.1 x.2  (St.init h')  (fun r => r = cf_1 x.1 x.2) (hc_1 x.1 x.2)) (fun u h'' ⟨F', r, hu, k_, _, hr⟩ => ⟨by rw [hu, hr], F', k_⟩))
 refine HO.call (want_none) rfl (ec en_165 rfl rfl) (srcs_walk_api_Addr_walk (fr := (fr)) a b cf_1 true true true va vb 106 (#[]) (#[]) hS hL_a hL_b hF_1 hM) ?_
 rintro vr_2 h_1 ⟨F_1, r_2, _, rfl, hk, hS, _, _, _, hM⟩
 replace hK := hK.trans hk
 replace hL_a := hL_a.kp hk
 replace hL_b := hL_b.kp hk
 refine oA (vr_2) rfl rfl ?_
 refine HO.nil (thenQ_normal (?_))
 refine HW.ret (?_)
 refine ⟨.inr rfl, vr_2, res1 rfl (rt rfl), ?_⟩
 exact ⟨F_1, r_2, vr_2, rfl, hK, hS, hL_a, hL_b, hM⟩
def merge_All_l1 (l : List T_api_Filter) (Q : Bool → (List T_api_Addr) → Prop) (K_1 : (List T_api_Addr) → Bool → (List T_api_Addr) → Int → Prop) (some_1 : List T_api_Addr) (out_0_1 : Bool) (out_1_1 : List T_api_Addr) (n_1 : Int) : Prop :=
 (n_1 < (l.length : Int) → ((0 : Int) ≤ n_1 ∧ n_1 < (l.length : Int)) ∧ (((!((gi l n_1).1)) = true → srcs_Or_W some_1 (((gi l n_1).2).2) (fun r_1 => (I64 (n_1 + 1)) ∧ (K_1 r_1 out_0_1 out_1_1 (n_1 + 1)))) ∧ ((!((gi l n_1).1)) = false → ((!out_0_1) = true → (I64 (n_1 + 1)) ∧ (K_1 some_1 true (((gi l n_1).2).2) (n_1 + 1))) ∧ ((!out_0_1) = false → srcs_And_W out_1_1 (((gi l n_1).2).2) (fun r_2 => (I64 (n_1 + 1)) ∧ (K_1 some_1 out_0_1 r_2 (n_1 + 1))))))) ∧ (¬ (n_1 < (l.length : Int)) → ((!out_0_1) = true → Q false some_1) ∧ ((!out_0_1) = false → srcs_Minus_W out_1_1 some_1 (fun r_3 => Q out_0_1 r_3)))
def merge_All_W (l : List T_api_Filter) (Q : Bool → (List T_api_Addr) → Prop) : Prop :=
 loopW (fun (K_1 : (List T_api_Addr × Bool × List T_api_Addr × Int) → Prop) (s : List T_api_Addr × Bool × List T_api_Addr × Int) => merge_All_l1 l Q (fun some_1 out_0_1 out_1_1 n_1 => K_1 (some_1, out_0_1, out_1_1, n_1)) s.1 s.2.1 s.2.2.1 s.2.2.2) ([], false, [], 0)
theorem merge_All_walk {F : Fz} {fr : List Ow} {h0 : Heap} (l : List T_api_Filter) (vl : Value) (hS : St F (fr) h0) (hN_l : NfL nf_api_Filter F h0 l) (hL_l : SliceF F h0 2 e_api_Filter vl l) {Q : Bool → (List T_api_Addr) → Prop} (hM : merge_All_W l Q) :
  HC Tryz.prog 131 #[vl] h0 fun u h' => ∃ (F' : Fz) (r_0_1 : Bool) (r_1_1 : List T_api_Addr) (vr_1_1 : Value), u = .agg #[.bool r_0_1, vr_1_1] ∧ Kp F h0 F' h' ∧ St F' (Ow.own 28 17 e_api_Addr vr_1_1 r_1_1 :: fr) h' ∧ (NfL nf_api_Filter F' h' l) ∧ (SliceF F' h' 2 e_api_Filter vl l) ∧ Q r_0_1 r_1_1 := by
 unfold merge_All_W at hM
 have hK := Kp.refl F h0
 refine HC.of_HW (n := 46) Tryz.func131 rfl rfl (Nat.le_of_ble_eq_true rfl) ?_
 refine HW.seq ?_
 refine HW.region ?_
 refine HO.eff (want_none) rfl (st_alloc (c := #[.bool false, .slice none 0 0]) hS tz_50 rfl) ?_
 rintro _ h_1 ⟨b_1, rfl, hS, hk⟩
 replace hK := hK.trans hk
 replace hN_l := hN_l.kp hk
 replace hL_l := hL_l.kp hk
 refine HO.nil (thenQ_normal (?_))
 refine HW.seq ?_
 refine HW.region ?_
 refine oA (.slice none 0 0) rfl rfl ?_
 refine HO.nil (thenQ_normal (?_))
 refine HW.seq ?_
 refine HW.region ?_
 refine HO.eff (want_none) rfl (st_alloc (c := #[.bool false, .slice none 0 0]) hS tz_50 rfl) ?_
 rintro _ h_2 ⟨b_2, rfl, hS, hk⟩
 replace hK := hK.trans hk
 replace hN_l := hN_l.kp hk
 replace hL_l := hL_l.kp hk
 refine HO.nil (thenQ_normal (?_))
 refine HW.seq ?_
 refine HW.seq ?_
 refine HW.region ?_
 refine oM (vl) rfl rfl ?_
 refine oV (.int .i64 (l.length : Int)) (q_len ts_133 (shp hL_l.is) rfl rfl) rfl ?_
 refine oM (.int .i64 0) rfl rfl ?_
 refine HO.nil (thenQ_normal (?_))
 refine HW.block ?_
 obtain ⟨I_1, m_1, hI_1, hR_1⟩ := hM
 replace hS := hS.nilOwn 28 17 e_api_Addr
 replace hS : St F (Ow.box b_1 50 #[.bool false, .slice none 0 0] :: Ow.own 28 17 e_api_Addr (.slice none 0 0) ([] : List T_api_Addr) :: Ow.box b_2 50 #[.bool false, .slice none 0 0] :: fr) h_2 := hS.perm2 [2, 0, 1] 3 rfl rfl
 refine HW.loop (S := List T_api_Addr × Bool × List T_api_Addr × Int) (fun s f h => match s with | (some_1, out_0_1, out_1_1, n_1) => ∃ (F' : Fz) (vsome_1 : Value) (vout_1_1 : Value), f 2 = .pointer (some ⟨b_1, 0, none⟩) ∧ f 3 = vsome_1 ∧ f 4 = .pointer (some ⟨b_2, 0, none⟩) ∧ f 7 = vl ∧ f 8 = .int .i64 (l.length : Int) ∧ f 9 = .int .i64 n_1 ∧ Kp F h0 F' h ∧ St F' (Ow.box b_1 50 #[.bool false, .slice none 0 0] :: Ow.own 28 17 e_api_Addr vsome_1 some_1 :: Ow.box b_2 50 #[.bool out_0_1, vout_1_1] :: fr) h ∧ (NfL nf_api_Filter F' h l) ∧ (SliceF F' h 2 e_api_Filter vl l) ∧ (SliceF F' h 17 e_api_Addr vout_1_1 out_1_1) ∧ I_1 (some_1, out_0_1, out_1_1, n_1)) m_1 ([], false, [], 0) ⟨F, .slice none 0 0, .slice none 0 0, rfl, rfl, rfl, rfl, rfl, rfl, hK, hS, hN_l, hL_l, (SliceF.nil _ _ _ _), hI_1⟩ ?_
 rintro ⟨some_1, out_0_1, out_1_1, n_1⟩ f_1 h_3 ⟨F_1, vsome_1, vout_1_1, e2, e3, e4, e7, e8, e9, hK, hS, hN_l, hL_l, hL_1, hI0⟩
 obtain ⟨K_1, hKe_1⟩ : ∃ K : (List T_api_Addr) → Bool → (List T_api_Addr) → Int → Prop, K = fun some_1' out_0_1' out_1_1' n_1' => I_1 (some_1', out_0_1', out_1_1', n_1') ∧ m_1 (some_1', out_0_1', out_1_1', n_1') < m_1 (some_1, out_0_1, out_1_1, n_1) := ⟨_, rfl⟩
 have hM : merge_All_l1 l Q K_1 some_1 out_0_1 out_1_1 n_1 := by rw [hKe_1]; exact hR_1 (some_1, out_0_1, out_1_1, n_1) hI0
 unfold merge_All_l1 at hM
 refine HW.fr [(2, .pointer (some ⟨b_1, 0, none⟩)), (3, vsome_1), (4, .pointer (some ⟨b_2, 0, none⟩)), (7, vl), (8, .int .i64 (l.length : Int)), (9, .int .i64 n_1)] ⟨e2, e3, e4, e7, e8, e9, trivial⟩ ?_
 refine HW.seq ?_
 refine HW.region ?_
 refine oV (.bool (decide (n_1 < (l.length : Int)))) (q_lss rfl rfl) rfl ?_
 refine HO.nil (thenQ_normal (?_))
 refine HW.seq ?_
 refine HW.cond (decide (n_1 < (l.length : Int))) rfl (fun c_1 => ?_) (fun c_1 => ?_)
 ·
  replace hM := hM.1 (of_decide_eq_true c_1)
  refine HW.skip (thenQ_normal (?_))
  refine HW.seq ?_
  refine HW.block ?_
  refine HW.seq ?_
  refine HW.region ?_
  obtain ⟨ho_1, hM⟩ := hM
  refine oV (elemPtr 2 vl (n_1).toNat) (q_idx ts_133 hL_l.is rfl rfl ho_1) rfl ?_
  refine oV (.agg #[.bool ((gi l n_1).1), ((gi l n_1).2).1]) (q_ldElemAgg (cs := [.bool ((gi l n_1).1), ((gi l n_1).2).1]) ta_50 hL_l.is rfl ho_1 rfl) rfl ?_
  refine HO.eff (want_none) rfl (st_alloc (c := #[.bool false, .slice none 0 0]) hS tz_50 rfl) ?_
  rintro _ h_4 ⟨b_3, rfl, hS, hk⟩
  replace hK := hK.trans hk
  replace hN_l := hN_l.kp hk
  replace hL_l := hL_l.kp hk
  replace hL_1 := hL_1.kp hk
  refine HO.sto (want_none) rfl (st_storeAgg (c' := #[.bool ((gi l n_1).1), ((gi l n_1).2).1]) hS (i := 0) rfl ta_50 rfl rfl rfl (List.forall_mem_cons.2 ⟨rfl, (List.forall_mem_cons.2 ⟨(shp (nfi_api_Filter_1 (NfI.at hN_l.is ho_1))).one, (fun _ h => by cases h)⟩)⟩) (Nat.le_of_ble_eq_true rfl) rfl) ?_
  rintro h_5 ⟨hS, hk⟩
  replace hK := hK.trans hk
  replace hN_l := hN_l.kp hk
  replace hL_l := hL_l.kp hk
  replace hL_1 := hL_1.kp hk
  refine HO.nil (thenQ_normal (?_))
  refine HW.block ?_
  refine HW.seq ?_
  refine HW.region ?_
  refine oV (.pointer (some ⟨b_3, 0, none⟩)) (q_fieldAddr fa_50_0 rfl rfl) rfl ?_
  refine oV (.bool ((gi l n_1).1)) (q_load to_4 rfl (Blk.cell (hS.box 0 rfl) rfl)) rfl ?_
  refine oV (.bool (!((gi l n_1).1))) (q_not rfl) rfl ?_
  refine oA (.bool (!((gi l n_1).1))) rfl rfl ?_
  refine HO.nil (thenQ_normal (?_))
  refine HW.cond (!((gi l n_1).1)) rfl (fun c_2 => ?_) (fun c_2 => ?_)
  ·
   replace hM := hM.1 c_2
   refine HW.region ?_
   refine oM (vsome_1) rfl rfl ?_
   refine oV (.pointer (some ⟨b_3, 1, none⟩)) (q_fieldAddr fa_50_1 rfl rfl) rfl ?_
   refine oV (((gi l n_1).2).1) (q_load to_29 rfl (Blk.cell (hS.box 0 rfl) rfl)) rfl ?_
   replace hS : St F_1 (Ow.own 28 17 e_api_Addr vsome_1 some_1 :: Ow.box b_3 50 #[.bool ((gi l n_1).1), ((gi l n_1).2).1] :: Ow.box b_1 50 #[.bool false, .slice none 0 0] :: Ow.box b_2 50 #[.bool out_0_1, vout_1_1] :: fr) h_5 := hS.perm2 [2, 0, 1, 3] 4 rfl rfl
   have hZ_1 := hS
   have hkz_1 := (hS.freeze).2
   replace hS := hS.freeze.1
   have hL_2 : SliceF (fun bz_ => F_1 bz_ ∨ (Ow.own 28 17 e_api_Addr vsome_1 some_1).foot bz_) h_5 17 e_api_Addr vsome_1 some_1 := ⟨(hZ_1.own 0 rfl).slice, fun _ b hb => .inr hb⟩
   refine HO.call (want_none) rfl (ec en_155 rfl rfl) (srcs_Or_walk (fr := (Ow.box b_3 50 #[.bool ((gi l n_1).1), ((gi l n_1).2).1] :: Ow.box b_1 50 #[.bool false, .slice none 0 0] :: Ow.box b_2 50 #[.bool out_0_1, vout_1_1] :: fr)) some_1 (((gi l n_1).2).2) vsome_1 (((gi l n_1).2).1) hS hL_2 (SliceF.kp (nff_api_Filter_1 (NfL.at hN_l ho_1)) hkz_1) hM) ?_
   rintro vr_1 h_6 ⟨F_2, r_1, _, rfl, hk, hS, _, _, hM⟩
   obtain ⟨hS, hk⟩ := hZ_1.back hk hS
   generalize (fun bz_ => F_2 bz_ ∧ ¬ (Ow.own 28 17 e_api_Addr vsome_1 some_1).foot bz_) = F_3 at hS hk
   replace hK := hK.trans hk
   replace hN_l := hN_l.kp hk
   replace hL_l := hL_l.kp hk
   replace hL_1 := hL_1.kp hk
   refine oA (vr_1) rfl rfl ?_
   refine HO.nil (blockQ_normal (blockQ_normal (thenQ_normal (?_))))
   refine HW.region ?_
   obtain ⟨ho_2, hM⟩ := hM
   refine oV (.int .i64 (n_1 + 1)) (q_addN _ rfl rfl rfl ho_2.1 ho_2.2) rfl ?_
   refine oM (.int .i64 (n_1 + 1)) rfl rfl ?_
   refine HO.nil (thenQ_normal (?_))
   replace hS : St F_3 (Ow.box b_1 50 #[.bool false, .slice none 0 0] :: Ow.own 28 17 e_api_Addr vr_1 r_1 :: Ow.box b_2 50 #[.bool out_0_1, vout_1_1] :: fr) h_6 := hS.perm2 [3, 1, 4] 5 rfl rfl
   rw [hKe_1] at hM
   exact ⟨(r_1, out_0_1, out_1_1, n_1 + 1), ⟨F_3, vr_1, vout_1_1, rfl, rfl, rfl, rfl, rfl, rfl, hK, hS, hN_l, hL_l, hL_1, hM.1⟩, hM.2⟩
  ·
   replace hM := hM.2 c_2
   refine HW.seq ?_
   refine HW.region ?_
   refine oV (.pointer (some ⟨b_2, 0, none⟩)) (q_fieldAddr fa_50_0 rfl rfl) rfl ?_
   refine oV (.bool out_0_1) (q_load to_4 rfl (Blk.cell (hS.box 3 rfl) rfl)) rfl ?_
   refine oV (.bool (!out_0_1)) (q_not rfl) rfl ?_
   refine oA (.bool (!out_0_1)) rfl rfl ?_
   refine HO.nil (thenQ_normal (?_))
   refine HW.cond (!out_0_1) rfl (fun c_3 => ?_) (fun c_3 => ?_)
   ·
    replace hM := hM.1 c_3
    refine HW.region ?_
    refine oV (.pointer (some ⟨b_3, 1, none⟩)) (q_fieldAddr fa_50_1 rfl rfl) rfl ?_
    refine oV (((gi l n_1).2).1) (q_load to_29 rfl (Blk.cell (hS.box 0 rfl) rfl)) rfl ?_
    refine oV (.agg #[.bool true, ((gi l n_1).2).1]) (q_build tp_50 (fill_cons (cs' := #[.bool true, .slice none 0 0]) (vc := #[.bool true]) rfl rfl rfl (Nat.le_of_ble_eq_true rfl) rfl (fill_cons (cs' := #[.bool true, ((gi l n_1).2).1]) (vc := #[((gi l n_1).2).1]) rfl (shp (nfi_api_Filter_1 (NfI.at hN_l.is ho_1))).cells rfl (Nat.le_of_ble_eq_true rfl) rfl rfl))) rfl ?_
    refine HO.sto (want_none) rfl (st_storeAgg (c' := #[.bool true, ((gi l n_1).2).1]) hS (i := 3) rfl ta_50 rfl rfl rfl (List.forall_mem_cons.2 ⟨rfl, (List.forall_mem_cons.2 ⟨(shp (nfi_api_Filter_1 (NfI.at hN_l.is ho_1))).one, (fun _ h => by cases h)⟩)⟩) (Nat.le_of_ble_eq_true rfl) rfl) ?_
    rintro h_7 ⟨hS, hk⟩
    replace hK := hK.trans hk
    replace hN_l := hN_l.kp hk
    replace hL_l := hL_l.kp hk
    refine HO.nil (blockQ_normal (blockQ_normal (thenQ_normal (?_))))
    refine HW.region ?_
    obtain ⟨ho_3, hM⟩ := hM
    refine oV (.int .i64 (n_1 + 1)) (q_addN _ rfl rfl rfl ho_3.1 ho_3.2) rfl ?_
    refine oM (.int .i64 (n_1 + 1)) rfl rfl ?_
    refine HO.nil (thenQ_normal (?_))
    replace hS : St F_1 (Ow.box b_1 50 #[.bool false, .slice none 0 0] :: Ow.own 28 17 e_api_Addr vsome_1 some_1 :: Ow.box b_2 50 #[.bool true, ((gi l n_1).2).1] :: fr) h_7 := hS.perm2 [1, 2, 3] 4 rfl rfl
    rw [hKe_1] at hM
    exact ⟨(some_1, true, ((gi l n_1).2).2, n_1 + 1), ⟨F_1, vsome_1, ((gi l n_1).2).1, rfl, rfl, rfl, rfl, rfl, rfl, hK, hS, hN_l, hL_l, (nff_api_Filter_1 (NfL.at hN_l ho_1)), hM.1⟩, hM.2⟩
   ·
    replace hM := hM.2 c_3
    refine HW.region ?_
    refine oV (.pointer (some ⟨b_2, 1, none⟩)) (q_fieldAddr fa_50_1 rfl rfl) rfl ?_
    refine oV (vout_1_1) (q_load to_29 rfl (Blk.cell (hS.box 3 rfl) rfl)) rfl ?_
    refine oV (.pointer (some ⟨b_3, 1, none⟩)) (q_fieldAddr fa_50_1 rfl rfl) rfl ?_
    refine oV (((gi l n_1).2).1) (q_load to_29 rfl (Blk.cell (hS.box 0 rfl) rfl)) rfl ?_
    refine HO.call (want_none) rfl (ec en_148 rfl rfl) (srcs_And_walk (fr := (Ow.box b_3 50 #[.bool ((gi l n_1).1), ((gi l n_1).2).1] :: Ow.box b_1 50 #[.bool false, .slice none 0 0] :: Ow.own 28 17 e_api_Addr vsome_1 some_1 :: Ow.box b_2 50 #[.bool out_0_1, vout_1_1] :: fr)) out_1_1 (((gi l n_1).2).2) vout_1_1 (((gi l n_1).2).1) hS hL_1 (nff_api_Filter_1 (NfL.at hN_l ho_1)) hM) ?_
    rintro vr_2 h_8 ⟨F_4, r_2, _, rfl, hk, hS, _, _, hM⟩
    replace hK := hK.trans hk
    replace hN_l := hN_l.kp hk
    replace hL_l := hL_l.kp hk
    refine oV (.pointer (some ⟨b_2, 1, none⟩)) (q_fieldAddr fa_50_1 rfl rfl) rfl ?_
    refine HO.sto (want_none) rfl (st_store (c' := #[.bool out_0_1, vr_2]) hS (i := 4) rfl to_29 rfl rfl (shp (hS.own 0 rfl).slice).cells (shp (hS.own 0 rfl).slice).one (Nat.le_of_ble_eq_true rfl) rfl) ?_
    rintro h_9 ⟨hS, hk⟩
    replace hK := hK.trans hk
    replace hN_l := hN_l.kp hk
    replace hL_l := hL_l.kp hk
    refine HO.nil (blockQ_normal (blockQ_normal (thenQ_normal (?_))))
    refine HW.region ?_
    obtain ⟨ho_4, hM⟩ := hM
    refine oV (.int .i64 (n_1 + 1)) (q_addN _ rfl rfl rfl ho_4.1 ho_4.2) rfl ?_
    refine oM (.int .i64 (n_1 + 1)) rfl rfl ?_
    refine HO.nil (thenQ_normal (?_))
    obtain ⟨F_5, hS, hk, hL_3⟩ := hS.freezeOwn
    replace hK := hK.trans hk
    replace hN_l := hN_l.kp hk
    replace hL_l := hL_l.kp hk
    replace hS : St F_5 (Ow.box b_1 50 #[.bool false, .slice none 0 0] :: Ow.own 28 17 e_api_Addr vsome_1 some_1 :: Ow.box b_2 50 #[.bool out_0_1, vr_2] :: fr) h_9 := hS.perm2 [1, 2, 3] 4 rfl rfl
    rw [hKe_1] at hM
    exact ⟨(some_1, out_0_1, r_2, n_1 + 1), ⟨F_5, vsome_1, vr_2, rfl, rfl, rfl, rfl, rfl, rfl, hK, hS, hN_l, hL_l, hL_3, hM.1⟩, hM.2⟩
 ·
  replace hM := hM.2 (of_decide_eq_false c_1)
  refine HW.exit (thenQ_exit (thenQ_exit (blockQ_exit (thenQ_normal (?_)))))
  refine HW.seq ?_
  refine HW.seq ?_
  refine HW.region ?_
  refine oV (.pointer (some ⟨b_2, 0, none⟩)) (q_fieldAddr fa_50_0 rfl rfl) rfl ?_
  refine oV (.bool out_0_1) (q_load to_4 rfl (Blk.cell (hS.box 2 rfl) rfl)) rfl ?_
  refine oV (.bool (!out_0_1)) (q_not rfl) rfl ?_
  refine HO.nil (thenQ_normal (?_))
  refine HW.cond (!out_0_1) rfl (fun c_4 => ?_) (fun c_4 => ?_)
  ·
   replace hM := hM.1 c_4
   refine HW.seq ?_
   refine HW.region ?_
   refine oM (vsome_1) rfl rfl ?_
   refine oV (.agg #[.bool false, vsome_1]) (q_build tp_50 (fill_cons (cs' := #[.bool false, vsome_1]) (vc := #[vsome_1]) rfl (shp (hS.own 1 rfl).slice).cells rfl (Nat.le_of_ble_eq_true rfl) rfl rfl)) rfl ?_
   refine HO.sto (want_none) rfl (st_storeAgg (c' := #[.bool false, vsome_1]) hS (i := 0) rfl ta_50 rfl rfl rfl (List.forall_mem_cons.2 ⟨rfl, (List.forall_mem_cons.2 ⟨(shp (hS.own 1 rfl).slice).one, (fun _ h => by cases h)⟩)⟩) (Nat.le_of_ble_eq_true rfl) rfl) ?_
   rintro h_10 ⟨hS, hk⟩
   replace hK := hK.trans hk
   replace hN_l := hN_l.kp hk
   replace hL_l := hL_l.kp hk
   refine HO.nil (thenQ_normal (?_))
   refine HW.ret (thenQ_ret (?_))
   refine ⟨.inr rfl, .agg #[.bool false, vsome_1], res1 rfl (rca (cs := [.bool false, vsome_1]) ta_50 rfl rfl (Blk.cells (k := 2) (hS.box 0 rfl) rfl)), ?_⟩
   replace hS : St F_1 (Ow.own 28 17 e_api_Addr vsome_1 some_1 :: fr) h_10 := hS.perm2 [1] 3 rfl rfl
   exact ⟨F_1, false, some_1, vsome_1, rfl, hK, hS, hN_l, hL_l, hM⟩
  ·
   replace hM := hM.2 c_4
   refine HW.skip (thenQ_normal (?_))
   refine HW.seq ?_
   refine HW.region ?_
   refine oV (.pointer (some ⟨b_2, 1, none⟩)) (q_fieldAddr fa_50_1 rfl rfl) rfl ?_
   refine oV (vout_1_1) (q_load to_29 rfl (Blk.cell (hS.box 2 rfl) rfl)) rfl ?_
   refine oM (vsome_1) rfl rfl ?_
   replace hS : St F_1 (Ow.own 28 17 e_api_Addr vsome_1 some_1 :: Ow.box b_1 50 #[.bool false, .slice none 0 0] :: Ow.box b_2 50 #[.bool out_0_1, vout_1_1] :: fr) h_3 := hS.perm2 [1, 0, 2] 3 rfl rfl
   have hZ_2 := hS
   have hkz_2 := (hS.freeze).2
   replace hS := hS.freeze.1
   have hL_4 : SliceF (fun bz_ => F_1 bz_ ∨ (Ow.own 28 17 e_api_Addr vsome_1 some_1).foot bz_) h_3 17 e_api_Addr vsome_1 some_1 := ⟨(hZ_2.own 0 rfl).slice, fun _ b hb => .inr hb⟩
   refine HO.call (want_none) rfl (ec en_142 rfl rfl) (srcs_Minus_walk (fr := (Ow.box b_1 50 #[.bool false, .slice none 0 0] :: Ow.box b_2 50 #[.bool out_0_1, vout_1_1] :: fr)) out_1_1 some_1 vout_1_1 vsome_1 hS (hL_1.kp hkz_2) hL_4 hM) ?_
   rintro vr_3 h_11 ⟨F_6, r_3, _, rfl, hk, hS, _, _, hM⟩
   obtain ⟨hS, hk⟩ := hZ_2.back hk hS
   generalize (fun bz_ => F_6 bz_ ∧ ¬ (Ow.own 28 17 e_api_Addr vsome_1 some_1).foot bz_) = F_7 at hS hk
   replace hK := hK.trans hk
   replace hN_l := hN_l.kp hk
   replace hL_l := hL_l.kp hk
   refine oV (.pointer (some ⟨b_2, 1, none⟩)) (q_fieldAddr fa_50_1 rfl rfl) rfl ?_
   refine HO.sto (want_none) rfl (st_store (c' := #[.bool out_0_1, vr_3]) hS (i := 3) rfl to_29 rfl rfl (shp (hS.own 1 rfl).slice).cells (shp (hS.own 1 rfl).slice).one (Nat.le_of_ble_eq_true rfl) rfl) ?_
   rintro h_12 ⟨hS, hk⟩
   replace hK := hK.trans hk
   replace hN_l := hN_l.kp hk
   replace hL_l := hL_l.kp hk
   refine HO.nil (thenQ_normal (?_))
   refine HW.seq ?_
   refine HW.region ?_
   refine oV (.agg #[.bool out_0_1, vr_3]) (q_loadAgg (cs := [.bool out_0_1, vr_3]) ta_50 rfl rfl (Blk.cells (k := 2) (hS.box 3 rfl) rfl)) rfl ?_
   refine HO.sto (want_none) rfl (st_storeAgg (c' := #[.bool out_0_1, vr_3]) hS (i := 2) rfl ta_50 rfl rfl rfl (List.forall_mem_cons.2 ⟨rfl, (List.forall_mem_cons.2 ⟨(shp (hS.own 1 rfl).slice).one, (fun _ h => by cases h)⟩)⟩) (Nat.le_of_ble_eq_true rfl) rfl) ?_
   rintro h_13 ⟨hS, hk⟩
   replace hK := hK.trans hk
   replace hN_l := hN_l.kp hk
   replace hL_l := hL_l.kp hk
   refine HO.nil (thenQ_normal (?_))
   refine HW.ret (?_)
   refine ⟨.inr rfl, .agg #[.bool out_0_1, vr_3], res1 rfl (rca (cs := [.bool out_0_1, vr_3]) ta_50 rfl rfl (Blk.cells (k := 2) (hS.box 2 rfl) rfl)), ?_⟩
   replace hS : St F_7 (Ow.own 28 17 e_api_Addr vr_3 r_3 :: fr) h_13 := hS.perm2 [1] 4 rfl rfl
   exact ⟨F_7, out_0_1, r_3, vr_3, rfl, hK, hS, hN_l, hL_l, hM⟩
def proxy_gather_l2 (Q : (List T_api_Want) → Prop) (all_1 : List (T_api_Addr × Value × List T_api_Filter)) (r_4 : List T_api_Addr) (K_2 : (List T_api_Want) → Int → Prop) (out_1 : List T_api_Want) (n_2 : Int) : Prop :=
 (n_2 < (r_4.length : Int) → ((0 : Int) ≤ n_2 ∧ n_2 < (r_4.length : Int)) ∧ (merge_All_W ((bagAt all_1 (gi r_4 n_2)).2) (fun r_0_1 r_1_1 => merge_None_W r_0_1 r_1_1 (fun r_5 => ((!r_5) = true → ∀ vr_1_1 : Value, (((out_1.length + ([((gi r_4 n_2), (r_0_1, (vr_1_1, r_1_1)))] : List T_api_Want).length) * 56 ≤ 140737488355328) ∧ ((I64 (n_2 + 1)) ∧ (K_2 (out_1 ++ ([((gi r_4 n_2), (r_0_1, (vr_1_1, r_1_1)))] : List T_api_Want)) (n_2 + 1))))) ∧ ((!r_5) = false → (I64 (n_2 + 1)) ∧ (K_2 out_1 (n_2 + 1))))))) ∧ (¬ (n_2 < (r_4.length : Int)) → Q out_1)
def proxy_gather_l1 (Q : (List T_api_Want) → Prop) (r_3 : List T_api_Want) (K_1 : (List (T_api_Addr × Value × List T_api_Filter)) → Int → Prop) (all_1 : List (T_api_Addr × Value × List T_api_Filter)) (n_1 : Int) : Prop :=
 (n_1 < (r_3.length : Int) → ((0 : Int) ≤ n_1 ∧ n_1 < (r_3.length : Int)) ∧ (((((bagAt all_1 ((gi r_3 n_1).1)).2).length + ([(((gi r_3 n_1).2).1, (((gi r_3 n_1).2).2))] : List T_api_Filter).length) * 32 ≤ 140737488355328) ∧ (∀ v_1 : Value, ((I64 (n_1 + 1)) ∧ (K_1 (mset all_1 ((gi r_3 n_1).1) (v_1, ((bagAt all_1 ((gi r_3 n_1).1)).2) ++ ([(((gi r_3 n_1).2).1, (((gi r_3 n_1).2).2))] : List T_api_Filter))) (n_1 + 1)))))) ∧ (¬ (n_1 < (r_3.length : Int)) → ∃ cf_1 : T_api_Addr → T_api_Addr → Int, (∀ x0 x1, addr_Cmp_W x0 x1 (fun r => r = cf_1 x0 x1)) ∧ (slices_SortedFunc_api_Addr_k2_W all_1 cf_1 (fun r_4 => loopW (fun (K_2 : (List T_api_Want × Int) → Prop) (s : List T_api_Want × Int) => proxy_gather_l2 Q all_1 r_4 (fun out_1 n_2 => K_2 (out_1, n_2)) s.1 s.2) ([], 0))))
def proxy_gather_W (l : List T_s_api_Want) (Q : (List T_api_Want) → Prop) : Prop :=
 slices_Concat_s_api_Want_api_Want_W l (fun r_3 => loopW (fun (K_1 : ((List (T_api_Addr × Value × List T_api_Filter)) × Int) → Prop) (s : (List (T_api_Addr × Value × List T_api_Filter)) × Int) => proxy_gather_l1 Q r_3 (fun all_1 n_1 => K_1 (all_1, n_1)) s.1 s.2) ([], 0))
theorem proxy_gather_walk {F : Fz} {fr : List Ow} {h0 : Heap} (l : List T_s_api_Want) (vl : Value) (hS : St F (Ow.own 71 1 e_s_api_Want vl l :: fr) h0) (hN_l : NfL nf_s_api_Want F h0 l) (hD : DM.on = false) {Q : (List T_api_Want) → Prop} (hM : proxy_gather_W l Q) :
  HC Tryz.prog 76 #[vl] h0 fun u h' => ∃ (F' : Fz) (r_1 : List T_api_Want) (vr_1 : Value), u = vr_1 ∧ Kp F h0 F' h' ∧ St F' (Ow.own 77 19 e_api_Want vr_1 r_1 :: fr) h' ∧ (NfL nf_s_api_Want F' h' l) ∧ (NfL nf_api_Want F' h' r_1) ∧ Q r_1 := by
 unfold proxy_gather_W at hM
 have hK := Kp.refl F h0
 refine HC.of_HW (n := 52) Tryz.func76 rfl rfl (Nat.le_of_ble_eq_true rfl) ?_
 refine HW.seq ?_
 refine HW.region ?_
 refine oA (.slice none 0 0) rfl rfl ?_
 refine HO.nil (thenQ_normal (?_))
 refine HW.seq ?_
 refine HW.region ?_
 refine HO.eff (want_none) rfl (st_makeBag (ek := (fun (x : T_api_Addr) => .agg (e_api_Addr x).toArray)) (E := 50) (kk := 2) (enc := e_api_Filter) hS) ?_
 rintro _ h_1 ⟨r_2, rfl, hS, hk⟩
 replace hK := hK.trans hk
 replace hN_l := hN_l.kp hk
 have hN_2 : NfL (Nf.all nf_api_Filter) F h_1 (([] : List (T_api_Addr × Value × List T_api_Filter)).map (·.2.2)) := NfL.nil _ _ _
 refine oA (.map (some r_2)) rfl rfl ?_
 refine HO.nil (thenQ_normal (?_))
 refine HW.seq ?_
 refine HW.seq ?_
 refine HW.region ?_
 refine oM (vl) rfl rfl ?_
 replace hS : St F (Ow.own 71 1 e_s_api_Want vl l :: Ow.bag r_2 (fun (x : T_api_Addr) => .agg (e_api_Addr x).toArray) 50 2 e_api_Filter ([] : List (T_api_Addr × Value × List T_api_Filter)) none :: fr) h_1 := hS.perm2 [1, 0] 2 rfl rfl
 refine HO.call (want_none) rfl (ec en_129 rfl rfl) (slices_Concat_s_api_Want_api_Want_walk (fr := (Ow.bag r_2 (fun (x : T_api_Addr) => .agg (e_api_Addr x).toArray) 50 2 e_api_Filter ([] : List (T_api_Addr × Value × List T_api_Filter)) none :: fr)) l vl hS hN_l hD hM) ?_
 rintro vr_2 h_2 ⟨F_1, r_3, _, rfl, hk, hS, _, hL_1, hM⟩
 replace hK := hK.trans hk
 replace hN_l := hN_l.kp hk
 replace hN_2 := hN_2.kp hk
 refine oV (.int .i64 (r_3.length : Int)) (q_len ts_71 (shp (hS.own 0 rfl).slice) rfl rfl) rfl ?_
 refine oM (.int .i64 0) rfl rfl ?_
 refine HO.nil (thenQ_normal (?_))
 refine HW.block ?_
 obtain ⟨I_1, m_1, hI_1, hR_1⟩ := hM
 replace hS : St F_1 (Ow.bag r_2 (fun (x : T_api_Addr) => .agg (e_api_Addr x).toArray) 50 2 e_api_Filter ([] : List (T_api_Addr × Value × List T_api_Filter)) none :: Ow.own 77 19 e_api_Want vr_2 r_3 :: fr) h_2 := hS.perm2 [1, 0] 2 rfl rfl
 refine HW.loop (S := (List (T_api_Addr × Value × List T_api_Filter)) × Int) (fun s f h => match s with | (all_1, n_1) => ∃ (F' : Fz), f 2 = .slice none 0 0 ∧ f 3 = .map (some r_2) ∧ f 12 = vr_2 ∧ f 13 = .int .i64 (r_3.length : Int) ∧ f 14 = .int .i64 n_1 ∧ Kp F h0 F' h ∧ St F' (Ow.bag r_2 (fun (x : T_api_Addr) => .agg (e_api_Addr x).toArray) 50 2 e_api_Filter all_1 none :: Ow.own 77 19 e_api_Want vr_2 r_3 :: fr) h ∧ (NfL nf_s_api_Want F' h l) ∧ (NfL (Nf.all nf_api_Filter) F' h (([] : List (T_api_Addr × Value × List T_api_Filter)).map (·.2.2))) ∧ (NfL nf_api_Want F' h r_3) ∧ (NfL (Nf.all nf_api_Filter) F' h (all_1.map (·.2.2))) ∧ I_1 (all_1, n_1)) m_1 ([], 0) ⟨F_1, rfl, rfl, rfl, rfl, rfl, hK, hS, hN_l, hN_2, hL_1, hN_2, hI_1⟩ ?_
 rintro ⟨all_1, n_1⟩ f_1 h_3 ⟨F_2, e2, e3, e12, e13, e14, hK, hS, hN_l, hN_2, hL_1, hN_3, hI0⟩
 obtain ⟨K_1, hKe_1⟩ : ∃ K : (List (T_api_Addr × Value × List T_api_Filter)) → Int → Prop, K = fun all_1' n_1' => I_1 (all_1', n_1') ∧ m_1 (all_1', n_1') < m_1 (all_1, n_1) := ⟨_, rfl⟩
 have hM : proxy_gather_l1 Q r_3 K_1 all_1 n_1 := by rw [hKe_1]; exact hR_1 (all_1, n_1) hI0
 unfold proxy_gather_l1 at hM
 refine HW.fr [(2, .slice none 0 0), (3, .map (some r_2)), (12, vr_2), (13, .int .i64 (r_3.length : Int)), (14, .int .i64 n_1)] ⟨e2, e3, e12, e13, e14, trivial⟩ ?_
 refine HW.seq ?_
 refine HW.region ?_
 refine oV (.bool (decide (n_1 < (r_3.length : Int)))) (q_lss rfl rfl) rfl ?_
 refine HO.nil (thenQ_normal (?_))
 refine HW.seq ?_
 refine HW.cond (decide (n_1 < (r_3.length : Int))) rfl (fun c_1 => ?_) (fun c_1 => ?_)
 ·
  replace hM := hM.1 (of_decide_eq_true c_1)
  refine HW.skip (thenQ_normal (?_))
  refine HW.seq ?_
  refine HW.block ?_
  refine HW.seq ?_
  refine HW.region ?_
  obtain ⟨ho_1, hM⟩ := hM
  refine oV (elemPtr 19 vr_2 (n_1).toNat) (q_idx ts_71 (hS.own 1 rfl).slice rfl rfl ho_1) rfl ?_
  refine oV (.agg (c_api_Want ((gi r_3 n_1).1) (.bool (((gi r_3 n_1).2).1)) ((((gi r_3 n_1).2).2).1)).toArray) (q_ldElemAgg (cs := (c_api_Want ((gi r_3 n_1).1) (.bool (((gi r_3 n_1).2).1)) ((((gi r_3 n_1).2).2).1))) ta_77 (hS.own 1 rfl).slice rfl ho_1 rfl) rfl ?_
  refine HO.eff (want_none) rfl (st_alloc (c := (c_api_Want (false, (default : Ba 16)) (.bool false) (.slice none 0 0)).toArray) hS tz_77 rfl) ?_
  rintro _ h_4 ⟨b_1, rfl, hS, hk⟩
  replace hK := hK.trans hk
  replace hN_l := hN_l.kp hk
  replace hN_2 := hN_2.kp hk
  replace hL_1 := hL_1.kp hk
  replace hN_3 := hN_3.kp hk
  refine HO.sto (want_none) rfl (st_storeAgg (c' := (c_api_Want ((gi r_3 n_1).1) (.bool (((gi r_3 n_1).2).1)) ((((gi r_3 n_1).2).2).1)).toArray) hS (i := 0) rfl ta_77 rfl rfl rfl (List.forall_mem_cons.2 ⟨rfl, (List.forall_mem_cons.2 ⟨rfl, (List.forall_mem_cons.2 ⟨rfl, (List.forall_mem_cons.2 ⟨rfl, (List.forall_mem_cons.2 ⟨rfl, (List.forall_mem_cons.2 ⟨rfl, (List.forall_mem_cons.2 ⟨rfl, (List.forall_mem_cons.2 ⟨rfl, (List.forall_mem_cons.2 ⟨rfl, (List.forall_mem_cons.2 ⟨rfl, (List.forall_mem_cons.2 ⟨rfl, (List.forall_mem_cons.2 ⟨rfl, (List.forall_mem_cons.2 ⟨rfl, (List.forall_mem_cons.2 ⟨rfl, (List.forall_mem_cons.2 ⟨rfl, (List.forall_mem_cons.2 ⟨rfl, (List.forall_mem_cons.2 ⟨rfl, (List.forall_mem_cons.2 ⟨rfl, (List.forall_mem_cons.2 ⟨(shp (nfi_api_Want_18 (NfI.at hL_1.is ho_1))).one, (fun _ h => by cases h)⟩)⟩)⟩)⟩)⟩)⟩)⟩)⟩)⟩)⟩)⟩)⟩)⟩)⟩)⟩)⟩)⟩)⟩)⟩) (Nat.le_of_ble_eq_true rfl) rfl) ?_
  rintro h_5 ⟨hS, hk⟩
  replace hK := hK.trans hk
  replace hN_l := hN_l.kp hk
  replace hN_2 := hN_2.kp hk
  replace hL_1 := hL_1.kp hk
  replace hN_3 := hN_3.kp hk
  refine HO.nil (thenQ_normal (?_))
  refine HW.region ?_
  refine oM (.map (some r_2)) rfl rfl ?_
  refine oV (.pointer (some ⟨b_1, 0, none⟩)) (q_fieldAddr fa_77_0 rfl rfl) rfl ?_
  refine oV (.agg (e_api_Addr ((gi r_3 n_1).1)).toArray) (q_loadAgg (cs := (e_api_Addr ((gi r_3 n_1).1))) ta_28 rfl rfl (Blk.cells (k := 17) (hS.box 0 rfl) rfl)) rfl ?_
  refine oV (.pointer (some ⟨b_1, 17, none⟩)) (q_fieldAddr fa_77_1 rfl rfl) rfl ?_
  refine oV (.agg #[.bool (((gi r_3 n_1).2).1), (((gi r_3 n_1).2).2).1]) (q_loadAgg (cs := [.bool (((gi r_3 n_1).2).1), (((gi r_3 n_1).2).2).1]) ta_50 rfl rfl (Blk.cells (k := 2) (hS.box 0 rfl) rfl)) rfl ?_
  refine HO.eff (want_none) rfl (st_lit (enc := e_api_Filter) (cells := #[.bool (((gi r_3 n_1).2).1), (((gi r_3 n_1).2).2).1]) #[.bool false, .slice none 0 0] ([(((gi r_3 n_1).2).1, (((gi r_3 n_1).2).2))] : List T_api_Filter) hS tl_133 (by decide) (by decide) (by kernel_rfl) (by kernel_rfl) rfl (by intro x hx; rfl) rfl) ?_
  rintro _ h_6 ⟨b_2, rfl, hS, hk⟩
  replace hK := hK.trans hk
  replace hN_l := hN_l.kp hk
  replace hN_2 := hN_2.kp hk
  replace hL_1 := hL_1.kp hk
  replace hN_3 := hN_3.kp hk
  have hN_4 : NfL nf_api_Filter F_2 h_6 ([(((gi r_3 n_1).2).1, (((gi r_3 n_1).2).2))] : List T_api_Filter) := (NfL.cons (nfm_api_Filter (((gi r_3 n_1).2).1, (((gi r_3 n_1).2).2)) (nff_api_Want_18 (NfL.at hL_1 ho_1))) (NfL.nil _ _ _))
  refine HO.eff (want_none) rfl (st_bagEntry (k := ((gi r_3 n_1).1)) hS (i := 2) rfl ka_28 tmk_165 rfl rfl) ?_
  rintro _ h_7 ⟨born_1, rfl, hS, hk⟩
  have hN_5 : NfL nf_api_Filter F_2 h_6 ((bagAt all_1 ((gi r_3 n_1).1)).2) := NfL.bagAt hN_3 ((gi r_3 n_1).1)
  replace hK := hK.trans hk
  replace hN_l := hN_l.kp hk
  replace hN_2 := hN_2.kp hk
  replace hL_1 := hL_1.kp hk
  replace hN_3 := hN_3.kp hk
  replace hN_4 := hN_4.kp hk
  replace hN_5 := hN_5.kp hk
  refine oV ((bagAt all_1 ((gi r_3 n_1).1)).1) (q_extract rfl rfl) rfl ?_
  obtain ⟨ho_2, hM⟩ := hM
  refine HO.eff (want_none) rfl (st_append te_133 hS (i := 0) rfl (hS.own 1 rfl).slice rfl rfl rfl (fun a_ ha_ => nfo_api_Filter (hN_4.is.all a_ ha_)) ho_2 (by omega)) ?_
  rintro v_1 h_8 ⟨hS, hk⟩
  replace hK := hK.trans hk
  replace hN_l := hN_l.kp hk
  replace hN_2 := hN_2.kp hk
  replace hL_1 := hL_1.kp hk
  replace hN_3 := hN_3.kp hk
  replace hN_4 := hN_4.kp hk
  replace hN_5 := hN_5.kp hk
  have hN_6 : NfL nf_api_Filter F_2 h_8 (((bagAt all_1 ((gi r_3 n_1).1)).2) ++ ([(((gi r_3 n_1).2).1, (((gi r_3 n_1).2).2))] : List T_api_Filter)) := NfL.app hN_5 hN_4
  refine oV (.int .i64 (born_1 : Int)) (q_extract rfl rfl) rfl ?_
  refine HO.sto (want_none) rfl (st_bagStore (k := ((gi r_3 n_1).1)) (i := 2) hS rfl rfl rfl rfl) ?_
  rintro h_9 ⟨hS, hk⟩
  replace hM := hM v_1
  have hN_7 : NfL (Nf.all nf_api_Filter) F_2 h_8 ((mset all_1 ((gi r_3 n_1).1) (v_1, ((bagAt all_1 ((gi r_3 n_1).1)).2) ++ ([(((gi r_3 n_1).2).1, (((gi r_3 n_1).2).2))] : List T_api_Filter))).map (·.2.2)) := NfL.msetB hN_3 ((gi r_3 n_1).1) hN_6
  replace hK := hK.trans hk
  replace hN_l := hN_l.kp hk
  replace hN_2 := hN_2.kp hk
  replace hL_1 := hL_1.kp hk
  replace hN_7 := hN_7.kp hk
  refine HO.nil (blockQ_normal (thenQ_normal (?_)))
  refine HW.region ?_
  obtain ⟨ho_3, hM⟩ := hM
  refine oV (.int .i64 (n_1 + 1)) (q_addN _ rfl rfl rfl ho_3.1 ho_3.2) rfl ?_
  refine oM (.int .i64 (n_1 + 1)) rfl rfl ?_
  refine HO.nil (thenQ_normal (?_))
  replace hS : St F_2 (Ow.bag r_2 (fun (x : T_api_Addr) => .agg (e_api_Addr x).toArray) 50 2 e_api_Filter (mset all_1 ((gi r_3 n_1).1) (v_1, ((bagAt all_1 ((gi r_3 n_1).1)).2) ++ ([(((gi r_3 n_1).2).1, (((gi r_3 n_1).2).2))] : List T_api_Filter))) none :: Ow.own 77 19 e_api_Want vr_2 r_3 :: fr) h_9 := hS.perm2 [2, 3] 4 rfl rfl
  rw [hKe_1] at hM
  exact ⟨(mset all_1 ((gi r_3 n_1).1) (v_1, ((bagAt all_1 ((gi r_3 n_1).1)).2) ++ ([(((gi r_3 n_1).2).1, (((gi r_3 n_1).2).2))] : List T_api_Filter)), n_1 + 1), ⟨F_2, rfl, rfl, rfl, rfl, rfl, hK, hS, hN_l, hN_2, hL_1, hN_7, hM.1⟩, hM.2⟩
 ·
  replace hM := hM.2 (of_decide_eq_false c_1)
  refine HW.exit (thenQ_exit (thenQ_exit (blockQ_exit (thenQ_normal (?_)))))
  refine HW.seq ?_
  refine HW.region ?_
  refine oA (.slice none 0 0) rfl rfl ?_
  refine HO.nil (thenQ_normal (?_))
  refine HW.seq ?_
  refine HW.seq ?_
  refine HW.region ?_
  refine oM (.map (some r_2)) rfl rfl ?_
  obtain ⟨F_3, hS, hk, hN_8⟩ := hS.bagOpen
  replace hK := hK.trans hk
  replace hN_l := hN_l.kp hk
  replace hN_2 := hN_2.kp hk
  replace hL_1 := hL_1.kp hk
  replace hN_3 := hN_3.kp hk
  refine HO.call (want_none) rfl (ec en_130 rfl rfl) (keys_hc Tryz.func130 rfl rfl rfl rfl hS) ?_
  rintro _ h_10 ⟨b_3, rfl, hS, hk⟩
  replace hK := hK.trans hk
  replace hN_l := hN_l.kp hk
  replace hN_2 := hN_2.kp hk
  replace hL_1 := hL_1.kp hk
  replace hN_3 := hN_3.kp hk
  replace hN_8 := hN_8.kp hk
  obtain ⟨cf_1, hc_1, hM⟩ := hM
  have hF_1 : FnP Tryz.prog F_3 h_10 106 #[] #[] (fun x : T_api_Addr × T_api_Addr => [.agg (e_api_Addr x.1).toArray, .agg (e_api_Addr x.2).toArray]) (fun x => .int .i64 (cf_1 x.1 x.2)) := FnP.of en_106 (fun x h' hk_ => @HC.mono ⟨true⟩ _ _ _ _ _ _ (@addr_Cmp_walk ⟨true⟩ (allF h') [] h' x.1 x.2  (St.init h')  (fun r => r = cf_1 x.1 x.2) (hc_1 x.1 x.2)) (fun u h'' ⟨F', r, hu, k_, _, hr⟩ => ⟨by rw [hu, hr], F', k_⟩))
  replace hS : St F_3 (Ow.box b_3 165 #[.map (some r_2)] :: Ow.map r_2 (fun (x : T_api_Addr) => .agg (e_api_Addr x).toArray) bagV all_1 :: Ow.own 77 19 e_api_Want vr_2 r_3 :: fr) h_10 := hS
  have hZ_1 := hS
  have hkz_1 := (hS.freeze).2
  replace hS := hS.freeze.1
  have hL_2 := hZ_1.lent
  replace hS : St (fun bz_ => F_3 bz_ ∨ (Ow.box b_3 165 #[.map (some r_2)]).foot bz_) (Ow.map r_2 (fun (x : T_api_Addr) => .agg (e_api_Addr x).toArray) bagV all_1 :: Ow.own 77 19 e_api_Want vr_2 r_3 :: fr) h_10 := hS
  have hZ_2 := hS
  have hkz_2 := (hS.freeze).2
  replace hS := hS.freeze.1
  have hL_3 := hZ_2.lent
  refine HO.call (want_none) rfl (ec en_111 rfl rfl) (slices_SortedFunc_api_Addr_k2_walk (fr := (Ow.own 77 19 e_api_Want vr_2 r_3 :: fr)) all_1 cf_1 b_3 r_2 106 (#[]) hS hL_3 ((hN_8.kp hkz_1).kp hkz_2) (hL_2.kp hkz_2) ((hF_1.kp hkz_1).kp hkz_2) hM) ?_
  rintro vr_3 h_11 ⟨F_4, r_4, _, rfl, hk, hS, _, _, _, _, hM⟩
  obtain ⟨hS, hk⟩ := hZ_2.back hk hS
  obtain ⟨hS, hk⟩ := hZ_1.back hk hS
  generalize (fun bz_ => (fun bz_ => F_4 bz_ ∧ ¬ (Ow.map r_2 (fun (x : T_api_Addr) => .agg (e_api_Addr x).toArray) bagV all_1).foot bz_) bz_ ∧ ¬ (Ow.box b_3 165 #[.map (some r_2)]).foot bz_) = F_5 at hS hk
  replace hK := hK.trans hk
  replace hN_l := hN_l.kp hk
  replace hN_2 := hN_2.kp hk
  replace hL_1 := hL_1.kp hk
  replace hN_3 := hN_3.kp hk
  replace hN_8 := hN_8.kp hk
  replace hF_1 := hF_1.kp hk
  refine oV (.int .i64 (r_4.length : Int)) (q_len ts_29 (shp (hS.own 2 rfl).slice) rfl rfl) rfl ?_
  refine oM (.int .i64 0) rfl rfl ?_
  refine HO.nil (thenQ_normal (?_))
  refine HW.block ?_
  obtain ⟨I_2, m_2, hI_2, hR_2⟩ := hM
  replace hS := hS.nilOwn 77 19 e_api_Want
  have hN_10 : NfL nf_api_Want F_5 h_11 ([] : List T_api_Want) := NfL.nil _ _ _
  replace hS : St F_5 (Ow.map r_2 (fun (x : T_api_Addr) => .agg (e_api_Addr x).toArray) bagV all_1 :: Ow.own 77 19 e_api_Want (.slice none 0 0) ([] : List T_api_Want) :: Ow.own 28 17 e_api_Addr vr_3 r_4 :: fr) h_11 := hS.perm2 [2, 0, 3] 5 rfl rfl
  refine HW.loop (S := List T_api_Want × Int) (fun s f h => match s with | (out_1, n_2) => ∃ (F' : Fz) (vout_1 : Value), f 2 = .slice none 0 0 ∧ f 3 = .map (some r_2) ∧ f 6 = vout_1 ∧ f 31 = vr_3 ∧ f 32 = .int .i64 (r_4.length : Int) ∧ f 33 = .int .i64 n_2 ∧ Kp F h0 F' h ∧ St F' (Ow.map r_2 (fun (x : T_api_Addr) => .agg (e_api_Addr x).toArray) bagV all_1 :: Ow.own 77 19 e_api_Want vout_1 out_1 :: Ow.own 28 17 e_api_Addr vr_3 r_4 :: fr) h ∧ (NfL nf_s_api_Want F' h l) ∧ (NfL (Nf.all nf_api_Filter) F' h (([] : List (T_api_Addr × Value × List T_api_Filter)).map (·.2.2))) ∧ (NfL nf_api_Want F' h r_3) ∧ (NfL (Nf.all nf_api_Filter) F' h (all_1.map (·.2.2))) ∧ (NfB 2 e_api_Filter F' h all_1) ∧ (FnP Tryz.prog F' h 106 #[] #[] (fun x : T_api_Addr × T_api_Addr => [.agg (e_api_Addr x.1).toArray, .agg (e_api_Addr x.2).toArray]) (fun x => .int .i64 (cf_1 x.1 x.2))) ∧ (NfL nf_api_Want F' h out_1) ∧ I_2 (out_1, n_2)) m_2 ([], 0) ⟨F_5, .slice none 0 0, rfl, rfl, rfl, rfl, rfl, rfl, hK, hS, hN_l, hN_2, hL_1, hN_3, hN_8, hF_1, hN_10, hI_2⟩ ?_
  rintro ⟨out_1, n_2⟩ f_2 h_12 ⟨F_6, vout_1, e2, e3, e6, e31, e32, e33, hK, hS, hN_l, hN_2, hL_1, hN_3, hN_8, hF_1, hN_9, hI0⟩
  obtain ⟨K_2, hKe_2⟩ : ∃ K : (List T_api_Want) → Int → Prop, K = fun out_1' n_2' => I_2 (out_1', n_2') ∧ m_2 (out_1', n_2') < m_2 (out_1, n_2) := ⟨_, rfl⟩
  have hM : proxy_gather_l2 Q all_1 r_4 K_2 out_1 n_2 := by rw [hKe_2]; exact hR_2 (out_1, n_2) hI0
  unfold proxy_gather_l2 at hM
  refine HW.fr [(2, .slice none 0 0), (3, .map (some r_2)), (6, vout_1), (31, vr_3), (32, .int .i64 (r_4.length : Int)), (33, .int .i64 n_2)] ⟨e2, e3, e6, e31, e32, e33, trivial⟩ ?_
  refine HW.seq ?_
  refine HW.region ?_
  refine oV (.bool (decide (n_2 < (r_4.length : Int)))) (q_lss rfl rfl) rfl ?_
  refine HO.nil (thenQ_normal (?_))
  refine HW.seq ?_
  refine HW.cond (decide (n_2 < (r_4.length : Int))) rfl (fun c_2 => ?_) (fun c_2 => ?_)
  ·
   replace hM := hM.1 (of_decide_eq_true c_2)
   refine HW.skip (thenQ_normal (?_))
   refine HW.seq ?_
   refine HW.block ?_
   refine HW.seq ?_
   refine HW.region ?_
   obtain ⟨ho_4, hM⟩ := hM
   refine oV (elemPtr 17 vr_3 (n_2).toNat) (q_idx ts_29 (hS.own 2 rfl).slice rfl rfl ho_4) rfl ?_
   refine oV (.agg (e_api_Addr (gi r_4 n_2)).toArray) (q_ldElemAgg (cs := (e_api_Addr (gi r_4 n_2))) ta_28 (hS.own 2 rfl).slice rfl ho_4 rfl) rfl ?_
   refine HO.eff (want_none) rfl (st_alloc (c := (e_api_Addr (false, (default : Ba 16))).toArray) hS tz_28 rfl) ?_
   rintro _ h_13 ⟨b_4, rfl, hS, hk⟩
   replace hK := hK.trans hk
   replace hN_l := hN_l.kp hk
   replace hN_2 := hN_2.kp hk
   replace hL_1 := hL_1.kp hk
   replace hN_3 := hN_3.kp hk
   replace hN_8 := hN_8.kp hk
   replace hF_1 := hF_1.kp hk
   replace hN_9 := hN_9.kp hk
   refine HO.sto (want_none) rfl (st_storeAgg (c' := (e_api_Addr (gi r_4 n_2)).toArray) hS (i := 0) rfl ta_28 rfl rfl rfl (one_e_api_Addr _) (Nat.le_of_ble_eq_true rfl) rfl) ?_
   rintro h_14 ⟨hS, hk⟩
   replace hK := hK.trans hk
   replace hN_l := hN_l.kp hk
   replace hN_2 := hN_2.kp hk
   replace hL_1 := hL_1.kp hk
   replace hN_3 := hN_3.kp hk
   replace hN_8 := hN_8.kp hk
   replace hF_1 := hF_1.kp hk
   replace hN_9 := hN_9.kp hk
   refine HO.nil (thenQ_normal (?_))
   refine HW.seq ?_
   refine HW.region ?_
   refine oM (.map (some r_2)) rfl rfl ?_
   refine oV (.agg (e_api_Addr (gi r_4 n_2)).toArray) (q_loadAgg (cs := (e_api_Addr (gi r_4 n_2))) ta_28 rfl rfl (Blk.cells (k := 17) (hS.box 0 rfl) rfl)) rfl ?_
   have hL_4 : SliceF F_6 h_14 2 e_api_Filter ((bagAt all_1 (gi r_4 n_2)).1) ((bagAt all_1 (gi r_4 n_2)).2) := hN_8.at_ (gi r_4 n_2)
   have hN_11 : NfL nf_api_Filter F_6 h_14 ((bagAt all_1 (gi r_4 n_2)).2) := NfL.bagAt hN_3 (gi r_4 n_2)
   refine oV ((bagAt all_1 (gi r_4 n_2)).1) ((q_lookup (k := (gi r_4 n_2)) ka_28 tmk_165 (hS.mp 1 rfl) rfl rfl).of_eq (bagAt_v _ _)) rfl ?_
   refine HO.call (want_none) rfl (ec en_131 rfl rfl) (merge_All_walk (fr := (Ow.box b_4 28 (e_api_Addr (gi r_4 n_2)).toArray :: Ow.map r_2 (fun (x : T_api_Addr) => .agg (e_api_Addr x).toArray) bagV all_1 :: Ow.own 77 19 e_api_Want vout_1 out_1 :: Ow.own 28 17 e_api_Addr vr_3 r_4 :: fr)) ((bagAt all_1 (gi r_4 n_2)).2) ((bagAt all_1 (gi r_4 n_2)).1) hS hN_11 hL_4 hM) ?_
   rintro _ h_15 ⟨F_7, r_0_1, r_1_1, vr_1_1, rfl, hk, hS, _, _, hM⟩
   replace hK := hK.trans hk
   replace hN_l := hN_l.kp hk
   replace hN_2 := hN_2.kp hk
   replace hL_1 := hL_1.kp hk
   replace hN_3 := hN_3.kp hk
   replace hN_8 := hN_8.kp hk
   replace hF_1 := hF_1.kp hk
   replace hN_9 := hN_9.kp hk
   refine HO.eff (want_none) rfl (st_alloc (c := #[.bool false, .slice none 0 0]) hS tz_50 rfl) ?_
   rintro _ h_16 ⟨b_5, rfl, hS, hk⟩
   replace hK := hK.trans hk
   replace hN_l := hN_l.kp hk
   replace hN_2 := hN_2.kp hk
   replace hL_1 := hL_1.kp hk
   replace hN_3 := hN_3.kp hk
   replace hN_8 := hN_8.kp hk
   replace hF_1 := hF_1.kp hk
   replace hN_9 := hN_9.kp hk
   refine HO.sto (want_none) rfl (st_storeAgg (c' := #[.bool r_0_1, vr_1_1]) hS (i := 0) rfl ta_50 rfl rfl rfl (List.forall_mem_cons.2 ⟨rfl, (List.forall_mem_cons.2 ⟨(shp (hS.own 1 rfl).slice).one, (fun _ h => by cases h)⟩)⟩) (Nat.le_of_ble_eq_true rfl) rfl) ?_
   rintro h_17 ⟨hS, hk⟩
   replace hK := hK.trans hk
   replace hN_l := hN_l.kp hk
   replace hN_2 := hN_2.kp hk
   replace hL_1 := hL_1.kp hk
   replace hN_3 := hN_3.kp hk
   replace hN_8 := hN_8.kp hk
   replace hF_1 := hF_1.kp hk
   replace hN_9 := hN_9.kp hk
   refine HO.nil (thenQ_normal (?_))
   refine HW.seq ?_
   refine HW.region ?_
   refine oV (.agg #[.bool r_0_1, vr_1_1]) (q_loadAgg (cs := [.bool r_0_1, vr_1_1]) ta_50 rfl rfl (Blk.cells (k := 2) (hS.box 0 rfl) rfl)) rfl ?_
   replace hS : St F_7 (Ow.own 28 17 e_api_Addr vr_1_1 r_1_1 :: Ow.box b_5 50 #[.bool r_0_1, vr_1_1] :: Ow.box b_4 28 (e_api_Addr (gi r_4 n_2)).toArray :: Ow.map r_2 (fun (x : T_api_Addr) => .agg (e_api_Addr x).toArray) bagV all_1 :: Ow.own 77 19 e_api_Want vout_1 out_1 :: Ow.own 28 17 e_api_Addr vr_3 r_4 :: fr) h_17 := hS.perm2 [1, 0, 2, 3, 4, 5] 6 rfl rfl
   have hZ_3 := hS
   have hkz_3 := (hS.freeze).2
   replace hS := hS.freeze.1
   have hL_5 : SliceF (fun bz_ => F_7 bz_ ∨ (Ow.own 28 17 e_api_Addr vr_1_1 r_1_1).foot bz_) h_17 17 e_api_Addr vr_1_1 r_1_1 := ⟨(hZ_3.own 0 rfl).slice, fun _ b hb => .inr hb⟩
   refine HO.call (want_none) rfl (ec en_53 rfl rfl) (merge_None_walk (fr := (Ow.box b_5 50 #[.bool r_0_1, vr_1_1] :: Ow.box b_4 28 (e_api_Addr (gi r_4 n_2)).toArray :: Ow.map r_2 (fun (x : T_api_Addr) => .agg (e_api_Addr x).toArray) bagV all_1 :: Ow.own 77 19 e_api_Want vout_1 out_1 :: Ow.own 28 17 e_api_Addr vr_3 r_4 :: fr)) r_0_1 r_1_1 vr_1_1 hS hL_5 hM) ?_
   rintro _ h_18 ⟨F_8, r_5, rfl, hk, hS, _, hM⟩
   obtain ⟨hS, hk⟩ := hZ_3.back hk hS
   generalize (fun bz_ => F_8 bz_ ∧ ¬ (Ow.own 28 17 e_api_Addr vr_1_1 r_1_1).foot bz_) = F_9 at hS hk
   replace hK := hK.trans hk
   replace hN_l := hN_l.kp hk
   replace hN_2 := hN_2.kp hk
   replace hL_1 := hL_1.kp hk
   replace hN_3 := hN_3.kp hk
   replace hN_8 := hN_8.kp hk
   replace hF_1 := hF_1.kp hk
   replace hN_9 := hN_9.kp hk
   refine oV (.bool (!r_5)) (q_not rfl) rfl ?_
   refine HO.nil (thenQ_normal (?_))
   refine HW.cond (!r_5) rfl (fun c_3 => ?_) (fun c_3 => ?_)
   ·
    replace hM := hM.1 c_3
    refine HW.region ?_
    refine oM (vout_1) rfl rfl ?_
    refine oV (.agg (e_api_Addr (gi r_4 n_2)).toArray) (q_loadAgg (cs := (e_api_Addr (gi r_4 n_2))) ta_28 rfl rfl (Blk.cells (k := 17) (hS.box 2 rfl) rfl)) rfl ?_
    refine oV (.agg #[.bool r_0_1, vr_1_1]) (q_loadAgg (cs := [.bool r_0_1, vr_1_1]) ta_50 rfl rfl (Blk.cells (k := 2) (hS.box 1 rfl) rfl)) rfl ?_
    refine oV (.agg (c_api_Want (gi r_4 n_2) (.bool r_0_1) vr_1_1).toArray) (q_build tp_77 (fill_cons (cs' := (c_api_Want (gi r_4 n_2) (.bool false) (.slice none 0 0)).toArray) (vc := (e_api_Addr (gi r_4 n_2)).toArray) rfl rfl rfl (Nat.le_of_ble_eq_true rfl) rfl (fill_cons (cs' := (c_api_Want (gi r_4 n_2) (.bool r_0_1) vr_1_1).toArray) (vc := #[.bool r_0_1, vr_1_1]) rfl rfl rfl (Nat.le_of_ble_eq_true rfl) rfl rfl))) rfl ?_
    obtain ⟨F_10, hS, hk, hL_6⟩ := hS.freezeOwn
    replace hK := hK.trans hk
    replace hN_l := hN_l.kp hk
    replace hN_2 := hN_2.kp hk
    replace hL_1 := hL_1.kp hk
    replace hN_3 := hN_3.kp hk
    replace hN_8 := hN_8.kp hk
    replace hF_1 := hF_1.kp hk
    replace hN_9 := hN_9.kp hk
    replace hM := hM vr_1_1
    refine HO.eff (want_none) rfl (st_lit (enc := e_api_Want) (cells := #[.bool ((gi r_4 n_2).1), .int .u8 (b8 ((gi r_4 n_2).2) 0), .int .u8 (b8 ((gi r_4 n_2).2) 1), .int .u8 (b8 ((gi r_4 n_2).2) 2), .int .u8 (b8 ((gi r_4 n_2).2) 3), .int .u8 (b8 ((gi r_4 n_2).2) 4), .int .u8 (b8 ((gi r_4 n_2).2) 5), .int .u8 (b8 ((gi r_4 n_2).2) 6), .int .u8 (b8 ((gi r_4 n_2).2) 7), .int .u8 (b8 ((gi r_4 n_2).2) 8), .int .u8 (b8 ((gi r_4 n_2).2) 9), .int .u8 (b8 ((gi r_4 n_2).2) 10), .int .u8 (b8 ((gi r_4 n_2).2) 11), .int .u8 (b8 ((gi r_4 n_2).2) 12), .int .u8 (b8 ((gi r_4 n_2).2) 13), .int .u8 (b8 ((gi r_4 n_2).2) 14), .int .u8 (b8 ((gi r_4 n_2).2) 15), .bool r_0_1, vr_1_1]) #[.bool false, .int .u8 0, .int .u8 0, .int .u8 0, .int .u8 0, .int .u8 0, .int .u8 0, .int .u8 0, .int .u8 0, .int .u8 0, .int .u8 0, .int .u8 0, .int .u8 0, .int .u8 0, .int .u8 0, .int .u8 0, .int .u8 0, .bool false, .slice none 0 0] ([((gi r_4 n_2), (r_0_1, (vr_1_1, r_1_1)))] : List T_api_Want) hS tl_71 (by decide) (by decide) (by kernel_rfl) (by kernel_rfl) rfl (by intro x hx; rfl) rfl) ?_
    rintro _ h_19 ⟨b_6, rfl, hS, hk⟩
    replace hK := hK.trans hk
    replace hN_l := hN_l.kp hk
    replace hN_2 := hN_2.kp hk
    replace hL_1 := hL_1.kp hk
    replace hN_3 := hN_3.kp hk
    replace hN_8 := hN_8.kp hk
    replace hF_1 := hF_1.kp hk
    replace hN_9 := hN_9.kp hk
    replace hL_6 := hL_6.kp hk
    have hN_12 : NfL nf_api_Want F_10 h_19 ([((gi r_4 n_2), (r_0_1, (vr_1_1, r_1_1)))] : List T_api_Want) := (NfL.cons (nfm_api_Want ((gi r_4 n_2), (r_0_1, (vr_1_1, r_1_1))) hL_6) (NfL.nil _ _ _))
    obtain ⟨ho_5, hM⟩ := hM
    refine HO.eff (want_none) rfl (st_append te_71 hS (i := 4) rfl (hS.own 0 rfl).slice rfl rfl rfl (fun a_ ha_ => nfo_api_Want (hN_12.is.all a_ ha_)) ho_5 (by omega)) ?_
    rintro v_2 h_20 ⟨hS, hk⟩
    replace hK := hK.trans hk
    replace hN_l := hN_l.kp hk
    replace hN_2 := hN_2.kp hk
    replace hL_1 := hL_1.kp hk
    replace hN_3 := hN_3.kp hk
    replace hN_8 := hN_8.kp hk
    replace hF_1 := hF_1.kp hk
    replace hN_9 := hN_9.kp hk
    replace hN_12 := hN_12.kp hk
    have hN_13 : NfL nf_api_Want F_10 h_20 (out_1 ++ ([((gi r_4 n_2), (r_0_1, (vr_1_1, r_1_1)))] : List T_api_Want)) := NfL.app hN_9 hN_12
    refine oA (v_2) rfl rfl ?_
    refine HO.nil (blockQ_normal (thenQ_normal (?_)))
    refine HW.region ?_
    obtain ⟨ho_6, hM⟩ := hM
    refine oV (.int .i64 (n_2 + 1)) (q_addN _ rfl rfl rfl ho_6.1 ho_6.2) rfl ?_
    refine oM (.int .i64 (n_2 + 1)) rfl rfl ?_
    refine HO.nil (thenQ_normal (?_))
    replace hS : St F_10 (Ow.map r_2 (fun (x : T_api_Addr) => .agg (e_api_Addr x).toArray) bagV all_1 :: Ow.own 77 19 e_api_Want v_2 (out_1 ++ ([((gi r_4 n_2), (r_0_1, (vr_1_1, r_1_1)))] : List T_api_Want)) :: Ow.own 28 17 e_api_Addr vr_3 r_4 :: fr) h_20 := hS.perm2 [3, 4, 5] 6 rfl rfl
    rw [hKe_2] at hM
    exact ⟨(out_1 ++ ([((gi r_4 n_2), (r_0_1, (vr_1_1, r_1_1)))] : List T_api_Want), n_2 + 1), ⟨F_10, v_2, rfl, rfl, rfl, rfl, rfl, rfl, hK, hS, hN_l, hN_2, hL_1, hN_3, hN_8, hF_1, hN_13, hM.1⟩, hM.2⟩
   ·
    replace hM := hM.2 c_3
    refine HW.skip (blockQ_normal (thenQ_normal (?_)))
    refine HW.region ?_
    obtain ⟨ho_7, hM⟩ := hM
    refine oV (.int .i64 (n_2 + 1)) (q_addN _ rfl rfl rfl ho_7.1 ho_7.2) rfl ?_
    refine oM (.int .i64 (n_2 + 1)) rfl rfl ?_
    refine HO.nil (thenQ_normal (?_))
    replace hS : St F_9 (Ow.map r_2 (fun (x : T_api_Addr) => .agg (e_api_Addr x).toArray) bagV all_1 :: Ow.own 77 19 e_api_Want vout_1 out_1 :: Ow.own 28 17 e_api_Addr vr_3 r_4 :: fr) h_18 := hS.perm2 [3, 4, 5] 6 rfl rfl
    rw [hKe_2] at hM
    exact ⟨(out_1, n_2 + 1), ⟨F_9, vout_1, rfl, rfl, rfl, rfl, rfl, rfl, hK, hS, hN_l, hN_2, hL_1, hN_3, hN_8, hF_1, hN_9, hM.1⟩, hM.2⟩
  ·
   replace hM := hM.2 (of_decide_eq_false c_2)
   refine HW.exit (thenQ_exit (thenQ_exit (blockQ_exit (thenQ_normal (?_)))))
   refine HW.seq ?_
   refine HW.region ?_
   refine oM (vout_1) rfl rfl ?_
   refine oA (vout_1) rfl rfl ?_
   refine HO.nil (thenQ_normal (?_))
   refine HW.ret (?_)
   refine ⟨.inr rfl, vout_1, res1 rfl (rt rfl), ?_⟩
   replace hS : St F_6 (Ow.own 77 19 e_api_Want vout_1 out_1 :: fr) h_12 := hS.perm2 [1] 3 rfl rfl
   exact ⟨F_6, out_1, vout_1, rfl, hK, hS, hN_l, hN_9, hM⟩
def proxy_Proxy_Update_1_1_W (x : T_api_Want) (c0_V6 : Bool) (c0_B : Ba 16) (Q : Bool → Prop) : Prop :=
 Q (decide ((x.1 : T_api_Addr) = (c0_V6, c0_B)))
theorem proxy_Proxy_Update_1_1_walk {F : Fz} {fr : List Ow} {h0 : Heap} (x : T_api_Want) (c0_V6 : Bool) (c0_B : Ba 16) (bc0 : Nat) (hS : St F (fr) h0) (hB_bc0 : RoF (Ow.box bc0 28 #[.bool c0_V6, .int .u8 (b8 c0_B 0), .int .u8 (b8 c0_B 1), .int .u8 (b8 c0_B 2), .int .u8 (b8 c0_B 3), .int .u8 (b8 c0_B 4), .int .u8 (b8 c0_B 5), .int .u8 (b8 c0_B 6), .int .u8 (b8 c0_B 7), .int .u8 (b8 c0_B 8), .int .u8 (b8 c0_B 9), .int .u8 (b8 c0_B 10), .int .u8 (b8 c0_B 11), .int .u8 (b8 c0_B 12), .int .u8 (b8 c0_B 13), .int .u8 (b8 c0_B 14), .int .u8 (b8 c0_B 15)]) F h0) {Q : Bool → Prop} (hM : proxy_Proxy_Update_1_1_W x c0_V6 c0_B Q) :
  HC Tryz.prog 86 #[.agg (c_api_Want x.1 (.bool x.2.1) x.2.2.1).toArray, .pointer (some ⟨bc0, 0, none⟩)] h0 fun u h' => ∃ (F' : Fz) (r_1 : Bool), u = .bool r_1 ∧ Kp F h0 F' h' ∧ St F' (fr) h' ∧ (RoF (Ow.box bc0 28 #[.bool c0_V6, .int .u8 (b8 c0_B 0), .int .u8 (b8 c0_B 1), .int .u8 (b8 c0_B 2), .int .u8 (b8 c0_B 3), .int .u8 (b8 c0_B 4), .int .u8 (b8 c0_B 5), .int .u8 (b8 c0_B 6), .int .u8 (b8 c0_B 7), .int .u8 (b8 c0_B 8), .int .u8 (b8 c0_B 9), .int .u8 (b8 c0_B 10), .int .u8 (b8 c0_B 11), .int .u8 (b8 c0_B 12), .int .u8 (b8 c0_B 13), .int .u8 (b8 c0_B 14), .int .u8 (b8 c0_B 15)]) F' h') ∧ Q r_1 := by
 unfold proxy_Proxy_Update_1_1_W at hM
 have hK := Kp.refl F h0
 refine HC.of_HW (n := 8) Tryz.func86 rfl rfl (Nat.le_of_ble_eq_true rfl) ?_
 refine HW.seq ?_
 refine HW.region ?_
 refine HO.eff (want_none) rfl (st_box (c := (c_api_Want x.1 (.bool x.2.1) x.2.2.1).toArray) (k' := 19) hS rfl rfl) ?_
 rintro _ h_1 ⟨b_1, rfl, hS, hk⟩
 replace hK := hK.trans hk
 replace hB_bc0 := hB_bc0.kp hk
 refine oA (.bool false) rfl rfl ?_
 refine HO.nil (thenQ_normal (?_))
 refine HW.seq ?_
 refine HW.region ?_
 refine oV (.pointer (some ⟨b_1, 0, none⟩)) (q_fieldAddr fa_77_0 rfl rfl) rfl ?_
 refine oV (.agg (e_api_Addr x.1).toArray) (q_loadAgg (cs := (e_api_Addr x.1)) ta_28 rfl rfl (Blk.cells (k := 17) (hS.box 0 rfl) rfl)) rfl ?_
 refine oV (.agg (e_api_Addr (c0_V6, c0_B)).toArray) (q_loadAgg (cs := (e_api_Addr (c0_V6, c0_B))) ta_28 rfl rfl (Blk.cells (k := 17) hB_bc0.box rfl)) rfl ?_
 refine oV (.bool (decide ((x.1 : T_api_Addr) = (c0_V6, c0_B)))) (q_eqlAgg (a := x.1) (b := (c0_V6, c0_B)) (fun a b w => teq_28 9997 a b w) (by kernel_rfl) rfl rfl rfl rfl) rfl ?_
 refine oA (.bool (decide ((x.1 : T_api_Addr) = (c0_V6, c0_B)))) rfl rfl ?_
 refine HO.nil (thenQ_normal (?_))
 refine HW.ret (?_)
 refine ⟨.inr rfl, .bool (decide ((x.1 : T_api_Addr) = (c0_V6, c0_B))), res1 rfl (rt rfl), ?_⟩
 replace hS : St F (fr) h_1 := hS.perm2 [] 1 rfl rfl
 exact ⟨F, decide ((x.1 : T_api_Addr) = (c0_V6, c0_B)), rfl, hK, hS, hB_bc0, hM⟩
def slices_IndexFunc_s_api_Want_api_Want_l1 (s1 : List T_api_Want) (cf_f : T_api_Want → Bool) (Q : Int → Prop) (K_1 : Int → Prop) (n_1 : Int) : Prop :=
 (n_1 < (s1.length : Int) → ((0 : Int) ≤ n_1 ∧ n_1 < (s1.length : Int)) ∧ (((cf_f (((gi s1 n_1).1), (((gi s1 n_1).2).1, (((gi s1 n_1).2).2)))) = true → Q n_1) ∧ ((cf_f (((gi s1 n_1).1), (((gi s1 n_1).2).1, (((gi s1 n_1).2).2)))) = false → (I64 (n_1 + 1)) ∧ (K_1 (n_1 + 1))))) ∧ (¬ (n_1 < (s1.length : Int)) → Q (-1))
def slices_IndexFunc_s_api_Want_api_Want_W (s1 : List T_api_Want) (cf_f : T_api_Want → Bool) (Q : Int → Prop) : Prop :=
 loopW (fun (K_1 : Int → Prop) (s : Int) => slices_IndexFunc_s_api_Want_api_Want_l1 s1 cf_f Q K_1 s) 0
theorem slices_IndexFunc_s_api_Want_api_Want_walk {F : Fz} {fr : List Ow} {h0 : Heap} (s1 : List T_api_Want) (cf_f : T_api_Want → Bool) (vs : Value) (g_f : Nat) (fs_f : Array Value) (cs_f : Array Value) (hS : St F (fr) h0) (hN_s1 : NfL nf_api_Want F h0 s1) (hL_s1 : SliceF F h0 19 e_api_Want vs s1) (hF_cf_f : FnP Tryz.prog F h0 g_f fs_f cs_f (fun x : T_api_Want => [.agg (c_api_Want x.1 (.bool x.2.1) x.2.2.1).toArray]) (fun x => .bool (cf_f x))) {Q : Int → Prop} (hM : slices_IndexFunc_s_api_Want_api_Want_W s1 cf_f Q) :
  HC Tryz.prog 135 #[vs, .func (.func g_f) fs_f cs_f] h0 fun u h' => ∃ (F' : Fz) (r_1 : Int), u = .int .i64 r_1 ∧ Kp F h0 F' h' ∧ St F' (fr) h' ∧ (NfL nf_api_Want F' h' s1) ∧ (SliceF F' h' 19 e_api_Want vs s1) ∧ (FnP Tryz.prog F' h' g_f fs_f cs_f (fun x : T_api_Want => [.agg (c_api_Want x.1 (.bool x.2.1) x.2.2.1).toArray]) (fun x => .bool (cf_f x))) ∧ Q r_1 := by
 unfold slices_IndexFunc_s_api_Want_api_Want_W at hM
 have hK := Kp.refl F h0
 refine HC.of_HW (n := 19) Tryz.func135 rfl rfl (Nat.le_of_ble_eq_true rfl) ?_
 refine HW.seq ?_
 refine HW.region ?_
 refine oA (.int .i64 0) rfl rfl ?_
 refine HO.nil (thenQ_normal (?_))
 refine HW.seq ?_
 refine HW.seq ?_
 refine HW.region ?_
 refine oM (vs) rfl rfl ?_
 refine oV (.int .i64 (s1.length : Int)) (q_len ts_71 (shp hL_s1.is) rfl rfl) rfl ?_
 refine oM (.int .i64 0) rfl rfl ?_
 refine HO.nil (thenQ_normal (?_))
 refine HW.block ?_
 obtain ⟨I_1, m_1, hI_1, hR_1⟩ := hM
 refine HW.loop (S := Int) (fun n_1 f h => ∃ (F' : Fz), f 0 = vs ∧ f 1 = .func (.func g_f) fs_f cs_f ∧ f 4 = .int .i64 0 ∧ f 7 = .int .i64 (s1.length : Int) ∧ f 8 = .int .i64 n_1 ∧ Kp F h0 F' h ∧ St F' (fr) h ∧ (NfL nf_api_Want F' h s1) ∧ (SliceF F' h 19 e_api_Want vs s1) ∧ (FnP Tryz.prog F' h g_f fs_f cs_f (fun x : T_api_Want => [.agg (c_api_Want x.1 (.bool x.2.1) x.2.2.1).toArray]) (fun x => .bool (cf_f x))) ∧ I_1 n_1) m_1 0 ⟨F, rfl, rfl, rfl, rfl, rfl, hK, hS, hN_s1, hL_s1, hF_cf_f, hI_1⟩ ?_
 rintro n_1 f_1 h_1 ⟨F_1, e0, e1, e4, e7, e8, hK, hS, hN_s1, hL_s1, hF_cf_f, hI0⟩
 obtain ⟨K_1, hKe_1⟩ : ∃ K : Int → Prop, K = fun n_1' => I_1 n_1' ∧ m_1 n_1' < m_1 n_1 := ⟨_, rfl⟩
 have hM : slices_IndexFunc_s_api_Want_api_Want_l1 s1 cf_f Q K_1 n_1 := by rw [hKe_1]; exact hR_1 n_1 hI0
 unfold slices_IndexFunc_s_api_Want_api_Want_l1 at hM
 refine HW.fr [(0, vs), (1, .func (.func g_f) fs_f cs_f), (4, .int .i64 0), (7, .int .i64 (s1.length : Int)), (8, .int .i64 n_1)] ⟨e0, e1, e4, e7, e8, trivial⟩ ?_
 refine HW.seq ?_
 refine HW.region ?_
 refine oV (.bool (decide (n_1 < (s1.length : Int)))) (q_lss rfl rfl) rfl ?_
 refine HO.nil (thenQ_normal (?_))
 refine HW.seq ?_
 refine HW.cond (decide (n_1 < (s1.length : Int))) rfl (fun c_1 => ?_) (fun c_1 => ?_)
 ·
  replace hM := hM.1 (of_decide_eq_true c_1)
  refine HW.skip (thenQ_normal (?_))
  refine HW.seq ?_
  refine HW.block ?_
  refine HW.seq ?_
  refine HW.region ?_
  refine oM (.int .i64 n_1) rfl rfl ?_
  refine oA (.int .i64 n_1) rfl rfl ?_
  refine HO.nil (thenQ_normal (?_))
  refine HW.seq ?_
  refine HW.region ?_
  refine oM (.func (.func g_f) fs_f cs_f) rfl rfl ?_
  refine oM (vs) rfl rfl ?_
  refine oM (.int .i64 n_1) rfl rfl ?_
  obtain ⟨ho_1, hM⟩ := hM
  refine oV (elemPtr 19 vs (n_1).toNat) (q_idx ts_71 hL_s1.is rfl rfl ho_1) rfl ?_
  refine oV (.agg (c_api_Want ((gi s1 n_1).1) (.bool (((gi s1 n_1).2).1)) ((((gi s1 n_1).2).2).1)).toArray) (q_ldElemAgg (cs := (c_api_Want ((gi s1 n_1).1) (.bool (((gi s1 n_1).2).1)) ((((gi s1 n_1).2).2).1))) ta_77 hL_s1.is rfl ho_1 rfl) rfl ?_
  refine HO.call (want_none) rfl (hF_cf_f.ec (((gi s1 n_1).1), (((gi s1 n_1).2).1, (((gi s1 n_1).2).2))) rfl rfl) (hF_cf_f.hc (((gi s1 n_1).1), (((gi s1 n_1).2).1, (((gi s1 n_1).2).2))) hS) ?_
  rintro _ h_2 ⟨rfl, hS, hk⟩
  replace hK := hK.trans hk
  replace hN_s1 := hN_s1.kp hk
  replace hL_s1 := hL_s1.kp hk
  replace hF_cf_f := hF_cf_f.kp hk
  refine HO.nil (thenQ_normal (?_))
  refine HW.cond (cf_f (((gi s1 n_1).1), (((gi s1 n_1).2).1, (((gi s1 n_1).2).2)))) rfl (fun c_2 => ?_) (fun c_2 => ?_)
  ·
   replace hM := hM.1 c_2
   refine HW.seq ?_
   refine HW.region ?_
   refine oM (.int .i64 n_1) rfl rfl ?_
   refine oA (.int .i64 n_1) rfl rfl ?_
   refine HO.nil (thenQ_normal (?_))
   refine HW.ret (blockQ_ret (thenQ_ret (thenQ_ret (blockQ_ret (thenQ_ret (?_))))))
   refine ⟨.inr rfl, .int .i64 n_1, res1 rfl (rt rfl), ?_⟩
   exact ⟨F_1, n_1, rfl, hK, hS, hN_s1, hL_s1, hF_cf_f, hM⟩
  ·
   replace hM := hM.2 c_2
   refine HW.skip (blockQ_normal (thenQ_normal (?_)))
   refine HW.region ?_
   obtain ⟨ho_2, hM⟩ := hM
   refine oV (.int .i64 (n_1 + 1)) (q_addN _ rfl rfl rfl ho_2.1 ho_2.2) rfl ?_
   refine oM (.int .i64 (n_1 + 1)) rfl rfl ?_
   refine HO.nil (thenQ_normal (?_))
   rw [hKe_1] at hM
   exact ⟨n_1 + 1, ⟨F_1, rfl, rfl, rfl, rfl, rfl, hK, hS, hN_s1, hL_s1, hF_cf_f, hM.1⟩, hM.2⟩
 ·
  replace hM := hM.2 (of_decide_eq_false c_1)
  refine HW.exit (thenQ_exit (thenQ_exit (blockQ_exit (thenQ_normal (?_)))))
  refine HW.seq ?_
  refine HW.region ?_
  refine oA (.int .i64 (-1)) rfl rfl ?_
  refine HO.nil (thenQ_normal (?_))
  refine HW.ret (?_)
  refine ⟨.inr rfl, .int .i64 (-1), res1 rfl (rt rfl), ?_⟩
  exact ⟨F_1, (-1), rfl, hK, hS, hN_s1, hL_s1, hF_cf_f, hM⟩
def slices_ContainsFunc_s_api_Want_api_Want_W (s1 : List T_api_Want) (cf_f : T_api_Want → Bool) (Q : Bool → Prop) : Prop :=
 slices_IndexFunc_s_api_Want_api_Want_W s1 cf_f (fun r_2 => Q (decide (0 ≤ r_2)))
theorem slices_ContainsFunc_s_api_Want_api_Want_walk {F : Fz} {fr : List Ow} {h0 : Heap} (s1 : List T_api_Want) (cf_f : T_api_Want → Bool) (vs : Value) (g_f : Nat) (fs_f : Array Value) (cs_f : Array Value) (hS : St F (fr) h0) (hN_s1 : NfL nf_api_Want F h0 s1) (hL_s1 : SliceF F h0 19 e_api_Want vs s1) (hF_cf_f : FnP Tryz.prog F h0 g_f fs_f cs_f (fun x : T_api_Want => [.agg (c_api_Want x.1 (.bool x.2.1) x.2.2.1).toArray]) (fun x => .bool (cf_f x))) {Q : Bool → Prop} (hM : slices_ContainsFunc_s_api_Want_api_Want_W s1 cf_f Q) :
  HC Tryz.prog 85 #[vs, .func (.func g_f) fs_f cs_f] h0 fun u h' => ∃ (F' : Fz) (r_1 : Bool), u = .bool r_1 ∧ Kp F h0 F' h' ∧ St F' (fr) h' ∧ (NfL nf_api_Want F' h' s1) ∧ (SliceF F' h' 19 e_api_Want vs s1) ∧ (FnP Tryz.prog F' h' g_f fs_f cs_f (fun x : T_api_Want => [.agg (c_api_Want x.1 (.bool x.2.1) x.2.2.1).toArray]) (fun x => .bool (cf_f x))) ∧ Q r_1 := by
 unfold slices_ContainsFunc_s_api_Want_api_Want_W at hM
 have hK := Kp.refl F h0
 refine HC.of_HW (n := 9) Tryz.func85 rfl rfl (Nat.le_of_ble_eq_true rfl) ?_
 refine HW.seq ?_
 refine HW.region ?_
 refine oA (.bool false) rfl rfl ?_
 refine HO.nil (thenQ_normal (?_))
 refine HW.seq ?_
 refine HW.region ?_
 refine oM (vs) rfl rfl ?_
 refine oM (.func (.func g_f) fs_f cs_f) rfl rfl ?_
 refine HO.call (want_none) rfl (ec en_135 rfl rfl) (slices_IndexFunc_s_api_Want_api_Want_walk (fr := (fr)) s1 cf_f vs g_f fs_f cs_f hS hN_s1 hL_s1 hF_cf_f hM) ?_
 rintro _ h_1 ⟨F_1, r_2, rfl, hk, hS, _, _, _, hM⟩
 replace hK := hK.trans hk
 replace hN_s1 := hN_s1.kp hk
 replace hL_s1 := hL_s1.kp hk
 replace hF_cf_f := hF_cf_f.kp hk
 refine oV (.bool (decide (0 ≤ r_2))) (q_geq rfl rfl) rfl ?_
 refine oA (.bool (decide (0 ≤ r_2))) rfl rfl ?_
 refine HO.nil (thenQ_normal (?_))
 refine HW.ret (?_)
 refine ⟨.inr rfl, .bool (decide (0 ≤ r_2)), res1 rfl (rt rfl), ?_⟩
 exact ⟨F_1, decide (0 ≤ r_2), rfl, hK, hS, hN_s1, hL_s1, hF_cf_f, hM⟩
def proxy_Proxy_Update_1_W (g : T_api_Addr) (c0_v : List T_api_Want) (Q : Bool → (List T_api_Want) → Prop) : Prop :=
 ∃ cf_1 : T_api_Want → Bool, (∀ x0, proxy_Proxy_Update_1_1_W x0 g.1 g.2 (fun r => r = cf_1 x0)) ∧ (slices_ContainsFunc_s_api_Want_api_Want_W c0_v cf_1 (fun r_2 => Q r_2 c0_v))
theorem proxy_Proxy_Update_1_walk {F : Fz} {fr : List Ow} {h0 : Heap} (g : T_api_Addr) (c0_v : List T_api_Want) (bc0 : Nat) (vc0_v : Value) (hS : St F (Ow.box bc0 71 #[vc0_v] :: Ow.own 77 19 e_api_Want vc0_v c0_v :: fr) h0) (hN_c0_v : NfL nf_api_Want F h0 c0_v) {Q : Bool → (List T_api_Want) → Prop} (hM : proxy_Proxy_Update_1_W g c0_v Q) :
  HC Tryz.prog 84 #[.agg (e_api_Addr g).toArray, .pointer (some ⟨bc0, 0, none⟩)] h0 fun u h' => ∃ (F' : Fz) (r_1 : Bool) (a1_0_1 : List T_api_Want) (v_1 : Value), u = .bool r_1 ∧ Kp F h0 F' h' ∧ St F' (Ow.box bc0 71 #[v_1] :: Ow.own 77 19 e_api_Want v_1 a1_0_1 :: fr) h' ∧ (NfL nf_api_Want F' h' c0_v) ∧ (NfL nf_api_Want F' h' a1_0_1) ∧ Q r_1 a1_0_1 := by
 unfold proxy_Proxy_Update_1_W at hM
 have hK := Kp.refl F h0
 refine HC.of_HW (n := 7) Tryz.func84 rfl rfl (Nat.le_of_ble_eq_true rfl) ?_
 refine HW.seq ?_
 refine HW.region ?_
 refine HO.eff (want_none) rfl (st_box (c := (e_api_Addr g).toArray) (k' := 17) hS rfl rfl) ?_
 rintro _ h_1 ⟨b_1, rfl, hS, hk⟩
 replace hK := hK.trans hk
 replace hN_c0_v := hN_c0_v.kp hk
 refine oA (.bool false) rfl rfl ?_
 refine HO.nil (thenQ_normal (?_))
 refine HW.seq ?_
 refine HW.region ?_
 refine oV (vc0_v) (q_load to_71 rfl (Blk.cell (hS.box 1 rfl) rfl)) rfl ?_
 refine oV (.func (.func 86) #[] #[.pointer (some ⟨b_1, 0, none⟩)]) (q_makeFunc rfl rfl) rfl ?_
 replace hS : St F (Ow.box b_1 28 (e_api_Addr g).toArray :: Ow.box bc0 71 #[vc0_v] :: Ow.own 77 19 e_api_Want vc0_v c0_v :: fr) h_1 := hS
 have hZ_1 := hS
 have hkz_1 := (hS.freeze).2
 replace hS := hS.freeze.1
 have hL_1 := hZ_1.lent
 obtain ⟨cf_1, hc_1, hM⟩ := hM
 have hF_1 : FnP Tryz.prog (fun bz_ => F bz_ ∨ (Ow.box b_1 28 (e_api_Addr g).toArray).foot bz_) h_1 86 #[] #[.pointer (some ⟨b_1, 0, none⟩)] (fun x : T_api_Want => [.agg (c_api_Want x.1 (.bool x.2.1) x.2.2.1).toArray]) (fun x => .bool (cf_1 x)) := FnP.of en_86 (fun x h' hk_ => @HC.mono ⟨true⟩ _ _ _ _ _ _ (@proxy_Proxy_Update_1_1_walk ⟨true⟩ (allF h') [] h' x g.1 g.2 b_1 (St.init h') (hL_1.kp hk_) (fun r => r = cf_1 x) (hc_1 x)) (fun u h'' ⟨F', r, hu, k_, _, _, hr⟩ => ⟨by rw [hu, hr], F', k_⟩))
 replace hS : St (fun bz_ => F bz_ ∨ (Ow.box b_1 28 (e_api_Addr g).toArray).foot bz_) (Ow.own 77 19 e_api_Want vc0_v c0_v :: Ow.box bc0 71 #[vc0_v] :: fr) h_1 := hS.perm2 [1, 0] 2 rfl rfl
 have hZ_2 := hS
 have hkz_2 := (hS.freeze).2
 replace hS := hS.freeze.1
 have hL_2 : SliceF (fun bz_ => (fun bz_ => F bz_ ∨ (Ow.box b_1 28 (e_api_Addr g).toArray).foot bz_) bz_ ∨ (Ow.own 77 19 e_api_Want vc0_v c0_v).foot bz_) h_1 19 e_api_Want vc0_v c0_v := ⟨(hZ_2.own 0 rfl).slice, fun _ b hb => .inr hb⟩
 refine HO.call (want_none) rfl (ec en_85 rfl rfl) (slices_ContainsFunc_s_api_Want_api_Want_walk (fr := (Ow.box bc0 71 #[vc0_v] :: fr)) c0_v cf_1 vc0_v 86 (#[]) (#[.pointer (some ⟨b_1, 0, none⟩)]) hS (NfL.kp (NfL.kp hN_c0_v hkz_1) hkz_2) hL_2 (hF_1.kp hkz_2) hM) ?_
 rintro _ h_2 ⟨F_1, r_2, rfl, hk, hS, _, _, _, hM⟩
 obtain ⟨hS, hk⟩ := hZ_2.back hk hS
 obtain ⟨hS, hk⟩ := hZ_1.back hk hS
 generalize (fun bz_ => (fun bz_ => F_1 bz_ ∧ ¬ (Ow.own 77 19 e_api_Want vc0_v c0_v).foot bz_) bz_ ∧ ¬ (Ow.box b_1 28 (e_api_Addr g).toArray).foot bz_) = F_2 at hS hk
 replace hK := hK.trans hk
 replace hN_c0_v := hN_c0_v.kp hk
 refine oA (.bool r_2) rfl rfl ?_
 refine HO.nil (thenQ_normal (?_))
 refine HW.ret (?_)
 refine ⟨.inr rfl, .bool r_2, res1 rfl (rt rfl), ?_⟩
 replace hS : St F_2 (Ow.box bc0 71 #[vc0_v] :: Ow.own 77 19 e_api_Want vc0_v c0_v :: fr) h_2 := hS.perm2 [2, 1] 3 rfl rfl
 exact ⟨F_2, r_2, c0_v, vc0_v, rfl, hK, hS, hN_c0_v, hN_c0_v, hM⟩
end Go.Wk
