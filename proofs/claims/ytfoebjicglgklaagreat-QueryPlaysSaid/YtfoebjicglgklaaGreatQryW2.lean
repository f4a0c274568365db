/- Walks of Query. -/
import Derived.Test.YtfoebjicglgklaaGreatQryW1
set_option linter.unusedSimpArgs false
set_option linter.unusedVariables false
set_option linter.unusedSectionVars false
set_option maxHeartbeats 40000000
set_option maxRecDepth 100000
namespace Go.Wk
open Go.HL
open Go.Proofs hiding encI
variable [DM]
def query_Queries_Stop_l1 (q_now : Int) (q_first : Int) (Q : Int → (List (Str × Int)) → Int → (List (TA × (Nat × Nat) × TqL)) → Prop) (r_1 : List Str) (K_1 : (List (Str × Int)) → Int → Prop) (q_1_0_2 : List (Str × Int)) (n_1 : Int) : Prop :=
 (n_1 < (r_1.length : Int) → ((0 : Int) ≤ n_1 ∧ n_1 < (r_1.length : Int)) ∧ (clock_Clock_Cut_string_W q_1_0_2 (gi r_1 n_1) (fun r_2 cm_1 => (I64 (n_1 + 1)) ∧ (K_1 cm_1 (n_1 + 1))))) ∧ (¬ (n_1 < (r_1.length : Int)) → Q q_now q_1_0_2 q_first [])
def query_Queries_Stop_W (q_now : Int) (q_at_at : List (Str × Int)) (q_first : Int) (q_open : List (TA × (Nat × Nat) × TqL)) (Q : Int → (List (Str × Int)) → Int → (List (TA × (Nat × Nat) × TqL)) → Prop) : Prop :=
 clock_Clock_Keys_string_W q_at_at (fun r_1 => loopW (fun (K_1 : ((List (Str × Int)) × Int) → Prop) (s : (List (Str × Int)) × Int) => query_Queries_Stop_l1 q_now q_first Q r_1 (fun q_1_0_2 n_1 => K_1 (q_1_0_2, n_1)) s.1 s.2) (q_at_at, 0))
theorem query_Queries_Stop_walk {F : Fz} {fr : List Ow} {h0 : Heap} (q_now : Int) (q_at_at : List (Str × Int)) (q_first : Int) (q_open : List (TA × (Nat × Nat) × TqL)) (bq : Nat) (bq_at : Nat) (rq_at_at : Nat) (rq_open : Nat) (hS : St F (Ow.box bq 167 #[.int .i64 q_now, .pointer (some ⟨bq_at, 0, none⟩), .int .i64 q_first, .map (some rq_open)] :: Ow.box bq_at 222 #[.map (some rq_at_at)] :: Ow.map rq_at_at kT kI q_at_at :: Ow.pm rq_open (fun (x : TA) => .agg (eA x).toArray) pv_query_left th_query_left q_open none :: fr) h0)  (hD : DM.on = false) {Q : Int → (List (Str × Int)) → Int → (List (TA × (Nat × Nat) × TqL)) → Prop} (hM : query_Queries_Stop_W q_now q_at_at q_first q_open Q) :
  HC Tryz.prog 45 #[.pointer (some ⟨bq, 0, none⟩)] h0 fun u h' => ∃ (F' : Fz) (q_now_1 : Int) (qm_1 : List (Str × Int)) (q_first_1 : Int) (qm_2 : List (TA × (Nat × Nat) × TqL)), u = .tuple #[] ∧ Kp F h0 F' h' ∧ St F' (Ow.box bq 167 #[.int .i64 q_now_1, .pointer (some ⟨bq_at, 0, none⟩), .int .i64 q_first_1, .map (some rq_open)] :: Ow.box bq_at 222 #[.map (some rq_at_at)] :: Ow.map rq_at_at kT kI qm_1 :: Ow.pm rq_open (fun (x : TA) => .agg (eA x).toArray) pv_query_left th_query_left qm_2 none :: fr) h' ∧ Q q_now_1 qm_1 q_first_1 qm_2 := by
 unfold query_Queries_Stop_W at hM
 have hK := Kp.refl F h0
 refine HC.of_HW (n := 27) Tryz.func45 rfl rfl (Nat.le_of_ble_eq_true rfl) ?_
 refine HW.seq ?_
 refine HW.seq ?_
 refine HW.region ?_
 refine oM (.pointer (some ⟨bq, 0, none⟩)) rfl rfl ?_
 refine oV (.bool false) (q_eqlPnil Tryz.underlying90 rfl rfl rfl) rfl ?_
 refine HO.nil (thenQ_normal (?_))
 refine HW.condF rfl ?_
 refine HW.skip (thenQ_normal (?_))
 refine HW.seq ?_
 refine HW.seq ?_
 refine HW.region ?_
 refine oM (.pointer (some ⟨bq, 0, none⟩)) rfl rfl ?_
 refine oV (.pointer (some ⟨bq, 0, none⟩)) (q_nilCheck rfl) rfl ?_
 refine oV (.pointer (some ⟨bq, 1, none⟩)) (q_fieldAddr fa_167_1 rfl rfl) rfl ?_
 refine oV (.pointer (some ⟨bq_at, 0, none⟩)) (q_load to_163 rfl (Blk.cell (hS.box 0 rfl) rfl)) rfl ?_
 replace hS : St F (Ow.box bq_at 222 #[.map (some rq_at_at)] :: Ow.box bq 167 #[.int .i64 q_now, .pointer (some ⟨bq_at, 0, none⟩), .int .i64 q_first, .map (some rq_open)] :: Ow.map rq_at_at kT kI q_at_at :: Ow.pm rq_open (fun (x : TA) => .agg (eA x).toArray) pv_query_left th_query_left q_open none :: fr) h0 := hS.perm2 [1, 0, 2, 3] 4 rfl rfl
 have hZ_1 := hS
 have hkz_1 := (hS.freeze).2
 replace hS := hS.freeze.1
 have hL_1 := hZ_1.lent
 replace hS : St (fun bz_ => F bz_ ∨ (Ow.box bq_at 222 #[.map (some rq_at_at)]).foot bz_) (Ow.map rq_at_at kT kI q_at_at :: Ow.box bq 167 #[.int .i64 q_now, .pointer (some ⟨bq_at, 0, none⟩), .int .i64 q_first, .map (some rq_open)] :: Ow.pm rq_open (fun (x : TA) => .agg (eA x).toArray) pv_query_left th_query_left q_open none :: fr) h0 := hS.perm2 [1, 0, 2] 3 rfl rfl
 have hZ_2 := hS
 have hkz_2 := (hS.freeze).2
 replace hS := hS.freeze.1
 have hL_2 := hZ_2.lent
 refine HO.call (want_none) rfl (ec en_113 rfl rfl) (clock_Clock_Keys_string_walk (fr := (Ow.box bq 167 #[.int .i64 q_now, .pointer (some ⟨bq_at, 0, none⟩), .int .i64 q_first, .map (some rq_open)] :: Ow.pm rq_open (fun (x : TA) => .agg (eA x).toArray) pv_query_left th_query_left q_open none :: fr)) q_at_at bq_at rq_at_at hS hL_2 (hL_1.kp hkz_2) hD hM) ?_
 rintro vr_1 h_1 ⟨F_1, r_1, _, rfl, hk, hS, _, _, hM⟩
 obtain ⟨hS, hk⟩ := hZ_2.back hk hS
 obtain ⟨hS, hk⟩ := hZ_1.back hk hS
 generalize (fun bz_ => (fun bz_ => F_1 bz_ ∧ ¬ (Ow.map rq_at_at kT kI q_at_at).foot bz_) bz_ ∧ ¬ (Ow.box bq_at 222 #[.map (some rq_at_at)]).foot bz_) = F_2 at hS hk
 replace hK := hK.trans hk
 refine oV (.int .i64 (r_1.length : Int)) (q_len ts_171 (shp (hS.own 2 rfl).slice) rfl rfl) rfl ?_
 refine oM (.int .i64 0) rfl rfl ?_
 refine HO.nil (thenQ_normal (?_))
 refine HW.block ?_
 obtain ⟨I_1, m_1, hI_1, hR_1⟩ := hM
 replace hS : St F_2 (Ow.box bq 167 #[.int .i64 q_now, .pointer (some ⟨bq_at, 0, none⟩), .int .i64 q_first, .map (some rq_open)] :: Ow.box bq_at 222 #[.map (some rq_at_at)] :: Ow.map rq_at_at kT kI q_at_at :: Ow.pm rq_open (fun (x : TA) => .agg (eA x).toArray) pv_query_left th_query_left q_open none :: Ow.own 9 1 encT vr_1 r_1 :: fr) h_1 := hS.perm2 [3, 0, 1, 4, 2] 5 rfl rfl
 refine HW.loop (S := (List (Str × Int)) × Int) (fun s f h => match s with | (q_1_0_2, n_1) => ∃ (F' : Fz), f 0 = .pointer (some ⟨bq, 0, none⟩) ∧ f 10 = vr_1 ∧ f 11 = .int .i64 (r_1.length : Int) ∧ f 12 = .int .i64 n_1 ∧ Kp F h0 F' h ∧ St F' (Ow.box bq 167 #[.int .i64 q_now, .pointer (some ⟨bq_at, 0, none⟩), .int .i64 q_first, .map (some rq_open)] :: Ow.box bq_at 222 #[.map (some rq_at_at)] :: Ow.map rq_at_at kT kI q_1_0_2 :: Ow.pm rq_open (fun (x : TA) => .agg (eA x).toArray) pv_query_left th_query_left q_open none :: Ow.own 9 1 encT vr_1 r_1 :: fr) h ∧ I_1 (q_1_0_2, n_1)) m_1 (q_at_at, 0) ⟨F_2, rfl, rfl, rfl, rfl, hK, hS, hI_1⟩ ?_
 rintro ⟨q_1_0_2, n_1⟩ f_1 h_2 ⟨F_3, e0, e10, e11, e12, hK, hS, hI0⟩
 obtain ⟨K_1, hKe_1⟩ : ∃ K : (List (Str × Int)) → Int → Prop, K = fun q_1_0_2' n_1' => I_1 (q_1_0_2', n_1') ∧ m_1 (q_1_0_2', n_1') < m_1 (q_1_0_2, n_1) := ⟨_, rfl⟩
 have hM : query_Queries_Stop_l1 q_now q_first Q r_1 K_1 q_1_0_2 n_1 := by rw [hKe_1]; exact hR_1 (q_1_0_2, n_1) hI0
 unfold query_Queries_Stop_l1 at hM
 refine HW.fr [(0, .pointer (some ⟨bq, 0, none⟩)), (10, vr_1), (11, .int .i64 (r_1.length : Int)), (12, .int .i64 n_1)] ⟨e0, e10, e11, e12, trivial⟩ ?_
 refine HW.seq ?_
 refine HW.region ?_
 refine oV (.bool (decide (n_1 < (r_1.length : Int)))) (q_lss rfl rfl) rfl ?_
 refine HO.nil (thenQ_normal (?_))
 refine HW.seq ?_
 refine HW.cond (decide (n_1 < (r_1.length : Int))) rfl (fun c_1 => ?_) (fun c_1 => ?_)
 ·
  replace hM := hM.1 (of_decide_eq_true c_1)
  refine HW.skip (thenQ_normal (?_))
  refine HW.seq ?_
  refine HW.block ?_
  refine HW.seq ?_
  refine HW.region ?_
  obtain ⟨ho_1, hM⟩ := hM
  refine oV (elemPtr 1 vr_1 (n_1).toNat) (q_idx ts_171 (hS.own 4 rfl).slice rfl rfl ho_1) rfl ?_
  refine oV (.string (bs (gi r_1 n_1))) (q_ldElem to_9 (hS.own 4 rfl).slice rfl ho_1 rfl) rfl ?_
  refine oA (.string (bs (gi r_1 n_1))) rfl rfl ?_
  refine HO.nil (thenQ_normal (?_))
  refine HW.region ?_
  refine oM (.pointer (some ⟨bq, 0, none⟩)) rfl rfl ?_
  refine oV (.pointer (some ⟨bq, 0, none⟩)) (q_nilCheck rfl) rfl ?_
  refine oV (.pointer (some ⟨bq, 1, none⟩)) (q_fieldAddr fa_167_1 rfl rfl) rfl ?_
  refine oV (.pointer (some ⟨bq_at, 0, none⟩)) (q_load to_163 rfl (Blk.cell (hS.box 0 rfl) rfl)) rfl ?_
  refine oM (.string (bs (gi r_1 n_1))) rfl rfl ?_
  replace hS : St F_3 (Ow.box bq_at 222 #[.map (some rq_at_at)] :: Ow.map rq_at_at kT kI q_1_0_2 :: Ow.box bq 167 #[.int .i64 q_now, .pointer (some ⟨bq_at, 0, none⟩), .int .i64 q_first, .map (some rq_open)] :: Ow.pm rq_open (fun (x : TA) => .agg (eA x).toArray) pv_query_left th_query_left q_open none :: Ow.own 9 1 encT vr_1 r_1 :: fr) h_2 := hS.perm2 [1, 2, 0, 3, 4] 5 rfl rfl
  refine HO.call (want_none) rfl (ec en_114 rfl rfl) (clock_Clock_Cut_string_walk (fr := (Ow.box bq 167 #[.int .i64 q_now, .pointer (some ⟨bq_at, 0, none⟩), .int .i64 q_first, .map (some rq_open)] :: Ow.pm rq_open (fun (x : TA) => .agg (eA x).toArray) pv_query_left th_query_left q_open none :: Ow.own 9 1 encT vr_1 r_1 :: fr)) q_1_0_2 (gi r_1 n_1) bq_at rq_at_at hS hM) ?_
  rintro _ h_3 ⟨F_4, r_2, cm_1, rfl, hk, hS, hM⟩
  replace hK := hK.trans hk
  refine HO.nil (blockQ_normal (thenQ_normal (?_)))
  refine HW.region ?_
  obtain ⟨ho_2, hM⟩ := hM
  refine oV (.int .i64 (n_1 + 1)) (q_addN _ rfl rfl rfl ho_2.1 ho_2.2) rfl ?_
  refine oM (.int .i64 (n_1 + 1)) rfl rfl ?_
  refine HO.nil (thenQ_normal (?_))
  replace hS : St F_4 (Ow.box bq 167 #[.int .i64 q_now, .pointer (some ⟨bq_at, 0, none⟩), .int .i64 q_first, .map (some rq_open)] :: Ow.box bq_at 222 #[.map (some rq_at_at)] :: Ow.map rq_at_at kT kI cm_1 :: Ow.pm rq_open (fun (x : TA) => .agg (eA x).toArray) pv_query_left th_query_left q_open none :: Ow.own 9 1 encT vr_1 r_1 :: fr) h_3 := hS.perm2 [2, 0, 1, 3, 4] 5 rfl rfl
  rw [hKe_1] at hM
  exact ⟨(cm_1, n_1 + 1), ⟨F_4, rfl, rfl, rfl, rfl, hK, hS, hM.1⟩, hM.2⟩
 ·
  replace hM := hM.2 (of_decide_eq_false c_1)
  refine HW.exit (thenQ_exit (thenQ_exit (blockQ_exit (thenQ_normal (?_)))))
  refine HW.region ?_
  refine oM (.pointer (some ⟨bq, 0, none⟩)) rfl rfl ?_
  refine oV (.pointer (some ⟨bq, 0, none⟩)) (q_nilCheck rfl) rfl ?_
  refine oV (.pointer (some ⟨bq, 3, none⟩)) (q_fieldAddr fa_167_3 rfl rfl) rfl ?_
  refine oV (.map (some rq_open)) (q_load to_165 rfl (Blk.cell (hS.box 0 rfl) rfl)) rfl ?_
  refine HO.eff (want_none) rfl (st_pmClear hS (i := 3) rfl Tryz.underlying165 rfl rfl) ?_
  rintro _ h_4 ⟨rfl, hS, hk⟩
  replace hK := hK.trans hk
  refine HO.nil (?_)
  refine ⟨.inl rfl, .tuple #[], res0 rfl , ?_⟩
  replace hS : St F_3 (Ow.box bq 167 #[.int .i64 q_now, .pointer (some ⟨bq_at, 0, none⟩), .int .i64 q_first, .map (some rq_open)] :: Ow.box bq_at 222 #[.map (some rq_at_at)] :: Ow.map rq_at_at kT kI q_1_0_2 :: Ow.pm rq_open (fun (x : TA) => .agg (eA x).toArray) pv_query_left th_query_left ([] : List (TA × (Nat × Nat) × TqL)) none :: fr) h_4 := hS.perm2 [0, 1, 2, 3] 5 rfl rfl
  exact ⟨F_3, q_now, q_1_0_2, q_first, [], rfl, hK, hS, hM⟩
def ref22_Q_Stop_W (q_Now : Int) (q_On : Bool) (q_At : Int) (q_First : Int) (q_L : List TrO) (ps : List (SV × List TrL)) (Q : (List (SV × List TrL)) → Int → Bool → Int → Int → Prop) : Prop :=
 Q ps q_Now false q_At q_First
theorem ref22_Q_Stop_walk {F : Fz} {fr : List Ow} {h0 : Heap} (q_Now : Int) (q_On : Bool) (q_At : Int) (q_First : Int) (q_L : List TrO) (ps : List (SV × List TrL)) (bq : Nat) (vq_L : Value) (hS : St F (Ow.box bq 95 #[.int .i64 q_Now, .bool q_On, .int .i64 q_At, .int .i64 q_First, vq_L] :: Ow.own 184 20 erO vq_L q_L :: Ow.pool 190 18 erL ps :: fr) h0)  {Q : (List (SV × List TrL)) → Int → Bool → Int → Int → Prop} (hM : ref22_Q_Stop_W q_Now q_On q_At q_First q_L ps Q) :
  HC Tryz.prog 46 #[.pointer (some ⟨bq, 0, none⟩)] h0 fun u h' => ∃ (F' : Fz) (ps_1 : List (SV × List TrL)) (q_Now_1 : Int) (q_On_1 : Bool) (q_At_1 : Int) (q_First_1 : Int), u = .tuple #[] ∧ Kp F h0 F' h' ∧ St F' (Ow.pool 190 18 erL ps_1 :: Ow.box bq 95 #[.int .i64 q_Now_1, .bool q_On_1, .int .i64 q_At_1, .int .i64 q_First_1, .slice none 0 0] :: fr) h' ∧ Q ps_1 q_Now_1 q_On_1 q_At_1 q_First_1 := by
 unfold ref22_Q_Stop_W at hM
 have hK := Kp.refl F h0
 refine HC.of_HW (n := 8) Tryz.func46 rfl rfl (Nat.le_of_ble_eq_true rfl) ?_
 refine HW.region ?_
 refine oM (.pointer (some ⟨bq, 0, none⟩)) rfl rfl ?_
 refine oM (.pointer (some ⟨bq, 0, none⟩)) rfl rfl ?_
 refine oV (.pointer (some ⟨bq, 0, none⟩)) (q_nilCheck rfl) rfl ?_
 refine oV (.pointer (some ⟨bq, 1, none⟩)) (q_fieldAddr fa_95_1 rfl rfl) rfl ?_
 refine HO.sto (want_none) rfl (st_store (c' := #[.int .i64 q_Now, .bool false, .int .i64 q_At, .int .i64 q_First, vq_L]) hS (i := 0) rfl to_4 rfl rfl rfl rfl (Nat.le_of_ble_eq_true rfl) rfl) ?_
 rintro h_1 ⟨hS, hk⟩
 replace hK := hK.trans hk
 refine oV (.pointer (some ⟨bq, 0, none⟩)) (q_nilCheck rfl) rfl ?_
 refine oV (.pointer (some ⟨bq, 4, none⟩)) (q_fieldAddr fa_95_4 rfl rfl) rfl ?_
 refine HO.sto (want_none) rfl (st_store (c' := #[.int .i64 q_Now, .bool false, .int .i64 q_At, .int .i64 q_First, .slice none 0 0]) hS (i := 0) rfl to_93 rfl rfl rfl rfl (Nat.le_of_ble_eq_true rfl) rfl) ?_
 rintro h_2 ⟨hS, hk⟩
 replace hK := hK.trans hk
 refine HO.nil (?_)
 refine ⟨.inl rfl, .tuple #[], res0 rfl , ?_⟩
 replace hS : St F (Ow.pool 190 18 erL ps :: Ow.box bq 95 #[.int .i64 q_Now, .bool false, .int .i64 q_At, .int .i64 q_First, .slice none 0 0] :: fr) h_2 := hS.perm2 [2, 0] 3 rfl rfl
 exact ⟨F, ps, q_Now, false, q_At, q_First, rfl, hK, hS, hM⟩
def slices_Clone_s_api_Addr_api_Addr_W (s1 : List TA) (Q : (List TA) → Prop) : Prop :=
 (s1 = [] → Q []) ∧ (True → ((([] : List TA).length + s1.length) * 17 ≤ 140737488355328) ∧ (Q (([] : List TA) ++ s1)))
theorem slices_Clone_s_api_Addr_api_Addr_walk {F : Fz} {fr : List Ow} {h0 : Heap} (s1 : List TA) (vs : Value) (hS : St F (fr) h0) (hL_s1 : SliceF F h0 17 eA vs s1) {Q : (List TA) → Prop} (hM : slices_Clone_s_api_Addr_api_Addr_W s1 Q) :
  HC Tryz.prog 142 #[vs] h0 fun u h' => ∃ (F' : Fz) (r_1 : List TA) (vr_1 : Value), u = vr_1 ∧ Kp F h0 F' h' ∧ St F' (Ow.own 28 17 eA vr_1 r_1 :: fr) h' ∧ (SliceF F' h' 17 eA vs s1) ∧ Q r_1 := by
 unfold slices_Clone_s_api_Addr_api_Addr_W at hM
 have hK := Kp.refl F h0
 refine HC.of_HW (n := 8) Tryz.func142 rfl rfl (Nat.le_of_ble_eq_true rfl) ?_
 refine HW.seq ?_
 refine HW.region ?_
 refine oA (.slice none 0 0) rfl rfl ?_
 refine HO.nil (thenQ_normal (?_))
 refine HW.seq ?_
 refine HW.seq ?_
 refine HW.region ?_
 refine oM (vs) rfl rfl ?_
 refine oV (.bool (isNil vs)) (q_eqlSnil Tryz.underlying29 (shp hL_s1.is) rfl rfl) rfl ?_
 refine HO.nil (thenQ_normal (?_))
 refine HW.cond (isNil vs) rfl (fun c_1 => ?_) (fun c_1 => ?_)
 ·
  replace hM := hM.1 (isNil_nil hL_s1.is c_1)
  refine HW.seq ?_
  refine HW.region ?_
  refine oA (.slice none 0 0) rfl rfl ?_
  refine HO.nil (thenQ_normal (?_))
  refine HW.ret (thenQ_ret (?_))
  refine ⟨.inr rfl, .slice none 0 0, res1 rfl (rt rfl), ?_⟩
  replace hS := hS.nilOwn 28 17 eA
  exact ⟨F, [], .slice none 0 0, rfl, hK, hS, hL_s1, hM⟩
 ·
  replace hM := hM.2 trivial
  refine HW.skip (thenQ_normal (?_))
  refine HW.seq ?_
  refine HW.region ?_
  refine HO.eff (want_none) rfl (st_litEmpty (α := TA) eA hS tl_29) ?_
  rintro _ h_1 ⟨b_1, rfl, hS, hk⟩
  replace hK := hK.trans hk
  replace hL_s1 := hL_s1.kp hk
  refine oM (vs) rfl rfl ?_
  obtain ⟨ho_1, hM⟩ := hM
  refine HO.eff (want_none) rfl (st_append te_29 hS (i := 0) rfl hL_s1.is rfl rfl rfl (by intro a _ u hu; simp [eA, encI, encN, encB, encT] at hu; rcases hu with rfl | rfl | rfl | rfl | rfl | rfl | rfl | rfl | rfl | rfl | rfl | rfl | rfl | rfl | rfl | rfl | rfl <;> rfl) ho_1 (by omega)) ?_
  rintro v_1 h_2 ⟨hS, hk⟩
  replace hK := hK.trans hk
  replace hL_s1 := hL_s1.kp hk
  refine oA (v_1) rfl rfl ?_
  refine HO.nil (thenQ_normal (?_))
  refine HW.ret (?_)
  refine ⟨.inr rfl, v_1, res1 rfl (rt rfl), ?_⟩
  exact ⟨F, ([] : List TA) ++ s1, v_1, rfl, hK, hS, hL_s1, hM⟩
def slices_IndexFunc_s_api_Addr_api_Addr_l1 (s1 : List TA) (cf_f : TA → Bool) (Q : Int → Prop) (K_1 : Int → Prop) (n_1 : Int) : Prop :=
 (n_1 < (s1.length : Int) → ((0 : Int) ≤ n_1 ∧ n_1 < (s1.length : Int)) ∧ (((cf_f (gi s1 n_1)) = true → Q n_1) ∧ ((cf_f (gi s1 n_1)) = false → (I64 (n_1 + 1)) ∧ (K_1 (n_1 + 1))))) ∧ (¬ (n_1 < (s1.length : Int)) → Q (-1))
def slices_IndexFunc_s_api_Addr_api_Addr_W (s1 : List TA) (cf_f : TA → Bool) (Q : Int → Prop) : Prop :=
 loopW (fun (K_1 : Int → Prop) (s : Int) => slices_IndexFunc_s_api_Addr_api_Addr_l1 s1 cf_f Q K_1 s) 0
theorem slices_IndexFunc_s_api_Addr_api_Addr_walk {F : Fz} {fr : List Ow} {h0 : Heap} (s1 : List TA) (cf_f : TA → Bool) (vs : Value) (g_f : Nat) (fs_f : Array Value) (cs_f : Array Value) (hS : St F (fr) h0) (hL_s1 : SliceF F h0 17 eA vs s1) (hF_cf_f : FnP Tryz.prog F h0 g_f fs_f cs_f (fun x : TA => [.agg (eA x).toArray]) (fun x => .bool (cf_f x))) {Q : Int → Prop} (hM : slices_IndexFunc_s_api_Addr_api_Addr_W s1 cf_f Q) :
  HC Tryz.prog 193 #[vs, .func (.func g_f) fs_f cs_f] h0 fun u h' => ∃ (F' : Fz) (r_1 : Int), u = .int .i64 r_1 ∧ Kp F h0 F' h' ∧ St F' (fr) h' ∧ (SliceF F' h' 17 eA vs s1) ∧ (FnP Tryz.prog F' h' g_f fs_f cs_f (fun x : TA => [.agg (eA x).toArray]) (fun x => .bool (cf_f x))) ∧ Q r_1 := by
 unfold slices_IndexFunc_s_api_Addr_api_Addr_W at hM
 have hK := Kp.refl F h0
 refine HC.of_HW (n := 19) Tryz.func193 rfl rfl (Nat.le_of_ble_eq_true rfl) ?_
 refine HW.seq ?_
 refine HW.region ?_
 refine oA (.int .i64 0) rfl rfl ?_
 refine HO.nil (thenQ_normal (?_))
 refine HW.seq ?_
 refine HW.seq ?_
 refine HW.region ?_
 refine oM (vs) rfl rfl ?_
 refine oV (.int .i64 (s1.length : Int)) (q_len ts_29 (shp hL_s1.is) rfl rfl) rfl ?_
 refine oM (.int .i64 0) rfl rfl ?_
 refine HO.nil (thenQ_normal (?_))
 refine HW.block ?_
 obtain ⟨I_1, m_1, hI_1, hR_1⟩ := hM
 refine HW.loop (S := Int) (fun n_1 f h => ∃ (F' : Fz), f 0 = vs ∧ f 1 = .func (.func g_f) fs_f cs_f ∧ f 4 = .int .i64 0 ∧ f 7 = .int .i64 (s1.length : Int) ∧ f 8 = .int .i64 n_1 ∧ Kp F h0 F' h ∧ St F' (fr) h ∧ (SliceF F' h 17 eA vs s1) ∧ (FnP Tryz.prog F' h g_f fs_f cs_f (fun x : TA => [.agg (eA x).toArray]) (fun x => .bool (cf_f x))) ∧ I_1 n_1) m_1 0 ⟨F, rfl, rfl, rfl, rfl, rfl, hK, hS, hL_s1, hF_cf_f, hI_1⟩ ?_
 rintro n_1 f_1 h_1 ⟨F_1, e0, e1, e4, e7, e8, hK, hS, hL_s1, hF_cf_f, hI0⟩
 obtain ⟨K_1, hKe_1⟩ : ∃ K : Int → Prop, K = fun n_1' => I_1 n_1' ∧ m_1 n_1' < m_1 n_1 := ⟨_, rfl⟩
 have hM : slices_IndexFunc_s_api_Addr_api_Addr_l1 s1 cf_f Q K_1 n_1 := by rw [hKe_1]; exact hR_1 n_1 hI0
 unfold slices_IndexFunc_s_api_Addr_api_Addr_l1 at hM
 refine HW.fr [(0, vs), (1, .func (.func g_f) fs_f cs_f), (4, .int .i64 0), (7, .int .i64 (s1.length : Int)), (8, .int .i64 n_1)] ⟨e0, e1, e4, e7, e8, trivial⟩ ?_
 refine HW.seq ?_
 refine HW.region ?_
 refine oV (.bool (decide (n_1 < (s1.length : Int)))) (q_lss rfl rfl) rfl ?_
 refine HO.nil (thenQ_normal (?_))
 refine HW.seq ?_
 refine HW.cond (decide (n_1 < (s1.length : Int))) rfl (fun c_1 => ?_) (fun c_1 => ?_)
 ·
  replace hM := hM.1 (of_decide_eq_true c_1)
  refine HW.skip (thenQ_normal (?_))
  refine HW.seq ?_
  refine HW.block ?_
  refine HW.seq ?_
  refine HW.region ?_
  refine oM (.int .i64 n_1) rfl rfl ?_
  refine oA (.int .i64 n_1) rfl rfl ?_
  refine HO.nil (thenQ_normal (?_))
  refine HW.seq ?_
  refine HW.region ?_
  refine oM (.func (.func g_f) fs_f cs_f) rfl rfl ?_
  refine oM (vs) rfl rfl ?_
  refine oM (.int .i64 n_1) rfl rfl ?_
  obtain ⟨ho_1, hM⟩ := hM
  refine oV (elemPtr 17 vs (n_1).toNat) (q_idx ts_29 hL_s1.is rfl rfl ho_1) rfl ?_
  refine oV (.agg (eA (gi s1 n_1)).toArray) (q_ldElemAgg (cs := (eA (gi s1 n_1))) ta_28 hL_s1.is rfl ho_1 rfl) rfl ?_
  refine HO.call (want_none) rfl (hF_cf_f.ec (gi s1 n_1) rfl rfl) (hF_cf_f.hc (gi s1 n_1) hS) ?_
  rintro _ h_2 ⟨rfl, hS, hk⟩
  replace hK := hK.trans hk
  replace hL_s1 := hL_s1.kp hk
  replace hF_cf_f := hF_cf_f.kp hk
  refine HO.nil (thenQ_normal (?_))
  refine HW.cond (cf_f (gi s1 n_1)) rfl (fun c_2 => ?_) (fun c_2 => ?_)
  ·
   replace hM := hM.1 c_2
   refine HW.seq ?_
   refine HW.region ?_
   refine oM (.int .i64 n_1) rfl rfl ?_
   refine oA (.int .i64 n_1) rfl rfl ?_
   refine HO.nil (thenQ_normal (?_))
   refine HW.ret (blockQ_ret (thenQ_ret (thenQ_ret (blockQ_ret (thenQ_ret (?_))))))
   refine ⟨.inr rfl, .int .i64 n_1, res1 rfl (rt rfl), ?_⟩
   exact ⟨F_1, n_1, rfl, hK, hS, hL_s1, hF_cf_f, hM⟩
  ·
   replace hM := hM.2 c_2
   refine HW.skip (blockQ_normal (thenQ_normal (?_)))
   refine HW.region ?_
   obtain ⟨ho_2, hM⟩ := hM
   refine oV (.int .i64 (n_1 + 1)) (q_addN _ rfl rfl rfl ho_2.1 ho_2.2) rfl ?_
   refine oM (.int .i64 (n_1 + 1)) rfl rfl ?_
   refine HO.nil (thenQ_normal (?_))
   rw [hKe_1] at hM
   exact ⟨n_1 + 1, ⟨F_1, rfl, rfl, rfl, rfl, rfl, hK, hS, hL_s1, hF_cf_f, hM.1⟩, hM.2⟩
 ·
  replace hM := hM.2 (of_decide_eq_false c_1)
  refine HW.exit (thenQ_exit (thenQ_exit (blockQ_exit (thenQ_normal (?_)))))
  refine HW.seq ?_
  refine HW.region ?_
  refine oA (.int .i64 (-1)) rfl rfl ?_
  refine HO.nil (thenQ_normal (?_))
  refine HW.ret (?_)
  refine ⟨.inr rfl, .int .i64 (-1), res1 rfl (rt rfl), ?_⟩
  exact ⟨F_1, (-1), rfl, hK, hS, hL_s1, hF_cf_f, hM⟩
def slices_DeleteFunc_s_api_Addr_api_Addr_l2 (cf_del : TA → Bool) (Q : (List TA) → Prop) (K_1 : (List TA) → Int → Int → Prop) (l_1 : List TA) (i_1 : Int) (j_1 : Int) : Prop :=
 (j_1 < (l_1.length : Int) → ((0 : Int) ≤ j_1 ∧ j_1 < (l_1.length : Int)) ∧ (((!(cf_del (gi l_1 j_1))) = true → ((0 : Int) ≤ i_1 ∧ i_1 < (l_1.length : Int)) ∧ ((I64 (i_1 + 1)) ∧ ((I64 (j_1 + 1)) ∧ (K_1 (l_1.set (i_1).toNat (gi l_1 j_1)) (i_1 + 1) (j_1 + 1))))) ∧ ((!(cf_del (gi l_1 j_1))) = false → (I64 (j_1 + 1)) ∧ (K_1 l_1 i_1 (j_1 + 1))))) ∧ (¬ (j_1 < (l_1.length : Int)) → ((0 : Int) ≤ i_1 ∧ i_1 ≤ (l_1.length : Int)) ∧ (((0 : Int) ≤ i_1 ∧ i_1 ≤ (l_1.length : Int) ∧ (l_1.length : Int) ≤ (l_1.length : Int)) ∧ (((0 : Int) ≤ i_1 ∧ i_1 ≤ ((clr l_1 i_1 (l_1.length : Int)).length : Int)) ∧ (Q (cut (clr l_1 i_1 (l_1.length : Int)) 0 i_1)))))
def slices_DeleteFunc_s_api_Addr_api_Addr_W (s1 : List TA) (cf_del : TA → Bool) (Q : (List TA) → Prop) : Prop :=
 slices_IndexFunc_s_api_Addr_api_Addr_W s1 cf_del (fun r_2 => (r_2 = (-1) → Q s1) ∧ (¬ (r_2 = (-1)) → (I64 (r_2 + 1)) ∧ (loopW (fun (K_1 : (List TA × Int × Int) → Prop) (s : List TA × Int × Int) => slices_DeleteFunc_s_api_Addr_api_Addr_l2 cf_del Q (fun l_1 i_1 j_1 => K_1 (l_1, i_1, j_1)) s.1 s.2.1 s.2.2) (s1, r_2, r_2 + 1))))
theorem slices_DeleteFunc_s_api_Addr_api_Addr_walk {F : Fz} {fr : List Ow} {h0 : Heap} (s1 : List TA) (cf_del : TA → Bool) (vs : Value) (g_del : Nat) (fs_del : Array Value) (cs_del : Array Value) (hS : St F (Ow.own 28 17 eA vs s1 :: fr) h0) (hF_cf_del : FnP Tryz.prog F h0 g_del fs_del cs_del (fun x : TA => [.agg (eA x).toArray]) (fun x => .bool (cf_del x))) {Q : (List TA) → Prop} (hM : slices_DeleteFunc_s_api_Addr_api_Addr_W s1 cf_del Q) :
  HC Tryz.prog 179 #[vs, .func (.func g_del) fs_del cs_del] h0 fun u h' => ∃ (F' : Fz) (r_1 : List TA) (vr_1 : Value), u = vr_1 ∧ Kp F h0 F' h' ∧ St F' (Ow.own 28 17 eA vr_1 r_1 :: fr) h' ∧ (FnP Tryz.prog F' h' g_del fs_del cs_del (fun x : TA => [.agg (eA x).toArray]) (fun x => .bool (cf_del x))) ∧ Q r_1 := by
 unfold slices_DeleteFunc_s_api_Addr_api_Addr_W at hM
 have hK := Kp.refl F h0
 refine HC.of_HW (n := 42) Tryz.func179 rfl rfl (Nat.le_of_ble_eq_true rfl) ?_
 refine HW.seq ?_
 refine HW.region ?_
 refine oA (.slice none 0 0) rfl rfl ?_
 refine HO.nil (thenQ_normal (?_))
 refine HW.seq ?_
 refine HW.region ?_
 refine oM (vs) rfl rfl ?_
 refine oM (.func (.func g_del) fs_del cs_del) rfl rfl ?_
 replace hS : St F (Ow.own 28 17 eA vs s1 :: fr) h0 := hS
 have hZ_1 := hS
 have hkz_1 := (hS.freeze).2
 replace hS := hS.freeze.1
 have hL_1 : SliceF (fun bz_ => F bz_ ∨ (Ow.own 28 17 eA vs s1).foot bz_) h0 17 eA vs s1 := ⟨(hZ_1.own 0 rfl).slice, fun _ b hb => .inr hb⟩
 refine HO.call (want_none) rfl (ec en_193 rfl rfl) (slices_IndexFunc_s_api_Addr_api_Addr_walk (fr := (fr)) s1 cf_del vs g_del fs_del cs_del hS hL_1 (hF_cf_del.kp hkz_1) hM) ?_
 rintro _ h_1 ⟨F_1, r_2, rfl, hk, hS, _, _, hM⟩
 obtain ⟨hS, hk⟩ := hZ_1.back hk hS
 generalize (fun bz_ => F_1 bz_ ∧ ¬ (Ow.own 28 17 eA vs s1).foot bz_) = F_2 at hS hk
 replace hK := hK.trans hk
 replace hF_cf_del := hF_cf_del.kp hk
 refine oA (.int .i64 r_2) rfl rfl ?_
 refine HO.nil (thenQ_normal (?_))
 refine HW.seq ?_
 refine HW.seq ?_
 refine HW.region ?_
 refine oM (.int .i64 r_2) rfl rfl ?_
 refine oV (.bool (decide (r_2 = (-1)))) (q_eql rfl rfl) rfl ?_
 refine HO.nil (thenQ_normal (?_))
 refine HW.cond (decide (r_2 = (-1))) rfl (fun c_1 => ?_) (fun c_1 => ?_)
 ·
  replace hM := hM.1 (of_decide_eq_true c_1)
  refine HW.seq ?_
  refine HW.region ?_
  refine oM (vs) rfl rfl ?_
  refine oA (vs) rfl rfl ?_
  refine HO.nil (thenQ_normal (?_))
  refine HW.ret (thenQ_ret (?_))
  refine ⟨.inr rfl, vs, res1 rfl (rt rfl), ?_⟩
  exact ⟨F_2, s1, vs, rfl, hK, hS, hF_cf_del, hM⟩
 ·
  replace hM := hM.2 (of_decide_eq_false c_1)
  refine HW.skip (thenQ_normal (?_))
  refine HW.seq ?_
  refine HW.seq ?_
  refine HW.region ?_
  refine oM (.int .i64 r_2) rfl rfl ?_
  obtain ⟨ho_1, hM⟩ := hM
  refine oV (.int .i64 (r_2 + 1)) (q_addN _ rfl rfl rfl ho_1.1 ho_1.2) rfl ?_
  refine oA (.int .i64 (r_2 + 1)) rfl rfl ?_
  refine HO.nil (thenQ_normal (?_))
  refine HW.block ?_
  obtain ⟨I_1, m_1, hI_1, hR_1⟩ := hM
  refine HW.loop (S := List TA × Int × Int) (fun s f h => match s with | (l_1, i_1, j_1) => ∃ (F' : Fz), f 0 = vs ∧ f 1 = .func (.func g_del) fs_del cs_del ∧ f 4 = .slice none 0 0 ∧ f 5 = .int .i64 i_1 ∧ f 6 = .int .i64 j_1 ∧ Kp F h0 F' h ∧ St F' (Ow.own 28 17 eA vs l_1 :: fr) h ∧ (FnP Tryz.prog F' h g_del fs_del cs_del (fun x : TA => [.agg (eA x).toArray]) (fun x => .bool (cf_del x))) ∧ I_1 (l_1, i_1, j_1)) m_1 (s1, r_2, r_2 + 1) ⟨F_2, rfl, rfl, rfl, rfl, rfl, hK, hS, hF_cf_del, hI_1⟩ ?_
  rintro ⟨l_1, i_1, j_1⟩ f_1 h_2 ⟨F_3, e0, e1, e4, e5, e6, hK, hS, hF_cf_del, hI0⟩
  obtain ⟨K_1, hKe_1⟩ : ∃ K : (List TA) → Int → Int → Prop, K = fun l_1' i_1' j_1' => I_1 (l_1', i_1', j_1') ∧ m_1 (l_1', i_1', j_1') < m_1 (l_1, i_1, j_1) := ⟨_, rfl⟩
  have hM : slices_DeleteFunc_s_api_Addr_api_Addr_l2 cf_del Q K_1 l_1 i_1 j_1 := by rw [hKe_1]; exact hR_1 (l_1, i_1, j_1) hI0
  unfold slices_DeleteFunc_s_api_Addr_api_Addr_l2 at hM
  refine HW.fr [(0, vs), (1, .func (.func g_del) fs_del cs_del), (4, .slice none 0 0), (5, .int .i64 i_1), (6, .int .i64 j_1)] ⟨e0, e1, e4, e5, e6, trivial⟩ ?_
  refine HW.seq ?_
  refine HW.seq ?_
  refine HW.region ?_
  refine oM (.int .i64 j_1) rfl rfl ?_
  refine oM (vs) rfl rfl ?_
  refine oV (.int .i64 (l_1.length : Int)) (q_len ts_29 (shp (hS.own 0 rfl).slice) rfl rfl) rfl ?_
  refine oV (.bool (decide (j_1 < (l_1.length : Int)))) (q_lss rfl rfl) rfl ?_
  refine HO.nil (thenQ_normal (?_))
  refine HW.cond (decide (j_1 < (l_1.length : Int))) rfl (fun c_2 => ?_) (fun c_2 => ?_)
  ·
   replace hM := hM.1 (of_decide_eq_true c_2)
   refine HW.skip (thenQ_normal (?_))
   refine HW.seq ?_
   refine HW.block ?_
   refine HW.seq ?_
   refine HW.region ?_
   refine oM (vs) rfl rfl ?_
   refine oM (.int .i64 j_1) rfl rfl ?_
   obtain ⟨ho_2, hM⟩ := hM
   refine oV (elemPtr 17 vs (j_1).toNat) (q_idx ts_29 (hS.own 0 rfl).slice rfl rfl ho_2) rfl ?_
   refine oV (.agg (eA (gi l_1 j_1)).toArray) (q_ldElemAgg (cs := (eA (gi l_1 j_1))) ta_28 (hS.own 0 rfl).slice rfl ho_2 rfl) rfl ?_
   refine HO.eff (want_none) rfl (st_alloc (c := (eA (false, (default : Ba 16))).toArray) hS tz_28 rfl) ?_
   rintro _ h_3 ⟨b_1, rfl, hS, hk⟩
   replace hK := hK.trans hk
   replace hF_cf_del := hF_cf_del.kp hk
   refine HO.sto (want_none) rfl (st_storeAgg (c' := (eA (gi l_1 j_1)).toArray) hS (i := 0) rfl ta_28 rfl rfl rfl (one_e_api_Addr _) (Nat.le_of_ble_eq_true rfl) rfl) ?_
   rintro h_4 ⟨hS, hk⟩
   replace hK := hK.trans hk
   replace hF_cf_del := hF_cf_del.kp hk
   refine HO.nil (thenQ_normal (?_))
   refine HW.seq ?_
   refine HW.region ?_
   refine oM (.func (.func g_del) fs_del cs_del) rfl rfl ?_
   refine oV (.agg (eA (gi l_1 j_1)).toArray) (q_loadAgg (cs := (eA (gi l_1 j_1))) ta_28 rfl rfl (Blk.cells (k := 17) (hS.box 0 rfl) rfl)) rfl ?_
   refine HO.call (want_none) rfl (hF_cf_del.ec (gi l_1 j_1) rfl rfl) (hF_cf_del.hc (gi l_1 j_1) hS) ?_
   rintro _ h_5 ⟨rfl, hS, hk⟩
   replace hK := hK.trans hk
   replace hF_cf_del := hF_cf_del.kp hk
   refine oV (.bool (!(cf_del (gi l_1 j_1)))) (q_not rfl) rfl ?_
   refine HO.nil (thenQ_normal (?_))
   refine HW.cond (!(cf_del (gi l_1 j_1))) rfl (fun c_3 => ?_) (fun c_3 => ?_)
   ·
    replace hM := hM.1 c_3
    refine HW.seq ?_
    refine HW.region ?_
    refine oM (vs) rfl rfl ?_
    refine oM (.int .i64 i_1) rfl rfl ?_
    refine oV (.agg (eA (gi l_1 j_1)).toArray) (q_loadAgg (cs := (eA (gi l_1 j_1))) ta_28 rfl rfl (Blk.cells (k := 17) (hS.box 0 rfl) rfl)) rfl ?_
    obtain ⟨ho_3, hM⟩ := hM
    refine oV (elemPtr 17 vs (i_1).toNat) (q_idx ts_29 (hS.own 1 rfl).slice rfl rfl ho_3) rfl ?_
    refine HO.sto (want_none) rfl (st_storeElem (a := (gi l_1 j_1)) (t := i_1) hS (i := 1) rfl ta_28 rfl ho_3 rfl rfl rfl (one_e_api_Addr _)) ?_
    rintro h_6 ⟨hS, hk⟩
    replace hK := hK.trans hk
    replace hF_cf_del := hF_cf_del.kp hk
    refine HO.nil (thenQ_normal (?_))
    refine HW.region ?_
    refine oM (.int .i64 i_1) rfl rfl ?_
    obtain ⟨ho_4, hM⟩ := hM
    refine oV (.int .i64 (i_1 + 1)) (q_addN _ rfl rfl rfl ho_4.1 ho_4.2) rfl ?_
    refine oA (.int .i64 (i_1 + 1)) rfl rfl ?_
    refine HO.nil (blockQ_normal (thenQ_normal (?_)))
    refine HW.region ?_
    refine oM (.int .i64 j_1) rfl rfl ?_
    obtain ⟨ho_5, hM⟩ := hM
    refine oV (.int .i64 (j_1 + 1)) (q_addN _ rfl rfl rfl ho_5.1 ho_5.2) rfl ?_
    refine oA (.int .i64 (j_1 + 1)) rfl rfl ?_
    refine HO.nil (thenQ_normal (?_))
    replace hS : St F_3 (Ow.own 28 17 eA vs (l_1.set (i_1).toNat (gi l_1 j_1)) :: fr) h_6 := hS.perm2 [1] 2 rfl rfl
    rw [hKe_1] at hM
    exact ⟨(l_1.set (i_1).toNat (gi l_1 j_1), i_1 + 1, j_1 + 1), ⟨F_3, rfl, rfl, rfl, rfl, rfl, hK, hS, hF_cf_del, hM.1⟩, hM.2⟩
   ·
    replace hM := hM.2 c_3
    refine HW.skip (blockQ_normal (thenQ_normal (?_)))
    refine HW.region ?_
    refine oM (.int .i64 j_1) rfl rfl ?_
    obtain ⟨ho_6, hM⟩ := hM
    refine oV (.int .i64 (j_1 + 1)) (q_addN _ rfl rfl rfl ho_6.1 ho_6.2) rfl ?_
    refine oA (.int .i64 (j_1 + 1)) rfl rfl ?_
    refine HO.nil (thenQ_normal (?_))
    replace hS : St F_3 (Ow.own 28 17 eA vs l_1 :: fr) h_5 := hS.perm2 [1] 2 rfl rfl
    rw [hKe_1] at hM
    exact ⟨(l_1, i_1, j_1 + 1), ⟨F_3, rfl, rfl, rfl, rfl, rfl, hK, hS, hF_cf_del, hM.1⟩, hM.2⟩
  ·
   replace hM := hM.2 (of_decide_eq_false c_2)
   refine HW.exit (thenQ_exit (thenQ_exit (blockQ_exit (thenQ_normal (?_)))))
   refine HW.seq ?_
   refine HW.region ?_
   refine oM (vs) rfl rfl ?_
   refine oM (.int .i64 i_1) rfl rfl ?_
   obtain ⟨ho_7, hM⟩ := hM
   refine oV (cutV 17 vs (i_1).toNat ((l_1.length : Int)).toNat) (q_slL ts_29 (hS.own 0 rfl).slice rfl rfl ho_7) rfl ?_
   obtain ⟨ho_8, hM⟩ := hM
   refine HO.eff (want_none) rfl (st_clearS (lo := i_1) (hi := (l_1.length : Int)) (z := .agg #[.bool false, .int .u8 0, .int .u8 0, .int .u8 0, .int .u8 0, .int .u8 0, .int .u8 0, .int .u8 0, .int .u8 0, .int .u8 0, .int .u8 0, .int .u8 0, .int .u8 0, .int .u8 0, .int .u8 0, .int .u8 0, .int .u8 0]) hS (i := 0) rfl te_29 tz_28 rfl (by intro u hu; simp [eA, encI, encN, encB, encT, default] at hu; rcases hu with rfl | rfl | rfl | rfl | rfl | rfl | rfl | rfl | rfl | rfl | rfl | rfl | rfl | rfl | rfl | rfl | rfl <;> rfl) rfl ho_8 rfl) ?_
   rintro _ h_7 ⟨rfl, hS, hk⟩
   replace hK := hK.trans hk
   replace hF_cf_del := hF_cf_del.kp hk
   refine HO.nil (thenQ_normal (?_))
   refine HW.seq ?_
   refine HW.region ?_
   refine oM (vs) rfl rfl ?_
   refine oM (.int .i64 i_1) rfl rfl ?_
   obtain ⟨ho_9, hM⟩ := hM
   refine oV (cutV 17 vs (0 : Int).toNat (i_1).toNat) (q_slH ts_29 (hS.own 0 rfl).slice rfl rfl ho_9) rfl ?_
   refine oA (cutV 17 vs (0 : Int).toNat (i_1).toNat) rfl rfl ?_
   refine HO.nil (thenQ_normal (?_))
   refine HW.ret (?_)
   refine ⟨.inr rfl, cutV 17 vs (0 : Int).toNat (i_1).toNat, res1 rfl (rt rfl), ?_⟩
   replace hS := hS.shrink 0 rfl i_1 ho_9.1 ho_9.2
   exact ⟨F_3, cut (clr l_1 i_1 (l_1.length : Int)) 0 i_1, cutV 17 vs (0 : Int).toNat (i_1).toNat, rfl, hK, hS, hF_cf_del, hM⟩
def addr_Ip4_W (a : Int) (b : Int) (c : Int) (d : Int) (Q : TA → Prop) : Prop :=
 ((0 : Int) ≤ d ∧ d < 256) ∧ (((0 : Int) ≤ c ∧ c < 256) ∧ (((0 : Int) ≤ b ∧ b < 256) ∧ (((0 : Int) ≤ a ∧ a < 256) ∧ (Q (false, mkB 16 [a, b, c, d, 0, 0, 0, 0, 0, 0, 0, 0, 0, 0, 0, 0])))))
theorem addr_Ip4_walk {F : Fz} {fr : List Ow} {h0 : Heap} (a : Int) (b : Int) (c : Int) (d : Int) (hS : St F (fr) h0)  {Q : TA → Prop} (hM : addr_Ip4_W a b c d Q) :
  HC Tryz.prog 143 #[.int .u8 a, .int .u8 b, .int .u8 c, .int .u8 d] h0 fun u h' => ∃ (F' : Fz) (r_1 : TA), u = .agg (eA r_1).toArray ∧ Kp F h0 F' h' ∧ St F' (fr) h' ∧ Q r_1 := by
 unfold addr_Ip4_W at hM
 have hK := Kp.refl F h0
 refine HC.of_HW (n := 15) Tryz.func143 rfl rfl (Nat.le_of_ble_eq_true rfl) ?_
 refine HW.seq ?_
 refine HW.region ?_
 refine HO.eff (want_none) rfl (st_alloc (c := (eA (false, (default : Ba 16))).toArray) hS tz_28 rfl) ?_
 rintro _ h_1 ⟨b_1, rfl, hS, hk⟩
 replace hK := hK.trans hk
 refine HO.nil (thenQ_normal (?_))
 refine HW.seq ?_
 refine HW.region ?_
 refine oM (.int .u8 a) rfl rfl ?_
 refine oM (.int .u8 b) rfl rfl ?_
 refine oM (.int .u8 c) rfl rfl ?_
 refine oM (.int .u8 d) rfl rfl ?_
 obtain ⟨ho_1, hM⟩ := hM
 obtain ⟨ho_2, hM⟩ := hM
 obtain ⟨ho_3, hM⟩ := hM
 obtain ⟨ho_4, hM⟩ := hM
 refine oV (.agg (arrCells (mkB 16 [a, b, c, d, 0, 0, 0, 0, 0, 0, 0, 0, 0, 0, 0, 0])).toArray) ((q_buildA (cells := #[.int .u8 a, .int .u8 b, .int .u8 c, .int .u8 d, .int .u8 0, .int .u8 0, .int .u8 0, .int .u8 0, .int .u8 0, .int .u8 0, .int .u8 0, .int .u8 0, .int .u8 0, .int .u8 0, .int .u8 0, .int .u8 0]) tb_26 rfl).of_eq (mkB_agg (n := 16) (l := [a, b, c, d, 0, 0, 0, 0, 0, 0, 0, 0, 0, 0, 0, 0]) rfl ⟨ho_4, ⟨ho_3, ⟨ho_2, ⟨ho_1, ⟨⟨by decide, by decide⟩, ⟨⟨by decide, by decide⟩, ⟨⟨by decide, by decide⟩, ⟨⟨by decide, by decide⟩, ⟨⟨by decide, by decide⟩, ⟨⟨by decide, by decide⟩, ⟨⟨by decide, by decide⟩, ⟨⟨by decide, by decide⟩, ⟨⟨by decide, by decide⟩, ⟨⟨by decide, by decide⟩, ⟨⟨by decide, by decide⟩, ⟨⟨by decide, by decide⟩, trivial⟩⟩⟩⟩⟩⟩⟩⟩⟩⟩⟩⟩⟩⟩⟩⟩)) rfl ?_
 refine oV (.agg (eA (false, mkB 16 [a, b, c, d, 0, 0, 0, 0, 0, 0, 0, 0, 0, 0, 0, 0])).toArray) (q_build tp_28 (fill_cons (cs' := (eA (false, mkB 16 [a, b, c, d, 0, 0, 0, 0, 0, 0, 0, 0, 0, 0, 0, 0])).toArray) (vc := (arrCells (mkB 16 [a, b, c, d, 0, 0, 0, 0, 0, 0, 0, 0, 0, 0, 0, 0])).toArray) rfl rfl rfl (Nat.le_of_ble_eq_true rfl) rfl rfl)) rfl ?_
 refine HO.sto (want_none) rfl (st_storeAgg (c' := (eA (false, mkB 16 [a, b, c, d, 0, 0, 0, 0, 0, 0, 0, 0, 0, 0, 0, 0])).toArray) hS (i := 0) rfl ta_28 rfl rfl rfl (one_e_api_Addr _) (Nat.le_of_ble_eq_true rfl) rfl) ?_
 rintro h_2 ⟨hS, hk⟩
 replace hK := hK.trans hk
 refine HO.nil (thenQ_normal (?_))
 refine HW.ret (?_)
 refine ⟨.inr rfl, .agg (eA (false, mkB 16 [a, b, c, d, 0, 0, 0, 0, 0, 0, 0, 0, 0, 0, 0, 0])).toArray, res1 rfl (rca (cs := (eA (false, mkB 16 [a, b, c, d, 0, 0, 0, 0, 0, 0, 0, 0, 0, 0, 0, 0]))) ta_28 rfl rfl (Blk.cells (k := 17) (hS.box 0 rfl) rfl)), ?_⟩
 replace hS : St F (fr) h_2 := hS.perm2 [] 1 rfl rfl
 exact ⟨F, (false, mkB 16 [a, b, c, d, 0, 0, 0, 0, 0, 0, 0, 0, 0, 0, 0, 0]), rfl, hK, hS, hM⟩
def addr_Good_W (a : TA) (Q : Bool → Prop) : Prop :=
 (a.1 = true → Q true) ∧ (a.1 = false → addr_Ip4_W (b8 a.2 0) (b8 a.2 1) (b8 a.2 2) (b8 a.2 3) (fun r_2 => Q (decide ((a : TA) = r_2))))
theorem addr_Good_walk {F : Fz} {fr : List Ow} {h0 : Heap} (a : TA) (hS : St F (fr) h0)  {Q : Bool → Prop} (hM : addr_Good_W a Q) :
  HC Tryz.prog 68 #[.agg (eA a).toArray] h0 fun u h' => ∃ (F' : Fz) (r_1 : Bool), u = .bool r_1 ∧ Kp F h0 F' h' ∧ St F' (fr) h' ∧ Q r_1 := by
 unfold addr_Good_W at hM
 have hK := Kp.refl F h0
 refine HC.of_HW (n := 22) Tryz.func68 rfl rfl (Nat.le_of_ble_eq_true rfl) ?_
 refine HW.seq ?_
 refine HW.region ?_
 refine HO.eff (want_none) rfl (st_box (c := (eA a).toArray) (k' := 17) hS rfl rfl) ?_
 rintro _ h_1 ⟨b_1, rfl, hS, hk⟩
 replace hK := hK.trans hk
 refine oA (.bool false) rfl rfl ?_
 refine HO.nil (thenQ_normal (?_))
 refine HW.seq ?_
 refine HW.regionA 20 mixed (fun h => (Blk h b_1 (.cells (eA a).toArray 28 (0, 0)))) [] (by kernel_rfl) ?_
 refine HA.val (k := 0) (v := .pointer (some ⟨b_1, 0, none⟩)) rfl rfl (by kernel_rfl) (by kernel_rfl) (want_none) rfl (fun _ c201 => q_fieldAddr fa_28_0 rfl rfl) ?_
 refine HA.val (k := 1) (v := .bool a.1) rfl rfl (by kernel_rfl) (by kernel_rfl) (want_none) rfl (fun _ c201 => q_load to_4 rfl (Blk.cell c201 rfl)) ?_
 refine HA.val (k := 2) (v := .bool a.1) rfl rfl (by kernel_rfl) (by kernel_rfl) (want_none) rfl (fun _ c201 => q_move rfl) ?_
 rcases Bool.eq_false_or_eq_true a.1 with c_1 | c_1
 ·
  replace hM := hM.1 c_1
  refine HA.past (k := 3) rfl rfl (by kernel_rfl) (by kernel_rfl) (past_by rfl rfl c_1) rfl ?_
  refine HA.past (k := 4) rfl rfl (by kernel_rfl) (by kernel_rfl) (past_by rfl rfl c_1) rfl ?_
  refine HA.past (k := 5) rfl rfl (by kernel_rfl) (by kernel_rfl) (past_by rfl rfl c_1) rfl ?_
  refine HA.past (k := 6) rfl rfl (by kernel_rfl) (by kernel_rfl) (past_by rfl rfl c_1) rfl ?_
  refine HA.past (k := 7) rfl rfl (by kernel_rfl) (by kernel_rfl) (past_by rfl rfl c_1) rfl ?_
  refine HA.past (k := 8) rfl rfl (by kernel_rfl) (by kernel_rfl) (past_by rfl rfl c_1) rfl ?_
  refine HA.past (k := 9) rfl rfl (by kernel_rfl) (by kernel_rfl) (past_by rfl rfl c_1) rfl ?_
  refine HA.past (k := 10) rfl rfl (by kernel_rfl) (by kernel_rfl) (past_by rfl rfl c_1) rfl ?_
  refine HA.past (k := 11) rfl rfl (by kernel_rfl) (by kernel_rfl) (past_by rfl rfl c_1) rfl ?_
  refine HA.past (k := 12) rfl rfl (by kernel_rfl) (by kernel_rfl) (past_by rfl rfl c_1) rfl ?_
  refine HA.past (k := 13) rfl rfl (by kernel_rfl) (by kernel_rfl) (past_by rfl rfl c_1) rfl ?_
  refine HA.past (k := 14) rfl rfl (by kernel_rfl) (by kernel_rfl) (past_by rfl rfl c_1) rfl ?_
  refine HA.past (k := 15) rfl rfl (by kernel_rfl) (by kernel_rfl) (past_by rfl rfl c_1) rfl ?_
  refine HA.one (k := 16) ⟨(hS.box 0 rfl), (Go.Wk.at_nil _ _)⟩ (by kernel_rfl) ?_
  refine HS.past rfl (past_by rfl rfl c_1) rfl ?_
  refine HA.past (k := 17) rfl rfl (by kernel_rfl) (by kernel_rfl) (past_by rfl rfl c_1) rfl ?_
  refine HA.val (k := 18) (v := .bool true) rfl rfl (by kernel_rfl) (by kernel_rfl) (want_none) rfl (fun _ c201 => q_pickK true rfl c_1 rfl) ?_
  refine HA.val (k := 19) (v := .bool true) rfl rfl (by kernel_rfl) (by kernel_rfl) (want_none) rfl (fun _ c201 => q_assign rfl) ?_
  refine HA.nil ⟨(hS.box 0 rfl), (Go.Wk.at_nil _ _)⟩ (by kernel_rfl) (thenQ_normal (?_))
  refine HW.ret (?_)
  refine ⟨.inr rfl, .bool true, res1 rfl (rt rfl), ?_⟩
  replace hS : St F (fr) h_1 := hS.perm2 [] 1 rfl rfl
  exact ⟨F, true, rfl, hK, hS, hM⟩
 ·
  replace hM := hM.2 c_1
  refine HA.val (k := 3) (v := .agg (eA a).toArray) rfl rfl (by kernel_rfl) (by kernel_rfl) (want_by rfl rfl c_1) rfl (fun _ c201 => q_loadAgg (cs := (eA a)) ta_28 rfl rfl (Blk.cells (k := 17) c201 rfl)) ?_
  refine HA.val (k := 4) (v := .pointer (some ⟨b_1, 1, none⟩)) rfl rfl (by kernel_rfl) (by kernel_rfl) (want_by rfl rfl c_1) rfl (fun _ c201 => q_fieldAddr fa_28_1 rfl rfl) ?_
  refine HA.val (k := 5) (v := .pointer (some ⟨b_1, 1, none⟩)) rfl rfl (by kernel_rfl) (by kernel_rfl) (want_by rfl rfl c_1) rfl (fun _ c201 => q_idxA (o := 1) (t := 0) tr_26 rfl rfl ⟨by decide, by decide⟩) ?_
  refine HA.val (k := 6) (v := .int .u8 (b8 a.2 0)) rfl rfl (by kernel_rfl) (by kernel_rfl) (want_by rfl rfl c_1) rfl (fun _ c201 => q_load to_5 rfl (Blk.cell c201 rfl)) ?_
  refine HA.val (k := 7) (v := .pointer (some ⟨b_1, 1, none⟩)) rfl rfl (by kernel_rfl) (by kernel_rfl) (want_by rfl rfl c_1) rfl (fun _ c201 => q_fieldAddr fa_28_1 rfl rfl) ?_
  refine HA.val (k := 8) (v := .pointer (some ⟨b_1, 2, none⟩)) rfl rfl (by kernel_rfl) (by kernel_rfl) (want_by rfl rfl c_1) rfl (fun _ c201 => q_idxA (o := 1) (t := 1) tr_26 rfl rfl ⟨by decide, by decide⟩) ?_
  refine HA.val (k := 9) (v := .int .u8 (b8 a.2 1)) rfl rfl (by kernel_rfl) (by kernel_rfl) (want_by rfl rfl c_1) rfl (fun _ c201 => q_load to_5 rfl (Blk.cell c201 rfl)) ?_
  refine HA.val (k := 10) (v := .pointer (some ⟨b_1, 1, none⟩)) rfl rfl (by kernel_rfl) (by kernel_rfl) (want_by rfl rfl c_1) rfl (fun _ c201 => q_fieldAddr fa_28_1 rfl rfl) ?_
  refine HA.val (k := 11) (v := .pointer (some ⟨b_1, 3, none⟩)) rfl rfl (by kernel_rfl) (by kernel_rfl) (want_by rfl rfl c_1) rfl (fun _ c201 => q_idxA (o := 1) (t := 2) tr_26 rfl rfl ⟨by decide, by decide⟩) ?_
  refine HA.val (k := 12) (v := .int .u8 (b8 a.2 2)) rfl rfl (by kernel_rfl) (by kernel_rfl) (want_by rfl rfl c_1) rfl (fun _ c201 => q_load to_5 rfl (Blk.cell c201 rfl)) ?_
  refine HA.val (k := 13) (v := .pointer (some ⟨b_1, 1, none⟩)) rfl rfl (by kernel_rfl) (by kernel_rfl) (want_by rfl rfl c_1) rfl (fun _ c201 => q_fieldAddr fa_28_1 rfl rfl) ?_
  refine HA.val (k := 14) (v := .pointer (some ⟨b_1, 4, none⟩)) rfl rfl (by kernel_rfl) (by kernel_rfl) (want_by rfl rfl c_1) rfl (fun _ c201 => q_idxA (o := 1) (t := 3) tr_26 rfl rfl ⟨by decide, by decide⟩) ?_
  refine HA.val (k := 15) (v := .int .u8 (b8 a.2 3)) rfl rfl (by kernel_rfl) (by kernel_rfl) (want_by rfl rfl c_1) rfl (fun _ c201 => q_load to_5 rfl (Blk.cell c201 rfl)) ?_
  refine HA.one (k := 16) ⟨(hS.box 0 rfl), (Go.Wk.at_nil _ _)⟩ (by kernel_rfl) ?_
  refine HS.call rfl (want_by rfl rfl c_1) rfl (ec en_143 rfl rfl) (addr_Ip4_walk (fr := (Ow.box b_1 28 (eA a).toArray :: fr)) (b8 a.2 0) (b8 a.2 1) (b8 a.2 2) (b8 a.2 3) hS hM) ?_
  rintro _ h_2 ⟨F_1, r_2, rfl, hk, hS, hM⟩
  replace hK := hK.trans hk
  refine HA.val (k := 17) (v := .bool (decide ((a : TA) = r_2))) rfl rfl (by kernel_rfl) (by kernel_rfl) (want_by rfl rfl c_1) rfl (fun _ c201 => q_eqlAgg (a := a) (b := r_2) (fun a b w => teq_28 9997 a b w) (by kernel_rfl) rfl rfl rfl rfl) ?_
  refine HA.val (k := 18) (v := .bool (decide ((a : TA) = r_2))) rfl rfl (by kernel_rfl) (by kernel_rfl) (want_none) rfl (fun _ c201 => q_pickK false rfl c_1 rfl) ?_
  refine HA.val (k := 19) (v := .bool (decide ((a : TA) = r_2))) rfl rfl (by kernel_rfl) (by kernel_rfl) (want_none) rfl (fun _ c201 => q_assign rfl) ?_
  refine HA.nil ⟨(hS.box 0 rfl), (Go.Wk.at_nil _ _)⟩ (by kernel_rfl) (thenQ_normal (?_))
  refine HW.ret (?_)
  refine ⟨.inr rfl, .bool (decide ((a : TA) = r_2)), res1 rfl (rt rfl), ?_⟩
  replace hS : St F_1 (fr) h_2 := hS.perm2 [] 1 rfl rfl
  exact ⟨F_1, decide ((a : TA) = r_2), rfl, hK, hS, hM⟩
def srcs_Of_1_W (a : TA) (Q : Bool → Prop) : Prop :=
 addr_Good_W a (fun r_2 => Q (!r_2))
theorem srcs_Of_1_walk {F : Fz} {fr : List Ow} {h0 : Heap} (a : TA) (hS : St F (fr) h0)  {Q : Bool → Prop} (hM : srcs_Of_1_W a Q) :
  HC Tryz.prog 180 #[.agg (eA a).toArray] h0 fun u h' => ∃ (F' : Fz) (r_1 : Bool), u = .bool r_1 ∧ Kp F h0 F' h' ∧ St F' (fr) h' ∧ Q r_1 := by
 unfold srcs_Of_1_W at hM
 have hK := Kp.refl F h0
 refine HC.of_HW (n := 6) Tryz.func180 rfl rfl (Nat.le_of_ble_eq_true rfl) ?_
 refine HW.seq ?_
 refine HW.region ?_
 refine HO.eff (want_none) rfl (st_box (c := (eA a).toArray) (k' := 17) hS rfl rfl) ?_
 rintro _ h_1 ⟨b_1, rfl, hS, hk⟩
 replace hK := hK.trans hk
 refine oA (.bool false) rfl rfl ?_
 refine HO.nil (thenQ_normal (?_))
 refine HW.seq ?_
 refine HW.region ?_
 refine oV (.agg (eA a).toArray) (q_loadAgg (cs := (eA a)) ta_28 rfl rfl (Blk.cells (k := 17) (hS.box 0 rfl) rfl)) rfl ?_
 refine HO.call (want_none) rfl (ec en_68 rfl rfl) (addr_Good_walk (fr := (Ow.box b_1 28 (eA a).toArray :: fr)) a hS hM) ?_
 rintro _ h_2 ⟨F_1, r_2, rfl, hk, hS, hM⟩
 replace hK := hK.trans hk
 refine oV (.bool (!r_2)) (q_not rfl) rfl ?_
 refine oA (.bool (!r_2)) rfl rfl ?_
 refine HO.nil (thenQ_normal (?_))
 refine HW.ret (?_)
 refine ⟨.inr rfl, .bool (!r_2), res1 rfl (rt rfl), ?_⟩
 replace hS : St F_1 (fr) h_2 := hS.perm2 [] 1 rfl rfl
 exact ⟨F_1, !r_2, rfl, hK, hS, hM⟩
def slices_Compact_s_api_Addr_api_Addr_l3 (s1 : List TA) (Q : (List TA) → Prop) (k_1 : Int) (K_2 : (List TA) → Int → Int → Prop) (l_2 : List TA) (k_2 : Int) (k2_1 : Int) : Prop :=
 ((0 : Int) ≤ k_1 ∧ k_1 ≤ (s1.length : Int) ∧ (s1.length : Int) ≤ (l_2.length : Int)) ∧ ((k2_1 < ((cut l_2 k_1 (s1.length : Int)).length : Int) → ((0 : Int) ≤ k2_1 ∧ k2_1 < ((cut l_2 k_1 (s1.length : Int)).length : Int)) ∧ ((I64 (k2_1 - 1)) ∧ (((0 : Int) ≤ k2_1 - 1 ∧ k2_1 - 1 < ((cut l_2 k_1 (s1.length : Int)).length : Int)) ∧ ((¬ ((((gi (cut l_2 k_1 (s1.length : Int)) k2_1).1, ((gi (cut l_2 k_1 (s1.length : Int)) k2_1).2)) : TA) = ((gi (cut l_2 k_1 (s1.length : Int)) (k2_1 - 1)).1, ((gi (cut l_2 k_1 (s1.length : Int)) (k2_1 - 1)).2))) → ((0 : Int) ≤ k_2 ∧ k_2 < (l_2.length : Int)) ∧ ((I64 (k_2 + 1)) ∧ ((I64 (k2_1 + 1)) ∧ (K_2 (l_2.set (k_2).toNat ((gi (cut l_2 k_1 (s1.length : Int)) k2_1).1, ((gi (cut l_2 k_1 (s1.length : Int)) k2_1).2))) (k_2 + 1) (k2_1 + 1))))) ∧ ((((gi (cut l_2 k_1 (s1.length : Int)) k2_1).1, ((gi (cut l_2 k_1 (s1.length : Int)) k2_1).2)) : TA) = ((gi (cut l_2 k_1 (s1.length : Int)) (k2_1 - 1)).1, ((gi (cut l_2 k_1 (s1.length : Int)) (k2_1 - 1)).2)) → (I64 (k2_1 + 1)) ∧ (K_2 l_2 k_2 (k2_1 + 1))))))) ∧ (¬ (k2_1 < ((cut l_2 k_1 (s1.length : Int)).length : Int)) → ((0 : Int) ≤ k_2 ∧ k_2 ≤ (l_2.length : Int)) ∧ (((0 : Int) ≤ k_2 ∧ k_2 ≤ (l_2.length : Int) ∧ (l_2.length : Int) ≤ (l_2.length : Int)) ∧ (((0 : Int) ≤ k_2 ∧ k_2 ≤ ((clr l_2 k_2 (l_2.length : Int)).length : Int)) ∧ (Q (cut (clr l_2 k_2 (l_2.length : Int)) 0 k_2))))))
def slices_Compact_s_api_Addr_api_Addr_l1 (s1 : List TA) (Q : (List TA) → Prop) (K_1 : Int → Prop) (k_1 : Int) : Prop :=
 (k_1 < (s1.length : Int) → ((0 : Int) ≤ k_1 ∧ k_1 < (s1.length : Int)) ∧ ((I64 (k_1 - 1)) ∧ (((0 : Int) ≤ k_1 - 1 ∧ k_1 - 1 < (s1.length : Int)) ∧ ((((gi s1 k_1) : TA) = (gi s1 (k_1 - 1)) → ((0 : Int) ≤ k_1 ∧ k_1 ≤ (s1.length : Int)) ∧ (loopW (fun (K_2 : (List TA × Int × Int) → Prop) (s : List TA × Int × Int) => slices_Compact_s_api_Addr_api_Addr_l3 s1 Q k_1 (fun l_2 k_2 k2_1 => K_2 (l_2, k_2, k2_1)) s.1 s.2.1 s.2.2) (s1, k_1, 1))) ∧ (¬ (((gi s1 k_1) : TA) = (gi s1 (k_1 - 1))) → (I64 (k_1 + 1)) ∧ (K_1 (k_1 + 1))))))) ∧ (¬ (k_1 < (s1.length : Int)) → Q s1)
def slices_Compact_s_api_Addr_api_Addr_W (s1 : List TA) (Q : (List TA) → Prop) : Prop :=
 ((s1.length : Int) < 2 → Q s1) ∧ (¬ ((s1.length : Int) < 2) → loopW (fun (K_1 : Int → Prop) (s : Int) => slices_Compact_s_api_Addr_api_Addr_l1 s1 Q K_1 s) 1)
theorem slices_Compact_s_api_Addr_api_Addr_walk {F : Fz} {fr : List Ow} {h0 : Heap} (s1 : List TA) (vs : Value) (hS : St F (Ow.own 28 17 eA vs s1 :: fr) h0)  {Q : (List TA) → Prop} (hM : slices_Compact_s_api_Addr_api_Addr_W s1 Q) :
  HC Tryz.prog 182 #[vs] h0 fun u h' => ∃ (F' : Fz) (r_1 : List TA) (vr_1 : Value), u = vr_1 ∧ Kp F h0 F' h' ∧ St F' (Ow.own 28 17 eA vr_1 r_1 :: fr) h' ∧ Q r_1 := by
 unfold slices_Compact_s_api_Addr_api_Addr_W at hM
 have hK := Kp.refl F h0
 refine HC.of_HW (n := 61) Tryz.func182 rfl rfl (Nat.le_of_ble_eq_true rfl) ?_
 refine HW.seq ?_
 refine HW.region ?_
 refine oA (.slice none 0 0) rfl rfl ?_
 refine HO.nil (thenQ_normal (?_))
 refine HW.seq ?_
 refine HW.seq ?_
 refine HW.region ?_
 refine oM (vs) rfl rfl ?_
 refine oV (.int .i64 (s1.length : Int)) (q_len ts_29 (shp (hS.own 0 rfl).slice) rfl rfl) rfl ?_
 refine oV (.bool (decide ((s1.length : Int) < 2))) (q_lss rfl rfl) rfl ?_
 refine HO.nil (thenQ_normal (?_))
 refine HW.cond (decide ((s1.length : Int) < 2)) rfl (fun c_1 => ?_) (fun c_1 => ?_)
 ·
  replace hM := hM.1 (of_decide_eq_true c_1)
  refine HW.seq ?_
  refine HW.region ?_
  refine oM (vs) rfl rfl ?_
  refine oA (vs) rfl rfl ?_
  refine HO.nil (thenQ_normal (?_))
  refine HW.ret (thenQ_ret (?_))
  refine ⟨.inr rfl, vs, res1 rfl (rt rfl), ?_⟩
  exact ⟨F, s1, vs, rfl, hK, hS, hM⟩
 ·
  replace hM := hM.2 (of_decide_eq_false c_1)
  refine HW.skip (thenQ_normal (?_))
  refine HW.seq ?_
  refine HW.seq ?_
  refine HW.region ?_
  refine oA (.int .i64 1) rfl rfl ?_
  refine HO.nil (thenQ_normal (?_))
  refine HW.block ?_
  obtain ⟨I_1, m_1, hI_1, hR_1⟩ := hM
  refine HW.loop (S := Int) (fun k_1 f h => ∃ (F' : Fz), f 0 = vs ∧ f 2 = .slice none 0 0 ∧ f 3 = .int .i64 k_1 ∧ Kp F h0 F' h ∧ St F' (Ow.own 28 17 eA vs s1 :: fr) h ∧ I_1 k_1) m_1 1 ⟨F, rfl, rfl, rfl, hK, hS, hI_1⟩ ?_
  rintro k_1 f_1 h_1 ⟨F_1, e0, e2, e3, hK, hS, hI0⟩
  obtain ⟨K_1, hKe_1⟩ : ∃ K : Int → Prop, K = fun k_1' => I_1 k_1' ∧ m_1 k_1' < m_1 k_1 := ⟨_, rfl⟩
  have hM : slices_Compact_s_api_Addr_api_Addr_l1 s1 Q K_1 k_1 := by rw [hKe_1]; exact hR_1 k_1 hI0
  unfold slices_Compact_s_api_Addr_api_Addr_l1 at hM
  refine HW.fr [(0, vs), (2, .slice none 0 0), (3, .int .i64 k_1)] ⟨e0, e2, e3, trivial⟩ ?_
  refine HW.seq ?_
  refine HW.seq ?_
  refine HW.region ?_
  refine oM (.int .i64 k_1) rfl rfl ?_
  refine oM (vs) rfl rfl ?_
  refine oV (.int .i64 (s1.length : Int)) (q_len ts_29 (shp (hS.own 0 rfl).slice) rfl rfl) rfl ?_
  refine oV (.bool (decide (k_1 < (s1.length : Int)))) (q_lss rfl rfl) rfl ?_
  refine HO.nil (thenQ_normal (?_))
  refine HW.cond (decide (k_1 < (s1.length : Int))) rfl (fun c_2 => ?_) (fun c_2 => ?_)
  ·
   replace hM := hM.1 (of_decide_eq_true c_2)
   refine HW.skip (thenQ_normal (?_))
   refine HW.seq ?_
   refine HW.block ?_
   refine HW.seq ?_
   refine HW.regionA 10 mixed (fun h => (OwnIs h 0 28 17 eA vs s1)) [] (by kernel_rfl) ?_
   refine HA.val (k := 0) (v := vs) rfl rfl (by kernel_rfl) (by kernel_rfl) (want_none) rfl (fun _ c303 => q_move rfl) ?_
   refine HA.val (k := 1) (v := .int .i64 k_1) rfl rfl (by kernel_rfl) (by kernel_rfl) (want_none) rfl (fun _ c303 => q_move rfl) ?_
   obtain ⟨ho_1, hM⟩ := hM
   refine HA.val (k := 2) (v := elemPtr 17 vs (k_1).toNat) rfl rfl (by kernel_rfl) (by kernel_rfl) (want_none) rfl (fun _ c303 => q_idx ts_29 c303.slice rfl rfl ho_1) ?_
   refine HA.val (k := 3) (v := .agg (eA (gi s1 k_1)).toArray) rfl rfl (by kernel_rfl) (by kernel_rfl) (want_none) rfl (fun _ c303 => q_ldElemAgg (cs := (eA (gi s1 k_1))) ta_28 c303.slice rfl ho_1 rfl) ?_
   refine HA.val (k := 4) (v := vs) rfl rfl (by kernel_rfl) (by kernel_rfl) (want_none) rfl (fun _ c303 => q_move rfl) ?_
   refine HA.val (k := 5) (v := .int .i64 k_1) rfl rfl (by kernel_rfl) (by kernel_rfl) (want_none) rfl (fun _ c303 => q_move rfl) ?_
   obtain ⟨ho_2, hM⟩ := hM
   refine HA.val (k := 6) (v := .int .i64 (k_1 - 1)) rfl rfl (by kernel_rfl) (by kernel_rfl) (want_none) rfl (fun _ c303 => q_subN _ rfl rfl rfl ho_2.1 ho_2.2) ?_
   obtain ⟨ho_3, hM⟩ := hM
   refine HA.val (k := 7) (v := elemPtr 17 vs (k_1 - 1).toNat) rfl rfl (by kernel_rfl) (by kernel_rfl) (want_none) rfl (fun _ c303 => q_idx ts_29 c303.slice rfl rfl ho_3) ?_
   refine HA.val (k := 8) (v := .agg (eA (gi s1 (k_1 - 1))).toArray) rfl rfl (by kernel_rfl) (by kernel_rfl) (want_none) rfl (fun _ c303 => q_ldElemAgg (cs := (eA (gi s1 (k_1 - 1)))) ta_28 c303.slice rfl ho_3 rfl) ?_
   refine HA.val (k := 9) (v := .bool (decide (((gi s1 k_1) : TA) = (gi s1 (k_1 - 1))))) rfl rfl (by kernel_rfl) (by kernel_rfl) (want_none) rfl (fun _ c303 => q_eqlAgg (a := (gi s1 k_1)) (b := (gi s1 (k_1 - 1))) (fun a b w => teq_28 9997 a b w) (by kernel_rfl) rfl rfl rfl rfl) ?_
   refine HA.nil ⟨(hS.own 0 rfl), (Go.Wk.at_nil _ _)⟩ (by kernel_rfl) (thenQ_normal (?_))
   refine HW.cond (decide (((gi s1 k_1) : TA) = (gi s1 (k_1 - 1)))) rfl (fun c_3 => ?_) (fun c_3 => ?_)
   ·
    replace hM := hM.1 (of_decide_eq_true c_3)
    refine HW.seq ?_
    refine HW.region ?_
    refine oM (vs) rfl rfl ?_
    refine oM (.int .i64 k_1) rfl rfl ?_
    obtain ⟨ho_4, hM⟩ := hM
    refine oV (cutV 17 vs (k_1).toNat ((s1.length : Int)).toNat) (q_slL ts_29 (hS.own 0 rfl).slice rfl rfl ho_4) rfl ?_
    refine oA (cutV 17 vs (k_1).toNat ((s1.length : Int)).toNat) rfl rfl ?_
    refine HO.nil (thenQ_normal (?_))
    refine HW.seq ?_
    refine HW.seq ?_
    refine HW.region ?_
    refine oA (.int .i64 1) rfl rfl ?_
    refine HO.nil (thenQ_normal (?_))
    refine HW.block ?_
    obtain ⟨I_2, m_2, hI_2, hR_2⟩ := hM
    refine HW.loop (S := List TA × Int × Int) (fun s f h => match s with | (l_2, k_2, k2_1) => ∃ (F' : Fz), f 0 = vs ∧ f 2 = .slice none 0 0 ∧ f 3 = .int .i64 k_2 ∧ f 4 = cutV 17 vs (k_1).toNat ((s1.length : Int)).toNat ∧ f 5 = .int .i64 k2_1 ∧ Kp F h0 F' h ∧ St F' (Ow.own 28 17 eA vs l_2 :: fr) h ∧ I_2 (l_2, k_2, k2_1)) m_2 (s1, k_1, 1) ⟨F_1, rfl, rfl, rfl, rfl, rfl, hK, hS, hI_2⟩ ?_
    rintro ⟨l_2, k_2, k2_1⟩ f_2 h_2 ⟨F_2, e0, e2, e3, e4, e5, hK, hS, hI0⟩
    obtain ⟨K_2, hKe_2⟩ : ∃ K : (List TA) → Int → Int → Prop, K = fun l_2' k_2' k2_1' => I_2 (l_2', k_2', k2_1') ∧ m_2 (l_2', k_2', k2_1') < m_2 (l_2, k_2, k2_1) := ⟨_, rfl⟩
    have hM : slices_Compact_s_api_Addr_api_Addr_l3 s1 Q k_1 K_2 l_2 k_2 k2_1 := by rw [hKe_2]; exact hR_2 (l_2, k_2, k2_1) hI0
    unfold slices_Compact_s_api_Addr_api_Addr_l3 at hM
    refine HW.fr [(0, vs), (2, .slice none 0 0), (3, .int .i64 k_2), (4, cutV 17 vs (k_1).toNat ((s1.length : Int)).toNat), (5, .int .i64 k2_1)] ⟨e0, e2, e3, e4, e5, trivial⟩ ?_
    refine HW.seq ?_
    refine HW.seq ?_
    refine HW.region ?_
    refine oM (.int .i64 k2_1) rfl rfl ?_
    refine oM (cutV 17 vs (k_1).toNat ((s1.length : Int)).toNat) rfl rfl ?_
    obtain ⟨ho_5, hM⟩ := hM
    refine oV (.int .i64 ((cut l_2 k_1 (s1.length : Int)).length : Int)) (q_len ts_29 (shp (cutIs (hS.own 0 rfl).slice k_1 (s1.length : Int) ho_5.1 ho_5.2.1 ho_5.2.2)) rfl rfl) rfl ?_
    refine oV (.bool (decide (k2_1 < ((cut l_2 k_1 (s1.length : Int)).length : Int)))) (q_lss rfl rfl) rfl ?_
    refine HO.nil (thenQ_normal (?_))
    refine HW.cond (decide (k2_1 < ((cut l_2 k_1 (s1.length : Int)).length : Int))) rfl (fun c_4 => ?_) (fun c_4 => ?_)
    ·
     replace hM := hM.1 (of_decide_eq_true c_4)
     refine HW.skip (thenQ_normal (?_))
     refine HW.seq ?_
     refine HW.block ?_
     refine HW.seq ?_
     refine HW.regionA 10 mixed (fun h => (OwnIs h 0 28 17 eA vs l_2)) [] (by kernel_rfl) ?_
     refine HA.val (k := 0) (v := cutV 17 vs (k_1).toNat ((s1.length : Int)).toNat) rfl rfl (by kernel_rfl) (by kernel_rfl) (want_none) rfl (fun _ c520 => q_move rfl) ?_
     refine HA.val (k := 1) (v := .int .i64 k2_1) rfl rfl (by kernel_rfl) (by kernel_rfl) (want_none) rfl (fun _ c520 => q_move rfl) ?_
     obtain ⟨ho_6, hM⟩ := hM
     refine HA.val (k := 2) (v := elemPtr 17 (cutV 17 vs (k_1).toNat ((s1.length : Int)).toNat) (k2_1).toNat) rfl rfl (by kernel_rfl) (by kernel_rfl) (want_none) rfl (fun _ c520 => q_idx ts_29 (cutIs c520.slice k_1 (s1.length : Int) ho_5.1 ho_5.2.1 ho_5.2.2) rfl rfl ho_6) ?_
     refine HA.val (k := 3) (v := .agg (eA ((gi (cut l_2 k_1 (s1.length : Int)) k2_1).1, ((gi (cut l_2 k_1 (s1.length : Int)) k2_1).2))).toArray) rfl rfl (by kernel_rfl) (by kernel_rfl) (want_none) rfl (fun _ c520 => q_ldElemAgg (cs := (eA ((gi (cut l_2 k_1 (s1.length : Int)) k2_1).1, ((gi (cut l_2 k_1 (s1.length : Int)) k2_1).2)))) ta_28 (cutIs c520.slice k_1 (s1.length : Int) ho_5.1 ho_5.2.1 ho_5.2.2) rfl ho_6 rfl) ?_
     refine HA.val (k := 4) (v := cutV 17 vs (k_1).toNat ((s1.length : Int)).toNat) rfl rfl (by kernel_rfl) (by kernel_rfl) (want_none) rfl (fun _ c520 => q_move rfl) ?_
     refine HA.val (k := 5) (v := .int .i64 k2_1) rfl rfl (by kernel_rfl) (by kernel_rfl) (want_none) rfl (fun _ c520 => q_move rfl) ?_
     obtain ⟨ho_7, hM⟩ := hM
     refine HA.val (k := 6) (v := .int .i64 (k2_1 - 1)) rfl rfl (by kernel_rfl) (by kernel_rfl) (want_none) rfl (fun _ c520 => q_subN _ rfl rfl rfl ho_7.1 ho_7.2) ?_
     obtain ⟨ho_8, hM⟩ := hM
     refine HA.val (k := 7) (v := elemPtr 17 (cutV 17 vs (k_1).toNat ((s1.length : Int)).toNat) (k2_1 - 1).toNat) rfl rfl (by kernel_rfl) (by kernel_rfl) (want_none) rfl (fun _ c520 => q_idx ts_29 (cutIs c520.slice k_1 (s1.length : Int) ho_5.1 ho_5.2.1 ho_5.2.2) rfl rfl ho_8) ?_
     refine HA.val (k := 8) (v := .agg (eA ((gi (cut l_2 k_1 (s1.length : Int)) (k2_1 - 1)).1, ((gi (cut l_2 k_1 (s1.length : Int)) (k2_1 - 1)).2))).toArray) rfl rfl (by kernel_rfl) (by kernel_rfl) (want_none) rfl (fun _ c520 => q_ldElemAgg (cs := (eA ((gi (cut l_2 k_1 (s1.length : Int)) (k2_1 - 1)).1, ((gi (cut l_2 k_1 (s1.length : Int)) (k2_1 - 1)).2)))) ta_28 (cutIs c520.slice k_1 (s1.length : Int) ho_5.1 ho_5.2.1 ho_5.2.2) rfl ho_8 rfl) ?_
     refine HA.val (k := 9) (v := .bool (!decide ((((gi (cut l_2 k_1 (s1.length : Int)) k2_1).1, ((gi (cut l_2 k_1 (s1.length : Int)) k2_1).2)) : TA) = ((gi (cut l_2 k_1 (s1.length : Int)) (k2_1 - 1)).1, ((gi (cut l_2 k_1 (s1.length : Int)) (k2_1 - 1)).2))))) rfl rfl (by kernel_rfl) (by kernel_rfl) (want_none) rfl (fun _ c520 => q_neqAgg (a := ((gi (cut l_2 k_1 (s1.length : Int)) k2_1).1, ((gi (cut l_2 k_1 (s1.length : Int)) k2_1).2))) (b := ((gi (cut l_2 k_1 (s1.length : Int)) (k2_1 - 1)).1, ((gi (cut l_2 k_1 (s1.length : Int)) (k2_1 - 1)).2))) (fun a b w => teq_28 9997 a b w) (by kernel_rfl) rfl rfl rfl rfl) ?_
     refine HA.nil ⟨(hS.own 0 rfl), (Go.Wk.at_nil _ _)⟩ (by kernel_rfl) (thenQ_normal (?_))
     refine HW.cond (!decide ((((gi (cut l_2 k_1 (s1.length : Int)) k2_1).1, ((gi (cut l_2 k_1 (s1.length : Int)) k2_1).2)) : TA) = ((gi (cut l_2 k_1 (s1.length : Int)) (k2_1 - 1)).1, ((gi (cut l_2 k_1 (s1.length : Int)) (k2_1 - 1)).2)))) rfl (fun c_5 => ?_) (fun c_5 => ?_)
     ·
      replace hM := hM.1 (nd_true c_5)
      refine HW.seq ?_
      refine HW.region ?_
      refine oM (vs) rfl rfl ?_
      refine oM (.int .i64 k_2) rfl rfl ?_
      refine oM (cutV 17 vs (k_1).toNat ((s1.length : Int)).toNat) rfl rfl ?_
      refine oM (.int .i64 k2_1) rfl rfl ?_
      refine oV (elemPtr 17 (cutV 17 vs (k_1).toNat ((s1.length : Int)).toNat) (k2_1).toNat) (q_idx ts_29 (cutIs (hS.own 0 rfl).slice k_1 (s1.length : Int) ho_5.1 ho_5.2.1 ho_5.2.2) rfl rfl ho_6) rfl ?_
      refine oV (.agg (eA ((gi (cut l_2 k_1 (s1.length : Int)) k2_1).1, ((gi (cut l_2 k_1 (s1.length : Int)) k2_1).2))).toArray) (q_ldElemAgg (cs := (eA ((gi (cut l_2 k_1 (s1.length : Int)) k2_1).1, ((gi (cut l_2 k_1 (s1.length : Int)) k2_1).2)))) ta_28 (cutIs (hS.own 0 rfl).slice k_1 (s1.length : Int) ho_5.1 ho_5.2.1 ho_5.2.2) rfl ho_6 rfl) rfl ?_
      obtain ⟨ho_9, hM⟩ := hM
      refine oV (elemPtr 17 vs (k_2).toNat) (q_idx ts_29 (hS.own 0 rfl).slice rfl rfl ho_9) rfl ?_
      refine HO.sto (want_none) rfl (st_storeElem (a := ((gi (cut l_2 k_1 (s1.length : Int)) k2_1).1, ((gi (cut l_2 k_1 (s1.length : Int)) k2_1).2))) (t := k_2) hS (i := 0) rfl ta_28 rfl ho_9 rfl rfl rfl (one_e_api_Addr _)) ?_
      rintro h_3 ⟨hS, hk⟩
      replace hK := hK.trans hk
      refine HO.nil (thenQ_normal (?_))
      refine HW.region ?_
      refine oM (.int .i64 k_2) rfl rfl ?_
      obtain ⟨ho_10, hM⟩ := hM
      refine oV (.int .i64 (k_2 + 1)) (q_addN _ rfl rfl rfl ho_10.1 ho_10.2) rfl ?_
      refine oA (.int .i64 (k_2 + 1)) rfl rfl ?_
      refine HO.nil (blockQ_normal (thenQ_normal (?_)))
      refine HW.region ?_
      refine oM (.int .i64 k2_1) rfl rfl ?_
      obtain ⟨ho_11, hM⟩ := hM
      refine oV (.int .i64 (k2_1 + 1)) (q_addN _ rfl rfl rfl ho_11.1 ho_11.2) rfl ?_
      refine oA (.int .i64 (k2_1 + 1)) rfl rfl ?_
      refine HO.nil (thenQ_normal (?_))
      rw [hKe_2] at hM
      exact ⟨(l_2.set (k_2).toNat ((gi (cut l_2 k_1 (s1.length : Int)) k2_1).1, ((gi (cut l_2 k_1 (s1.length : Int)) k2_1).2)), k_2 + 1, k2_1 + 1), ⟨F_2, rfl, rfl, rfl, rfl, rfl, hK, hS, hM.1⟩, hM.2⟩
     ·
      replace hM := hM.2 (nd_false c_5)
      refine HW.skip (blockQ_normal (thenQ_normal (?_)))
      refine HW.region ?_
      refine oM (.int .i64 k2_1) rfl rfl ?_
      obtain ⟨ho_12, hM⟩ := hM
      refine oV (.int .i64 (k2_1 + 1)) (q_addN _ rfl rfl rfl ho_12.1 ho_12.2) rfl ?_
      refine oA (.int .i64 (k2_1 + 1)) rfl rfl ?_
      refine HO.nil (thenQ_normal (?_))
      rw [hKe_2] at hM
      exact ⟨(l_2, k_2, k2_1 + 1), ⟨F_2, rfl, rfl, rfl, rfl, rfl, hK, hS, hM.1⟩, hM.2⟩
    ·
     replace hM := hM.2 (of_decide_eq_false c_4)
     refine HW.exit (thenQ_exit (thenQ_exit (blockQ_exit (thenQ_normal (?_)))))
     refine HW.seq ?_
     refine HW.region ?_
     refine oM (vs) rfl rfl ?_
     refine oM (.int .i64 k_2) rfl rfl ?_
     obtain ⟨ho_13, hM⟩ := hM
     refine oV (cutV 17 vs (k_2).toNat ((l_2.length : Int)).toNat) (q_slL ts_29 (hS.own 0 rfl).slice rfl rfl ho_13) rfl ?_
     obtain ⟨ho_14, hM⟩ := hM
     refine HO.eff (want_none) rfl (st_clearS (lo := k_2) (hi := (l_2.length : Int)) (z := .agg #[.bool false, .int .u8 0, .int .u8 0, .int .u8 0, .int .u8 0, .int .u8 0, .int .u8 0, .int .u8 0, .int .u8 0, .int .u8 0, .int .u8 0, .int .u8 0, .int .u8 0, .int .u8 0, .int .u8 0, .int .u8 0, .int .u8 0]) hS (i := 0) rfl te_29 tz_28 rfl (by intro u hu; simp [eA, encI, encN, encB, encT, default] at hu; rcases hu with rfl | rfl | rfl | rfl | rfl | rfl | rfl | rfl | rfl | rfl | rfl | rfl | rfl | rfl | rfl | rfl | rfl <;> rfl) rfl ho_14 rfl) ?_
     rintro _ h_4 ⟨rfl, hS, hk⟩
     replace hK := hK.trans hk
     refine HO.nil (thenQ_normal (?_))
     refine HW.seq ?_
     refine HW.region ?_
     refine oM (vs) rfl rfl ?_
     refine oM (.int .i64 k_2) rfl rfl ?_
     obtain ⟨ho_15, hM⟩ := hM
     refine oV (cutV 17 vs (0 : Int).toNat (k_2).toNat) (q_slH ts_29 (hS.own 0 rfl).slice rfl rfl ho_15) rfl ?_
     refine oA (cutV 17 vs (0 : Int).toNat (k_2).toNat) rfl rfl ?_
     refine HO.nil (thenQ_normal (?_))
     refine HW.ret (blockQ_ret (thenQ_ret (thenQ_ret (blockQ_ret (thenQ_ret (?_))))))
     refine ⟨.inr rfl, cutV 17 vs (0 : Int).toNat (k_2).toNat, res1 rfl (rt rfl), ?_⟩
     replace hS := hS.shrink 0 rfl k_2 ho_15.1 ho_15.2
     exact ⟨F_2, cut (clr l_2 k_2 (l_2.length : Int)) 0 k_2, cutV 17 vs (0 : Int).toNat (k_2).toNat, rfl, hK, hS, hM⟩
   ·
    replace hM := hM.2 (of_decide_eq_false c_3)
    refine HW.skip (blockQ_normal (thenQ_normal (?_)))
    refine HW.region ?_
    refine oM (.int .i64 k_1) rfl rfl ?_
    obtain ⟨ho_16, hM⟩ := hM
    refine oV (.int .i64 (k_1 + 1)) (q_addN _ rfl rfl rfl ho_16.1 ho_16.2) rfl ?_
    refine oA (.int .i64 (k_1 + 1)) rfl rfl ?_
    refine HO.nil (thenQ_normal (?_))
    rw [hKe_1] at hM
    exact ⟨k_1 + 1, ⟨F_1, rfl, rfl, rfl, hK, hS, hM.1⟩, hM.2⟩
  ·
   replace hM := hM.2 (of_decide_eq_false c_2)
   refine HW.exit (thenQ_exit (thenQ_exit (blockQ_exit (thenQ_normal (?_)))))
   refine HW.seq ?_
   refine HW.region ?_
   refine oM (vs) rfl rfl ?_
   refine oA (vs) rfl rfl ?_
   refine HO.nil (thenQ_normal (?_))
   refine HW.ret (?_)
   refine ⟨.inr rfl, vs, res1 rfl (rt rfl), ?_⟩
   exact ⟨F_1, s1, vs, rfl, hK, hS, hM⟩
def srcs_Of_W (l : List TA) (Q : (List TA) → Prop) : Prop :=
 slices_Clone_s_api_Addr_api_Addr_W l (fun r_2 => ∃ cf_1 : TA → Bool, (∀ x0, srcs_Of_1_W x0 (fun r => r = cf_1 x0)) ∧ (slices_DeleteFunc_s_api_Addr_api_Addr_W r_2 cf_1 (fun r_3 => ∃ cf_2 : TA → TA → Int, Swo cf_2 ∧ (∀ x y, addr_Cmp_W x y (fun r => r = cf_2 x y)) ∧ (r_3).length < 4611686018427387904 ∧ ∀ l_1 : List TA, List.Perm l_1 r_3 → List.Pairwise (fun x y => ¬ cf_2 y x < 0) l_1 → (slices_Compact_s_api_Addr_api_Addr_W l_1 (fun r_4 => Q r_4)))))
theorem srcs_Of_walk {F : Fz} {fr : List Ow} {h0 : Heap} (l : List TA) (vl : Value) (hS : St F (fr) h0) (hL_l : SliceF F h0 17 eA vl l) {Q : (List TA) → Prop} (hM : srcs_Of_W l Q) :
  HC Tryz.prog 115 #[vl] h0 fun u h' => ∃ (F' : Fz) (r_1 : List TA) (vr_1 : Value), u = vr_1 ∧ Kp F h0 F' h' ∧ St F' (Ow.own 28 17 eA vr_1 r_1 :: fr) h' ∧ (SliceF F' h' 17 eA vl l) ∧ Q r_1 := by
 unfold srcs_Of_W at hM
 have hK := Kp.refl F h0
 refine HC.of_HW (n := 11) Tryz.func115 rfl rfl (Nat.le_of_ble_eq_true rfl) ?_
 refine HW.seq ?_
 refine HW.region ?_
 refine oA (.slice none 0 0) rfl rfl ?_
 refine HO.nil (thenQ_normal (?_))
 refine HW.seq ?_
 refine HW.region ?_
 refine oM (vl) rfl rfl ?_
 refine HO.call (want_none) rfl (ec en_142 rfl rfl) (slices_Clone_s_api_Addr_api_Addr_walk (fr := (fr)) l vl hS hL_l hM) ?_
 rintro vr_2 h_1 ⟨F_1, r_2, _, rfl, hk, hS, _, hM⟩
 replace hK := hK.trans hk
 replace hL_l := hL_l.kp hk
 obtain ⟨cf_1, hc_1, hM⟩ := hM
 have hF_1 : FnP Tryz.prog F_1 h_1 180 #[] #[] (fun x : TA => [.agg (eA x).toArray]) (fun x => .bool (cf_1 x)) := FnP.of en_180 (fun x h' hk_ => @HC.mono ⟨true⟩ _ _ _ _ _ _ (@srcs_Of_1_walk ⟨true⟩ (allF h') [] h' x  (St.init h')  (fun r => r = cf_1 x) (hc_1 x)) (fun u h'' ⟨F', r, hu, k_, _, hr⟩ => ⟨by rw [hu, hr], F', k_⟩))
 refine HO.call (want_none) rfl (ec en_179 rfl rfl) (slices_DeleteFunc_s_api_Addr_api_Addr_walk (fr := (fr)) r_2 cf_1 vr_2 180 (#[]) (#[]) hS hF_1 hM) ?_
 rintro vr_3 h_2 ⟨F_2, r_3, _, rfl, hk, hS, _, hM⟩
 replace hK := hK.trans hk
 replace hL_l := hL_l.kp hk
 refine oA (vr_3) rfl rfl ?_
 refine HO.nil (thenQ_normal (?_))
 refine HW.seq ?_
 refine HW.region ?_
 refine oM (vr_3) rfl rfl ?_
 obtain ⟨cf_2, ho_1, hc_2, hM⟩ := hM
 obtain ⟨ho_2, hM⟩ := hM
 refine HO.call (want_none) rfl (ec en_181 rfl rfl) (sortFunc_own Tryz.sortAddr (by decide) (fun w => by kernel_rfl) (fun w => by kernel_rfl) (enc := eA) (fun _ => rfl) (by intro a u hu; simp [eA, encI, encN, encB, encT] at hu; rcases hu with rfl | rfl | rfl | rfl | rfl | rfl | rfl | rfl | rfl | rfl | rfl | rfl | rfl | rfl | rfl | rfl | rfl <;> rfl) ho_1 hS (fnP2 (enc := eA) en_148 (fun x y h' => @addr_Cmp_walk ⟨true⟩ (allF h') [] h' x y (St.init h') (fun r => r = cf_2 x y) (hc_2 x y))) ho_2) ?_
 rintro _ h_3 ⟨l_1, rfl, hk, hS, hp_1, hs_1⟩
 replace hM := hM l_1 hp_1 hs_1
 replace hK := hK.trans hk
 replace hL_l := hL_l.kp hk
 refine HO.nil (thenQ_normal (?_))
 refine HW.seq ?_
 refine HW.region ?_
 refine oM (vr_3) rfl rfl ?_
 refine HO.call (want_none) rfl (ec en_182 rfl rfl) (slices_Compact_s_api_Addr_api_Addr_walk (fr := (fr)) l_1 vr_3 hS hM) ?_
 rintro vr_4 h_4 ⟨F_3, r_4, _, rfl, hk, hS, hM⟩
 replace hK := hK.trans hk
 replace hL_l := hL_l.kp hk
 refine oA (vr_4) rfl rfl ?_
 refine HO.nil (thenQ_normal (?_))
 refine HW.ret (?_)
 refine ⟨.inr rfl, vr_4, res1 rfl (rt rfl), ?_⟩
 exact ⟨F_3, r_4, vr_4, rfl, hK, hS, hL_l, hM⟩
def addr_group_W (a : TA) (Q : Bool → Prop) : Prop :=
 (a.1 = true → Q (decide ((b8 a.2 0) = 255))) ∧ (a.1 = false → Q (decide (((b8 a.2 0).fdiv (2 ^ (min (4 : Int).toNat IntKind.u8.bits))) = 14)))
theorem addr_group_walk {F : Fz} {fr : List Ow} {h0 : Heap} (a : TA) (hS : St F (fr) h0)  {Q : Bool → Prop} (hM : addr_group_W a Q) :
  HC Tryz.prog 144 #[.agg (eA a).toArray] h0 fun u h' => ∃ (F' : Fz) (r_1 : Bool), u = .bool r_1 ∧ Kp F h0 F' h' ∧ St F' (fr) h' ∧ Q r_1 := by
 unfold addr_group_W at hM
 have hK := Kp.refl F h0
 refine HC.of_HW (n := 14) Tryz.func144 rfl rfl (Nat.le_of_ble_eq_true rfl) ?_
 refine HW.seq ?_
 refine HW.region ?_
 refine HO.eff (want_none) rfl (st_box (c := (eA a).toArray) (k' := 17) hS rfl rfl) ?_
 rintro _ h_1 ⟨b_1, rfl, hS, hk⟩
 replace hK := hK.trans hk
 refine oA (.bool false) rfl rfl ?_
 refine HO.nil (thenQ_normal (?_))
 refine HW.seq ?_
 refine HW.seq ?_
 refine HW.region ?_
 refine oV (.pointer (some ⟨b_1, 0, none⟩)) (q_fieldAddr fa_28_0 rfl rfl) rfl ?_
 refine oV (.bool a.1) (q_load to_4 rfl (Blk.cell (hS.box 0 rfl) rfl)) rfl ?_
 refine HO.nil (thenQ_normal (?_))
 refine HW.cond a.1 rfl (fun c_1 => ?_) (fun c_1 => ?_)
 ·
  replace hM := hM.1 c_1
  refine HW.seq ?_
  refine HW.region ?_
  refine oV (.pointer (some ⟨b_1, 1, none⟩)) (q_fieldAddr fa_28_1 rfl rfl) rfl ?_
  refine oV (.pointer (some ⟨b_1, 1, none⟩)) (q_idxA (o := 1) (t := 0) tr_26 rfl rfl ⟨by decide, by decide⟩) rfl ?_
  refine oV (.int .u8 (b8 a.2 0)) (q_load to_5 rfl (Blk.cell (hS.box 0 rfl) rfl)) rfl ?_
  refine oV (.bool (decide ((b8 a.2 0) = 255))) (q_eql rfl rfl) rfl ?_
  refine oA (.bool (decide ((b8 a.2 0) = 255))) rfl rfl ?_
  refine HO.nil (thenQ_normal (?_))
  refine HW.ret (thenQ_ret (?_))
  refine ⟨.inr rfl, .bool (decide ((b8 a.2 0) = 255)), res1 rfl (rt rfl), ?_⟩
  replace hS : St F (fr) h_1 := hS.perm2 [] 1 rfl rfl
  exact ⟨F, decide ((b8 a.2 0) = 255), rfl, hK, hS, hM⟩
 ·
  replace hM := hM.2 c_1
  refine HW.skip (thenQ_normal (?_))
  refine HW.seq ?_
  refine HW.region ?_
  refine oV (.pointer (some ⟨b_1, 1, none⟩)) (q_fieldAddr fa_28_1 rfl rfl) rfl ?_
  refine oV (.pointer (some ⟨b_1, 1, none⟩)) (q_idxA (o := 1) (t := 0) tr_26 rfl rfl ⟨by decide, by decide⟩) rfl ?_
  refine oV (.int .u8 (b8 a.2 0)) (q_load to_5 rfl (Blk.cell (hS.box 0 rfl) rfl)) rfl ?_
  refine oV (.int .u8 ((b8 a.2 0).fdiv (2 ^ (min (4 : Int).toNat IntKind.u8.bits)))) (q_shr rfl rfl (by decide) rfl) rfl ?_
  refine oV (.bool (decide (((b8 a.2 0).fdiv (2 ^ (min (4 : Int).toNat IntKind.u8.bits))) = 14))) (q_eql rfl rfl) rfl ?_
  refine oA (.bool (decide (((b8 a.2 0).fdiv (2 ^ (min (4 : Int).toNat IntKind.u8.bits))) = 14))) rfl rfl ?_
  refine HO.nil (thenQ_normal (?_))
  refine HW.ret (?_)
  refine ⟨.inr rfl, .bool (decide (((b8 a.2 0).fdiv (2 ^ (min (4 : Int).toNat IntKind.u8.bits))) = 14)), res1 rfl (rt rfl), ?_⟩
  replace hS : St F (fr) h_1 := hS.perm2 [] 1 rfl rfl
  exact ⟨F, decide (((b8 a.2 0).fdiv (2 ^ (min (4 : Int).toNat IntKind.u8.bits))) = 14), rfl, hK, hS, hM⟩
def addr_Group_W (a : TA) (Q : Bool → Prop) : Prop :=
 addr_group_W a (fun r_2 => Q r_2)
theorem addr_Group_walk {F : Fz} {fr : List Ow} {h0 : Heap} (a : TA) (hS : St F (fr) h0)  {Q : Bool → Prop} (hM : addr_Group_W a Q) :
  HC Tryz.prog 69 #[.agg (eA a).toArray] h0 fun u h' => ∃ (F' : Fz) (r_1 : Bool), u = .bool r_1 ∧ Kp F h0 F' h' ∧ St F' (fr) h' ∧ Q r_1 := by
 unfold addr_Group_W at hM
 have hK := Kp.refl F h0
 refine HC.of_HW (n := 5) Tryz.func69 rfl rfl (Nat.le_of_ble_eq_true rfl) ?_
 refine HW.seq ?_
 refine HW.region ?_
 refine HO.eff (want_none) rfl (st_box (c := (eA a).toArray) (k' := 17) hS rfl rfl) ?_
 rintro _ h_1 ⟨b_1, rfl, hS, hk⟩
 replace hK := hK.trans hk
 refine oA (.bool false) rfl rfl ?_
 refine HO.nil (thenQ_normal (?_))
 refine HW.seq ?_
 refine HW.region ?_
 refine oV (.agg (eA a).toArray) (q_loadAgg (cs := (eA a)) ta_28 rfl rfl (Blk.cells (k := 17) (hS.box 0 rfl) rfl)) rfl ?_
 refine HO.call (want_none) rfl (ec en_144 rfl rfl) (addr_group_walk (fr := (Ow.box b_1 28 (eA a).toArray :: fr)) a hS hM) ?_
 rintro _ h_2 ⟨F_1, r_2, rfl, hk, hS, hM⟩
 replace hK := hK.trans hk
 refine oA (.bool r_2) rfl rfl ?_
 refine HO.nil (thenQ_normal (?_))
 refine HW.ret (?_)
 refine ⟨.inr rfl, .bool r_2, res1 rfl (rt rfl), ?_⟩
 replace hS : St F_1 (fr) h_2 := hS.perm2 [] 1 rfl rfl
 exact ⟨F_1, r_2, rfl, hK, hS, hM⟩
def query_Queries_of_W (q_now : Int) (q_at_at : List (Str × Int)) (q_first : Int) (q_open : List (TA × (Nat × Nat) × TqL)) (g : TA) (Q0 : Int → (List (Str × Int)) → Int → (List (TA × (Nat × Nat) × TqL)) → Prop) (Q1 : Int → (List (TA × Int)) → Int → (List (Str × Int)) → Int → (List (TA × (Nat × Nat) × TqL)) → Prop) : Prop :=
 (((mget q_open g).isSome) = true → Q1 (((mget0 q_open g).2).1) (((mget0 q_open g).2).2) q_now q_at_at q_first q_open) ∧ (((mget q_open g).isSome) = false → (64 ≤ (q_open.length : Int) → Q0 q_now q_at_at q_first q_open) ∧ (¬ (64 ≤ (q_open.length : Int)) → ∀ b_3 : Nat, (∀ r_2 : Nat, (Q1 0 [] q_now q_at_at q_first (mset q_open g ((b_3, r_2), (default : TqL)))))))
theorem query_Queries_of_walk {F : Fz} {fr : List Ow} {h0 : Heap} (q_now : Int) (q_at_at : List (Str × Int)) (q_first : Int) (q_open : List (TA × (Nat × Nat) × TqL)) (g : TA) (bq : Nat) (bq_at : Nat) (rq_at_at : Nat) (rq_open : Nat) (hS : St F (Ow.box bq 167 #[.int .i64 q_now, .pointer (some ⟨bq_at, 0, none⟩), .int .i64 q_first, .map (some rq_open)] :: Ow.box bq_at 222 #[.map (some rq_at_at)] :: Ow.map rq_at_at kT kI q_at_at :: Ow.pm rq_open (fun (x : TA) => .agg (eA x).toArray) pv_query_left th_query_left q_open none :: fr) h0)  {Q0 : Int → (List (Str × Int)) → Int → (List (TA × (Nat × Nat) × TqL)) → Prop} {Q1 : Int → (List (TA × Int)) → Int → (List (Str × Int)) → Int → (List (TA × (Nat × Nat) × TqL)) → Prop} (hM : query_Queries_of_W q_now q_at_at q_first q_open g Q0 Q1) :
  HC Tryz.prog 116 #[.pointer (some ⟨bq, 0, none⟩), .agg (eA g).toArray] h0 fun u h' => (∃ (F' : Fz) (q_now_1 : Int) (qm_1 : List (Str × Int)) (q_first_1 : Int) (qm_2 : List (TA × (Nat × Nat) × TqL)), u = .pointer none ∧ Kp F h0 F' h' ∧ St F' (Ow.box bq 167 #[.int .i64 q_now_1, .pointer (some ⟨bq_at, 0, none⟩), .int .i64 q_first_1, .map (some rq_open)] :: Ow.box bq_at 222 #[.map (some rq_at_at)] :: Ow.map rq_at_at kT kI qm_1 :: Ow.pm rq_open (fun (x : TA) => .agg (eA x).toArray) pv_query_left th_query_left qm_2 none :: fr) h' ∧ Q0 q_now_1 qm_1 q_first_1 qm_2) ∨ (∃ (F' : Fz) (r_0_1 : Int) (r_1_1 : List (TA × Int)) (q_now_2 : Int) (qm_3 : List (Str × Int)) (q_first_2 : Int) (qm_4 : List (TA × (Nat × Nat) × TqL)) (b_1 : Nat) (r_1 : Nat), u = .pointer (some ⟨b_1, 0, none⟩) ∧ Kp F h0 F' h' ∧ St F' (Ow.box b_1 179 #[.int .i64 r_0_1, .map (some r_1)] :: Ow.map r_1 (fun (x : TA) => .agg (eA x).toArray) kI r_1_1 :: Ow.box bq 167 #[.int .i64 q_now_2, .pointer (some ⟨bq_at, 0, none⟩), .int .i64 q_first_2, .map (some rq_open)] :: Ow.box bq_at 222 #[.map (some rq_at_at)] :: Ow.map rq_at_at kT kI qm_3 :: Ow.pm rq_open (fun (x : TA) => .agg (eA x).toArray) pv_query_left th_query_left qm_4 (some (g, (b_1, r_1))) :: fr) h' ∧ Q1 r_0_1 r_1_1 q_now_2 qm_3 q_first_2 qm_4) := by
 unfold query_Queries_of_W at hM
 have hK := Kp.refl F h0
 refine HC.of_HW (n := 34) Tryz.func116 rfl rfl (Nat.le_of_ble_eq_true rfl) ?_
 refine HW.seq ?_
 refine HW.region ?_
 refine HO.eff (want_none) rfl (st_box (c := (eA g).toArray) (k' := 17) hS rfl rfl) ?_
 rintro _ h_1 ⟨b_2, rfl, hS, hk⟩
 replace hK := hK.trans hk
 refine oA (.pointer none) rfl rfl ?_
 refine HO.nil (thenQ_normal (?_))
 refine HW.seq ?_
 refine HW.seq ?_
 refine HW.regionA 7 mixed (fun h => (Blk h b_2 (.cells (eA g).toArray 28 (0, 0))) ∧ (Blk h bq (.cells #[.int .i64 q_now, .pointer (some ⟨bq_at, 0, none⟩), .int .i64 q_first, .map (some rq_open)] 167 (0, 0))) ∧ (Blk h bq_at (.cells #[.map (some rq_at_at)] 222 (0, 0))) ∧ (MapIs h rq_at_at kT kI q_at_at) ∧ (MapIs h rq_open (fun (x : TA) => .agg (eA x).toArray) (pmV (β := TqL) pv_query_left) q_open)) [] (by kernel_rfl) ?_
 refine HA.val (k := 0) (v := .pointer (some ⟨bq, 0, none⟩)) rfl rfl (by kernel_rfl) (by kernel_rfl) (want_none) rfl (fun _ ⟨c223, c1, c2, c3, c4⟩ => q_move rfl) ?_
 refine HA.val (k := 1) (v := .pointer (some ⟨bq, 0, none⟩)) rfl rfl (by kernel_rfl) (by kernel_rfl) (want_none) rfl (fun _ ⟨c223, c1, c2, c3, c4⟩ => q_nilCheck rfl) ?_
 refine HA.val (k := 2) (v := .pointer (some ⟨bq, 3, none⟩)) rfl rfl (by kernel_rfl) (by kernel_rfl) (want_none) rfl (fun _ ⟨c223, c1, c2, c3, c4⟩ => q_fieldAddr fa_167_3 rfl rfl) ?_
 refine HA.val (k := 3) (v := .map (some rq_open)) rfl rfl (by kernel_rfl) (by kernel_rfl) (want_none) rfl (fun _ ⟨c223, c1, c2, c3, c4⟩ => q_load to_165 rfl (Blk.cell c1 rfl)) ?_
 refine HA.val (k := 4) (v := .agg (eA g).toArray) rfl rfl (by kernel_rfl) (by kernel_rfl) (want_none) rfl (fun _ ⟨c223, c1, c2, c3, c4⟩ => q_loadAgg (cs := (eA g)) ta_28 rfl rfl (Blk.cells (k := 17) c223 rfl)) ?_
 rcases Bool.eq_false_or_eq_true ((mget q_open g).isSome) with c_1 | c_1
 ·
  replace hM := hM.1 c_1
  refine HA.val (k := 5) (v := .pointer (some ⟨(mget0 q_open g).1.1, 0, none⟩)) rfl rfl (by kernel_rfl) (by kernel_rfl) (want_none) rfl (fun _ ⟨c223, c1, c2, c3, c4⟩ => q_pmYes (k := g) ka_28 tmk_165 c4 rfl rfl (pm_some c_1)) ?_
  replace hS : St F (Ow.box (mget0 q_open g).1.1 179 #[.int .i64 (((mget0 q_open g).2).1), .map (some ((mget0 q_open g).1.2))] :: Ow.map (mget0 q_open g).1.2 (fun (x : TA) => .agg (eA x).toArray) kI (((mget0 q_open g).2).2) :: Ow.box b_2 28 (eA g).toArray :: Ow.box bq 167 #[.int .i64 q_now, .pointer (some ⟨bq_at, 0, none⟩), .int .i64 q_first, .map (some rq_open)] :: Ow.box bq_at 222 #[.map (some rq_at_at)] :: Ow.map rq_at_at kT kI q_at_at :: Ow.pm rq_open (fun (x : TA) => .agg (eA x).toArray) pv_query_left th_query_left q_open (some (g, ((mget0 q_open g).1.1, (mget0 q_open g).1.2))) :: fr) h_1 := (St.pmTake (th := th_query_left) hS 4 rfl (pm_some c_1)).unbm
  refine HA.val (k := 6) (v := .pointer (some ⟨(mget0 q_open g).1.1, 0, none⟩)) rfl rfl (by kernel_rfl) (by kernel_rfl) (want_none) rfl (fun _ ⟨c223, c1, c2, c3, c4⟩ => q_assign rfl) ?_
  refine HA.nil ⟨⟨(hS.box 2 rfl), (hS.box 3 rfl), (hS.box 4 rfl), (hS.mp 5 rfl), (hS.pmi 6 rfl).map⟩, (Go.Wk.at_nil _ _)⟩ (by kernel_rfl) (thenQ_normal (?_))
  refine HW.seq ?_
  refine HW.region ?_
  refine oM (.pointer (some ⟨(mget0 q_open g).1.1, 0, none⟩)) rfl rfl ?_
  refine oV (.bool true) (q_neqPnil Tryz.underlying175 rfl rfl rfl) rfl ?_
  refine oM (.bool true) rfl rfl ?_
  refine HO.past (past_some rfl rfl) rfl ?_
  refine HO.past (past_some rfl rfl) rfl ?_
  refine HO.past (past_some rfl rfl) rfl ?_
  refine HO.past (past_some rfl rfl) rfl ?_
  refine HO.past (past_some rfl rfl) rfl ?_
  refine HO.past (past_some rfl rfl) rfl ?_
  refine oV (.bool true) (q_pick rfl rfl) rfl ?_
  refine HO.nil (thenQ_normal (?_))
  refine HW.condT rfl ?_
  refine HW.seq ?_
  refine HW.region ?_
  refine oM (.pointer (some ⟨(mget0 q_open g).1.1, 0, none⟩)) rfl rfl ?_
  refine oA (.pointer (some ⟨(mget0 q_open g).1.1, 0, none⟩)) rfl rfl ?_
  refine HO.nil (thenQ_normal (?_))
  refine HW.ret (thenQ_ret (?_))
  refine ⟨.inr rfl, .pointer (some ⟨(mget0 q_open g).1.1, 0, none⟩), res1 rfl (rt rfl), ?_⟩
  replace hS : St F (Ow.box (mget0 q_open g).1.1 179 #[.int .i64 (((mget0 q_open g).2).1), .map (some ((mget0 q_open g).1.2))] :: Ow.map (mget0 q_open g).1.2 (fun (x : TA) => .agg (eA x).toArray) kI (((mget0 q_open g).2).2) :: Ow.box bq 167 #[.int .i64 q_now, .pointer (some ⟨bq_at, 0, none⟩), .int .i64 q_first, .map (some rq_open)] :: Ow.box bq_at 222 #[.map (some rq_at_at)] :: Ow.map rq_at_at kT kI q_at_at :: Ow.pm rq_open (fun (x : TA) => .agg (eA x).toArray) pv_query_left th_query_left q_open (some (g, ((mget0 q_open g).1.1, (mget0 q_open g).1.2))) :: fr) h_1 := hS.perm2 [0, 1, 3, 4, 5, 6] 7 rfl rfl
  exact .inr ⟨F, ((mget0 q_open g).2).1, ((mget0 q_open g).2).2, q_now, q_at_at, q_first, q_open, (mget0 q_open g).1.1, (mget0 q_open g).1.2, rfl, hK, hS, hM⟩
 ·
  replace hM := hM.2 c_1
  refine HA.val (k := 5) (v := .pointer none) rfl rfl (by kernel_rfl) (by kernel_rfl) (want_none) rfl (fun _ ⟨c223, c1, c2, c3, c4⟩ => q_pmNo (k := g) ka_28 tmk_165 c4 rfl rfl (pm_none c_1)) ?_
  refine HA.val (k := 6) (v := .pointer none) rfl rfl (by kernel_rfl) (by kernel_rfl) (want_none) rfl (fun _ ⟨c223, c1, c2, c3, c4⟩ => q_assign rfl) ?_
  refine HA.nil ⟨⟨(hS.box 0 rfl), (hS.box 1 rfl), (hS.box 2 rfl), (hS.mp 3 rfl), (hS.pmi 4 rfl).map⟩, (Go.Wk.at_nil _ _)⟩ (by kernel_rfl) (thenQ_normal (?_))
  refine HW.seq ?_
  refine HW.region ?_
  refine oM (.pointer none) rfl rfl ?_
  refine oV (.bool false) (q_neqPnil Tryz.underlying175 rfl rfl rfl) rfl ?_
  refine oM (.bool false) rfl rfl ?_
  refine HO.val (v := .pointer (some ⟨bq, 0, none⟩)) (want_some rfl rfl) rfl (q_move rfl) ?_
  refine HO.val (v := .pointer (some ⟨bq, 0, none⟩)) (want_some rfl rfl) rfl (q_nilCheck rfl) ?_
  refine HO.val (v := .pointer (some ⟨bq, 3, none⟩)) (want_some rfl rfl) rfl (q_fieldAddr fa_167_3 rfl rfl) ?_
  refine HO.val (v := .map (some rq_open)) (want_some rfl rfl) rfl (q_load to_165 rfl (Blk.cell (hS.box 1 rfl) rfl)) ?_
  refine HO.val (v := .int .i64 (q_open.length : Int)) (want_some rfl rfl) rfl (q_lenMap Tryz.underlying165 (hS.pmi 4 rfl).map rfl rfl) ?_
  refine HO.val (v := .bool (decide (64 ≤ (q_open.length : Int)))) (want_some rfl rfl) rfl (q_geq rfl rfl) ?_
  refine oV (.bool (decide (64 ≤ (q_open.length : Int)))) (q_pick rfl rfl) rfl ?_
  refine HO.nil (thenQ_normal (?_))
  refine HW.cond (decide (64 ≤ (q_open.length : Int))) rfl (fun c_2 => ?_) (fun c_2 => ?_)
  ·
   replace hM := hM.1 (of_decide_eq_true c_2)
   refine HW.seq ?_
   refine HW.region ?_
   refine oM (.pointer none) rfl rfl ?_
   refine oA (.pointer none) rfl rfl ?_
   refine HO.nil (thenQ_normal (?_))
   refine HW.ret (thenQ_ret (?_))
   refine ⟨.inr rfl, .pointer none, res1 rfl (rt rfl), ?_⟩
   replace hS : St F (Ow.box bq 167 #[.int .i64 q_now, .pointer (some ⟨bq_at, 0, none⟩), .int .i64 q_first, .map (some rq_open)] :: Ow.box bq_at 222 #[.map (some rq_at_at)] :: Ow.map rq_at_at kT kI q_at_at :: Ow.pm rq_open (fun (x : TA) => .agg (eA x).toArray) pv_query_left th_query_left q_open none :: fr) h_1 := hS.perm2 [1, 2, 3, 4] 5 rfl rfl
   exact .inl ⟨F, q_now, q_at_at, q_first, q_open, rfl, hK, hS, hM⟩
  ·
   replace hM := hM.2 (of_decide_eq_false c_2)
   refine HW.skip (thenQ_normal (?_))
   refine HW.seq ?_
   refine HW.region ?_
   refine HO.eff (want_none) rfl (st_makeMap (κ := TA) (ν := Int) (fun (x : TA) => .agg (eA x).toArray) kI hS) ?_
   rintro _ h_2 ⟨r_2, rfl, hS, hk⟩
   replace hK := hK.trans hk
   refine oV (.agg #[.int .i64 0, .map (some r_2)]) (q_build tp_179 rfl) rfl ?_
   refine HO.eff (want_none) rfl (st_box (c := #[.int .i64 0, .map (some r_2)]) (k' := 2) hS rfl rfl) ?_
   rintro _ h_3 ⟨b_3, rfl, hS, hk⟩
   replace hK := hK.trans hk
   refine oA (.pointer (some ⟨b_3, 0, none⟩)) rfl rfl ?_
   refine HO.nil (thenQ_normal (?_))
   refine HW.seq ?_
   refine HW.regionA 7 mixed (fun h => (Blk h b_2 (.cells (eA g).toArray 28 (0, 0))) ∧ (Blk h bq (.cells #[.int .i64 q_now, .pointer (some ⟨bq_at, 0, none⟩), .int .i64 q_first, .map (some rq_open)] 167 (0, 0)))) [] (by kernel_rfl) ?_
   refine HA.val (k := 0) (v := .pointer (some ⟨bq, 0, none⟩)) rfl rfl (by kernel_rfl) (by kernel_rfl) (want_none) rfl (fun _ ⟨c223, c1⟩ => q_move rfl) ?_
   refine HA.val (k := 1) (v := .pointer (some ⟨bq, 0, none⟩)) rfl rfl (by kernel_rfl) (by kernel_rfl) (want_none) rfl (fun _ ⟨c223, c1⟩ => q_nilCheck rfl) ?_
   refine HA.val (k := 2) (v := .pointer (some ⟨bq, 3, none⟩)) rfl rfl (by kernel_rfl) (by kernel_rfl) (want_none) rfl (fun _ ⟨c223, c1⟩ => q_fieldAddr fa_167_3 rfl rfl) ?_
   refine HA.val (k := 3) (v := .map (some rq_open)) rfl rfl (by kernel_rfl) (by kernel_rfl) (want_none) rfl (fun _ ⟨c223, c1⟩ => q_load to_165 rfl (Blk.cell c1 rfl)) ?_
   refine HA.val (k := 4) (v := .agg (eA g).toArray) rfl rfl (by kernel_rfl) (by kernel_rfl) (want_none) rfl (fun _ ⟨c223, c1⟩ => q_loadAgg (cs := (eA g)) ta_28 rfl rfl (Blk.cells (k := 17) c223 rfl)) ?_
   refine HA.val (k := 5) (v := .pointer (some ⟨b_3, 0, none⟩)) rfl rfl (by kernel_rfl) (by kernel_rfl) (want_none) rfl (fun _ ⟨c223, c1⟩ => q_move rfl) ?_
   refine HA.one (k := 6) ⟨⟨(hS.box 2 rfl), (hS.box 3 rfl)⟩, (Go.Wk.at_nil _ _)⟩ (by kernel_rfl) ?_
   replace hM := hM b_3
   replace hM := hM r_2
   refine HS.sto rfl (want_none) rfl (st_pmSet (k := g) (j := (b_3, r_2)) (y0 := (default : TqL)) ka_28 tmk_165 hS (i := 6) rfl rfl rfl rfl) ?_
   rintro h_4 ⟨hS, hk⟩
   replace hK := hK.trans hk
   refine HA.nil ⟨⟨(hS.box 2 rfl), (hS.box 3 rfl)⟩, (Go.Wk.at_nil _ _)⟩ (by kernel_rfl) (thenQ_normal (?_))
   refine HW.seq ?_
   refine HW.region ?_
   refine oM (.pointer (some ⟨b_3, 0, none⟩)) rfl rfl ?_
   refine oA (.pointer (some ⟨b_3, 0, none⟩)) rfl rfl ?_
   refine HO.nil (thenQ_normal (?_))
   refine HW.ret (?_)
   refine ⟨.inr rfl, .pointer (some ⟨b_3, 0, none⟩), res1 rfl (rt rfl), ?_⟩
   replace hS : St F (Ow.box b_3 179 #[.int .i64 0, .map (some r_2)] :: Ow.map r_2 (fun (x : TA) => .agg (eA x).toArray) kI ([] : List (TA × Int)) :: Ow.box bq 167 #[.int .i64 q_now, .pointer (some ⟨bq_at, 0, none⟩), .int .i64 q_first, .map (some rq_open)] :: Ow.box bq_at 222 #[.map (some rq_at_at)] :: Ow.map rq_at_at kT kI q_at_at :: Ow.pm rq_open (fun (x : TA) => .agg (eA x).toArray) pv_query_left th_query_left (mset q_open g ((b_3, r_2), (default : TqL))) (some (g, (b_3, r_2))) :: fr) h_4 := hS.perm2 [0, 1, 3, 4, 5, 6] 7 rfl rfl
   exact .inr ⟨F, 0, [], q_now, q_at_at, q_first, mset q_open g ((b_3, r_2), (default : TqL)), b_3, r_2, rfl, hK, hS, hM⟩
def query_Queries_Want_j3 (t : T_api_Tune) (r_3 : List TA) (x_1_1 : List (TA × Int)) (n_1 : Int) (K_1 : (List (TA × Int)) → Int → Prop) (b_5 : Bool) : Prop :=
 (b_5 = true → (I64 (n_1 + 1)) ∧ (K_1 (mset x_1_1 (gi r_3 n_1) t.2.2.2.2) (n_1 + 1))) ∧ (b_5 = false → (I64 (n_1 + 1)) ∧ (K_1 x_1_1 (n_1 + 1)))
def query_Queries_Want_l1 (t : T_api_Tune) (a_Group : TA) (Q : Bool → Int → (List (Str × Int)) → Int → (List (TA × (Nat × Nat) × TqL)) → Prop) (r_2 : Int) (r_3 : List TA) (q_now_4 : Int) (qm_7 : List (Str × Int)) (q_first_4 : Int) (qm_8 : List (TA × (Nat × Nat) × TqL)) (x_0_1 : Int) (K_1 : (List (TA × Int)) → Int → Prop) (x_1_1 : List (TA × Int)) (n_1 : Int) : Prop :=
 (n_1 < (r_3.length : Int) → ((0 : Int) ≤ n_1 ∧ n_1 < (r_3.length : Int)) ∧ ((((mget x_1_1 (gi r_3 n_1)).isSome) = true → query_Queries_Want_j3 t r_3 x_1_1 n_1 K_1 true) ∧ (((mget x_1_1 (gi r_3 n_1)).isSome) = false → query_Queries_Want_j3 t r_3 x_1_1 n_1 K_1 (decide ((x_1_1.length : Int) < 64))))) ∧ (¬ (n_1 < (r_3.length : Int)) → query_key_W a_Group (fun r_7 => clock_Clock_Set_string_W qm_7 r_7 r_2 (fun r_8 cm_1 => ∀ b_3 : Nat, (∀ r_6 : Nat, (Q true q_now_4 cm_1 q_first_4 (mset qm_8 a_Group ((b_3, r_6), (x_0_1, x_1_1))))))))
def query_Queries_Want_j2 (t : T_api_Tune) (a_Group : TA) (Q : Bool → Int → (List (Str × Int)) → Int → (List (TA × (Nat × Nat) × TqL)) → Prop) (r_2 : Int) (r_3 : List TA) (r_1_1 : List (TA × Int)) (q_now_4 : Int) (qm_7 : List (Str × Int)) (q_first_4 : Int) (qm_8 : List (TA × (Nat × Nat) × TqL)) (x_0_1 : Int) : Prop :=
 loopW (fun (K_1 : ((List (TA × Int)) × Int) → Prop) (s : (List (TA × Int)) × Int) => query_Queries_Want_l1 t a_Group Q r_2 r_3 q_now_4 qm_7 q_first_4 qm_8 x_0_1 (fun x_1_1 n_1 => K_1 (x_1_1, n_1)) s.1 s.2) (r_1_1, 0)
def query_Queries_Want_j1 (t : T_api_Tune) (a_Group : TA) (a_All : Bool) (Q : Bool → Int → (List (Str × Int)) → Int → (List (TA × (Nat × Nat) × TqL)) → Prop) (r_2 : Int) (q_now_2 : Int) (qm_3 : List (Str × Int)) (q_first_2 : Int) (qm_4 : List (TA × (Nat × Nat) × TqL)) (r_3 : List TA) : Prop :=
 query_Queries_of_W q_now_2 qm_3 q_first_2 qm_4 a_Group (fun q_now_3 qm_5 q_first_3 qm_6 => Q false q_now_3 qm_5 q_first_3 qm_6) (fun r_0_1 r_1_1 q_now_4 qm_7 q_first_4 qm_8 => (a_All = true → query_Queries_Want_j2 t a_Group Q r_2 r_3 r_1_1 q_now_4 qm_7 q_first_4 qm_8 t.2.2.2.2) ∧ (a_All = false → query_Queries_Want_j2 t a_Group Q r_2 r_3 r_1_1 q_now_4 qm_7 q_first_4 qm_8 r_0_1))
def query_Queries_Want_W (q_now : Int) (q_at_at : List (Str × Int)) (q_first : Int) (q_open : List (TA × (Nat × Nat) × TqL)) (now : Int) (t : T_api_Tune) (a_Group : TA) (a_All : Bool) (a_Sources : List TA) (Q : Bool → Int → (List (Str × Int)) → Int → (List (TA × (Nat × Nat) × TqL)) → Prop) : Prop :=
 query_Queries_settle_W q_now q_at_at q_first q_open now (fun r_2 q_now_2 qm_3 q_first_2 qm_4 => srcs_Of_W a_Sources (fun r_3 => addr_Good_W a_Group (fun r_4 => ((!r_4) = true → Q false q_now_2 qm_3 q_first_2 qm_4) ∧ ((!r_4) = false → addr_Group_W a_Group (fun r_5 => ((!r_5) = true → Q false q_now_2 qm_3 q_first_2 qm_4) ∧ ((!r_5) = false → ((!a_All) = true → ((r_3.length : Int) = 0 → Q false q_now_2 qm_3 q_first_2 qm_4) ∧ (¬ ((r_3.length : Int) = 0) → query_Queries_Want_j1 t a_Group a_All Q r_2 q_now_2 qm_3 q_first_2 qm_4 r_3)) ∧ ((!a_All) = false → query_Queries_Want_j1 t a_Group a_All Q r_2 q_now_2 qm_3 q_first_2 qm_4 r_3)))))))
theorem query_Queries_Want_walk {F : Fz} {fr : List Ow} {h0 : Heap} (q_now : Int) (q_at_at : List (Str × Int)) (q_first : Int) (q_open : List (TA × (Nat × Nat) × TqL)) (now : Int) (t : T_api_Tune) (a_Group : TA) (a_All : Bool) (a_Sources : List TA) (bq : Nat) (bq_at : Nat) (rq_at_at : Nat) (rq_open : Nat) (va_Sources : Value) (hS : St F (Ow.box bq 167 #[.int .i64 q_now, .pointer (some ⟨bq_at, 0, none⟩), .int .i64 q_first, .map (some rq_open)] :: Ow.box bq_at 222 #[.map (some rq_at_at)] :: Ow.map rq_at_at kT kI q_at_at :: Ow.pm rq_open (fun (x : TA) => .agg (eA x).toArray) pv_query_left th_query_left q_open none :: fr) h0) (hL_a_Sources : SliceF F h0 17 eA va_Sources a_Sources) {Q : Bool → Int → (List (Str × Int)) → Int → (List (TA × (Nat × Nat) × TqL)) → Prop} (hM : query_Queries_Want_W q_now q_at_at q_first q_open now t a_Group a_All a_Sources Q) :
  HC Tryz.prog 47 #[.pointer (some ⟨bq, 0, none⟩), .int .i64 now, .agg (e_api_Tune t).toArray, .agg (c_api_Asked a_Group (.bool a_All) va_Sources).toArray] h0 fun u h' => ∃ (F' : Fz) (r_1 : Bool) (q_now_1 : Int) (qm_1 : List (Str × Int)) (q_first_1 : Int) (qm_2 : List (TA × (Nat × Nat) × TqL)), u = .bool r_1 ∧ Kp F h0 F' h' ∧ St F' (Ow.box bq 167 #[.int .i64 q_now_1, .pointer (some ⟨bq_at, 0, none⟩), .int .i64 q_first_1, .map (some rq_open)] :: Ow.box bq_at 222 #[.map (some rq_at_at)] :: Ow.map rq_at_at kT kI qm_1 :: Ow.pm rq_open (fun (x : TA) => .agg (eA x).toArray) pv_query_left th_query_left qm_2 none :: fr) h' ∧ (SliceF F' h' 17 eA va_Sources a_Sources) ∧ Q r_1 q_now_1 qm_1 q_first_1 qm_2 := by
 unfold query_Queries_Want_W at hM
 have hK := Kp.refl F h0
 refine HC.of_HW (n := 97) Tryz.func47 rfl rfl (Nat.le_of_ble_eq_true rfl) ?_
 refine HW.seq ?_
 refine HW.region ?_
 refine HO.eff (want_none) rfl (st_box (c := (e_api_Tune t).toArray) (k' := 5) hS rfl rfl) ?_
 rintro _ h_1 ⟨b_1, rfl, hS, hk⟩
 replace hK := hK.trans hk
 replace hL_a_Sources := hL_a_Sources.kp hk
 refine HO.eff (want_none) rfl (st_box (c := (c_api_Asked a_Group (.bool a_All) va_Sources).toArray) (k' := 19) hS rfl rfl) ?_
 rintro _ h_2 ⟨b_2, rfl, hS, hk⟩
 replace hK := hK.trans hk
 replace hL_a_Sources := hL_a_Sources.kp hk
 refine oA (.bool false) rfl rfl ?_
 refine HO.nil (thenQ_normal (?_))
 refine HW.seq ?_
 refine HW.seq ?_
 refine HW.region ?_
 refine oM (.pointer (some ⟨bq, 0, none⟩)) rfl rfl ?_
 refine oV (.bool false) (q_eqlPnil Tryz.underlying90 rfl rfl rfl) rfl ?_
 refine HO.nil (thenQ_normal (?_))
 refine HW.condF rfl ?_
 refine HW.skip (thenQ_normal (?_))
 refine HW.seq ?_
 refine HW.region ?_
 refine oM (.pointer (some ⟨bq, 0, none⟩)) rfl rfl ?_
 refine oM (.int .i64 now) rfl rfl ?_
 replace hS : St F (Ow.box bq 167 #[.int .i64 q_now, .pointer (some ⟨bq_at, 0, none⟩), .int .i64 q_first, .map (some rq_open)] :: Ow.box bq_at 222 #[.map (some rq_at_at)] :: Ow.map rq_at_at kT kI q_at_at :: Ow.pm rq_open (fun (x : TA) => .agg (eA x).toArray) pv_query_left th_query_left q_open none :: Ow.box b_2 97 (c_api_Asked a_Group (.bool a_All) va_Sources).toArray :: Ow.box b_1 56 (e_api_Tune t).toArray :: fr) h_2 := hS.perm2 [2, 3, 4, 5, 0, 1] 6 rfl rfl
 refine HO.call (want_none) rfl (ec en_111 rfl rfl) (query_Queries_settle_walk (fr := (Ow.box b_2 97 (c_api_Asked a_Group (.bool a_All) va_Sources).toArray :: Ow.box b_1 56 (e_api_Tune t).toArray :: fr)) q_now q_at_at q_first q_open now bq bq_at rq_at_at rq_open hS hM) ?_
 rintro _ h_3 ⟨F_1, r_2, q_now_2, qm_3, q_first_2, qm_4, rfl, hk, hS, hM⟩
 replace hK := hK.trans hk
 replace hL_a_Sources := hL_a_Sources.kp hk
 refine oA (.int .i64 r_2) rfl rfl ?_
 refine HO.nil (thenQ_normal (?_))
 refine HW.seq ?_
 refine HW.region ?_
 refine oV (.pointer (some ⟨b_2, 18, none⟩)) (q_fieldAddr fa_97_2 rfl rfl) rfl ?_
 refine oV (va_Sources) (q_load to_29 rfl (Blk.cell (hS.box 4 rfl) rfl)) rfl ?_
 refine HO.call (want_none) rfl (ec en_115 rfl rfl) (srcs_Of_walk (fr := (Ow.box bq 167 #[.int .i64 q_now_2, .pointer (some ⟨bq_at, 0, none⟩), .int .i64 q_first_2, .map (some rq_open)] :: Ow.box bq_at 222 #[.map (some rq_at_at)] :: Ow.map rq_at_at kT kI qm_3 :: Ow.pm rq_open (fun (x : TA) => .agg (eA x).toArray) pv_query_left th_query_left qm_4 none :: Ow.box b_2 97 (c_api_Asked a_Group (.bool a_All) va_Sources).toArray :: Ow.box b_1 56 (e_api_Tune t).toArray :: fr)) a_Sources va_Sources hS hL_a_Sources hM) ?_
 rintro vr_1 h_4 ⟨F_2, r_3, _, rfl, hk, hS, _, hM⟩
 replace hK := hK.trans hk
 replace hL_a_Sources := hL_a_Sources.kp hk
 refine oA (vr_1) rfl rfl ?_
 refine HO.nil (thenQ_normal (?_))
 refine HW.seq_mid (fun f h => ∃ (F' : Fz), f 0 = .pointer (some ⟨bq, 0, none⟩) ∧ f 1 = .int .i64 r_2 ∧ f 6 = .pointer (some ⟨b_1, 0, none⟩) ∧ f 7 = .pointer (some ⟨b_2, 0, none⟩) ∧ f 8 = .bool false ∧ f 9 = vr_1 ∧ Kp F h0 F' h ∧ St F' (Ow.box bq 167 #[.int .i64 q_now_2, .pointer (some ⟨bq_at, 0, none⟩), .int .i64 q_first_2, .map (some rq_open)] :: Ow.box bq_at 222 #[.map (some rq_at_at)] :: Ow.map rq_at_at kT kI qm_3 :: Ow.pm rq_open (fun (x : TA) => .agg (eA x).toArray) pv_query_left th_query_left qm_4 none :: Ow.box b_1 56 (e_api_Tune t).toArray :: Ow.box b_2 97 (c_api_Asked a_Group (.bool a_All) va_Sources).toArray :: Ow.own 28 17 eA vr_1 r_3 :: fr) h ∧ (SliceF F' h 17 eA va_Sources a_Sources) ∧ query_Queries_Want_j1 t a_Group a_All Q r_2 q_now_2 qm_3 q_first_2 qm_4 r_3) ?_ ?_
 ·
  refine HW.seq ?_
  refine HW.region ?_
  refine oV (.pointer (some ⟨b_2, 0, none⟩)) (q_fieldAddr fa_97_0 rfl rfl) rfl ?_
  refine oV (.agg (eA a_Group).toArray) (q_loadAgg (cs := (eA a_Group)) ta_28 rfl rfl (Blk.cells (k := 17) (hS.box 5 rfl) rfl)) rfl ?_
  refine HO.call (want_none) rfl (ec en_68 rfl rfl) (addr_Good_walk (fr := (Ow.own 28 17 eA vr_1 r_3 :: Ow.box bq 167 #[.int .i64 q_now_2, .pointer (some ⟨bq_at, 0, none⟩), .int .i64 q_first_2, .map (some rq_open)] :: Ow.box bq_at 222 #[.map (some rq_at_at)] :: Ow.map rq_at_at kT kI qm_3 :: Ow.pm rq_open (fun (x : TA) => .agg (eA x).toArray) pv_query_left th_query_left qm_4 none :: Ow.box b_2 97 (c_api_Asked a_Group (.bool a_All) va_Sources).toArray :: Ow.box b_1 56 (e_api_Tune t).toArray :: fr)) a_Group hS hM) ?_
  rintro _ h_5 ⟨F_3, r_4, rfl, hk, hS, hM⟩
  replace hK := hK.trans hk
  replace hL_a_Sources := hL_a_Sources.kp hk
  refine oV (.bool (!r_4)) (q_not rfl) rfl ?_
  refine oM (.bool (!r_4)) rfl rfl ?_
  rcases Bool.eq_false_or_eq_true (!r_4) with c_1 | c_1
  ·
   replace hM := hM.1 c_1
   refine HO.past (past_by rfl rfl c_1) rfl ?_
   refine HO.past (past_by rfl rfl c_1) rfl ?_
   refine HO.past (past_by rfl rfl c_1) rfl ?_
   refine HO.past (past_by rfl rfl c_1) rfl ?_
   refine oV (.bool true) (q_pickK true rfl c_1 rfl) rfl ?_
   refine oM (.bool true) rfl rfl ?_
   refine HO.past (past_some rfl rfl) rfl ?_
   refine HO.past (past_some rfl rfl) rfl ?_
   refine HO.past (past_some rfl rfl) rfl ?_
   refine HO.past (past_some rfl rfl) rfl ?_
   refine HO.past (past_undef rfl rfl) rfl ?_
   refine HO.past (past_undef rfl rfl) rfl ?_
   refine HO.past (past_undef rfl rfl) rfl ?_
   refine HO.past (past_some rfl rfl) rfl ?_
   refine oV (.bool true) (q_pick rfl rfl) rfl ?_
   refine HO.nil (thenQ_normal (?_))
   refine HW.condT rfl ?_
   refine HW.seq ?_
   refine HW.region ?_
   refine oA (.bool false) rfl rfl ?_
   refine HO.nil (thenQ_normal (?_))
   refine HW.ret (thenQ_ret (?_))
   refine ⟨.inr rfl, .bool false, res1 rfl (rt rfl), ?_⟩
   replace hS : St F_3 (Ow.box bq 167 #[.int .i64 q_now_2, .pointer (some ⟨bq_at, 0, none⟩), .int .i64 q_first_2, .map (some rq_open)] :: Ow.box bq_at 222 #[.map (some rq_at_at)] :: Ow.map rq_at_at kT kI qm_3 :: Ow.pm rq_open (fun (x : TA) => .agg (eA x).toArray) pv_query_left th_query_left qm_4 none :: fr) h_5 := hS.perm2 [1, 2, 3, 4] 7 rfl rfl
   exact ⟨F_3, false, q_now_2, qm_3, q_first_2, qm_4, rfl, hK, hS, hL_a_Sources, hM⟩
  ·
   replace hM := hM.2 c_1
   refine HO.val (v := .pointer (some ⟨b_2, 0, none⟩)) (want_by rfl rfl c_1) rfl (q_fieldAddr fa_97_0 rfl rfl) ?_
   refine HO.val (v := .agg (eA a_Group).toArray) (want_by rfl rfl c_1) rfl (q_loadAgg (cs := (eA a_Group)) ta_28 rfl rfl (Blk.cells (k := 17) (hS.box 5 rfl) rfl)) ?_
   refine HO.call (want_by rfl rfl c_1) rfl (ec en_69 rfl rfl) (addr_Group_walk (fr := (Ow.own 28 17 eA vr_1 r_3 :: Ow.box bq 167 #[.int .i64 q_now_2, .pointer (some ⟨bq_at, 0, none⟩), .int .i64 q_first_2, .map (some rq_open)] :: Ow.box bq_at 222 #[.map (some rq_at_at)] :: Ow.map rq_at_at kT kI qm_3 :: Ow.pm rq_open (fun (x : TA) => .agg (eA x).toArray) pv_query_left th_query_left qm_4 none :: Ow.box b_2 97 (c_api_Asked a_Group (.bool a_All) va_Sources).toArray :: Ow.box b_1 56 (e_api_Tune t).toArray :: fr)) a_Group hS hM) ?_
   rintro _ h_6 ⟨F_4, r_5, rfl, hk, hS, hM⟩
   replace hK := hK.trans hk
   replace hL_a_Sources := hL_a_Sources.kp hk
   refine HO.val (v := .bool (!r_5)) (want_by rfl rfl c_1) rfl (q_not rfl) ?_
   refine oV (.bool (!r_5)) (q_pickK false rfl c_1 rfl) rfl ?_
   refine oM (.bool (!r_5)) rfl rfl ?_
   rcases Bool.eq_false_or_eq_true (!r_5) with c_2 | c_2
   ·
    replace hM := hM.1 c_2
    refine HO.past (past_by rfl rfl c_2) rfl ?_
    refine HO.past (past_by rfl rfl c_2) rfl ?_
    refine HO.past (past_by rfl rfl c_2) rfl ?_
    refine HO.past (past_by rfl rfl c_2) rfl ?_
    refine HO.past (past_undef rfl rfl) rfl ?_
    refine HO.past (past_undef rfl rfl) rfl ?_
    refine HO.past (past_undef rfl rfl) rfl ?_
    refine HO.past (past_by rfl rfl c_2) rfl ?_
    refine oV (.bool true) (q_pickK true rfl c_2 rfl) rfl ?_
    refine HO.nil (thenQ_normal (?_))
    refine HW.condT rfl ?_
    refine HW.seq ?_
    refine HW.region ?_
    refine oA (.bool false) rfl rfl ?_
    refine HO.nil (thenQ_normal (?_))
    refine HW.ret (thenQ_ret (?_))
    refine ⟨.inr rfl, .bool false, res1 rfl (rt rfl), ?_⟩
    replace hS : St F_4 (Ow.box bq 167 #[.int .i64 q_now_2, .pointer (some ⟨bq_at, 0, none⟩), .int .i64 q_first_2, .map (some rq_open)] :: Ow.box bq_at 222 #[.map (some rq_at_at)] :: Ow.map rq_at_at kT kI qm_3 :: Ow.pm rq_open (fun (x : TA) => .agg (eA x).toArray) pv_query_left th_query_left qm_4 none :: fr) h_6 := hS.perm2 [1, 2, 3, 4] 7 rfl rfl
    exact ⟨F_4, false, q_now_2, qm_3, q_first_2, qm_4, rfl, hK, hS, hL_a_Sources, hM⟩
   ·
    replace hM := hM.2 c_2
    refine HO.val (v := .pointer (some ⟨b_2, 17, none⟩)) (want_by rfl rfl c_2) rfl (q_fieldAddr fa_97_1 rfl rfl) ?_
    refine HO.val (v := .bool a_All) (want_by rfl rfl c_2) rfl (q_load to_4 rfl (Blk.cell (hS.box 5 rfl) rfl)) ?_
    refine HO.val (v := .bool (!a_All)) (want_by rfl rfl c_2) rfl (q_not rfl) ?_
    refine HO.val (v := .bool (!a_All)) (want_by rfl rfl c_2) rfl (q_move rfl) ?_
    rcases Bool.eq_false_or_eq_true (!a_All) with c_3 | c_3
    ·
     replace hM := hM.1 c_3
     refine HO.val (v := vr_1) (want_by rfl rfl c_3) rfl (q_move rfl) ?_
     refine HO.val (v := .int .i64 (r_3.length : Int)) (want_by rfl rfl c_3) rfl (q_len ts_29 (shp (hS.own 0 rfl).slice) rfl rfl) ?_
     refine HO.val (v := .bool (decide ((r_3.length : Int) = 0))) (want_by rfl rfl c_3) rfl (q_eql rfl rfl) ?_
     refine HO.val (v := .bool (decide ((r_3.length : Int) = 0))) (want_by rfl rfl c_2) rfl (q_pickK true rfl c_3 rfl) ?_
     refine oV (.bool (decide ((r_3.length : Int) = 0))) (q_pickK false rfl c_2 rfl) rfl ?_
     refine HO.nil (thenQ_normal (?_))
     refine HW.cond (decide ((r_3.length : Int) = 0)) rfl (fun c_4 => ?_) (fun c_4 => ?_)
     ·
      replace hM := hM.1 (of_decide_eq_true c_4)
      refine HW.seq ?_
      refine HW.region ?_
      refine oA (.bool false) rfl rfl ?_
      refine HO.nil (thenQ_normal (?_))
      refine HW.ret (thenQ_ret (?_))
      refine ⟨.inr rfl, .bool false, res1 rfl (rt rfl), ?_⟩
      replace hS : St F_4 (Ow.box bq 167 #[.int .i64 q_now_2, .pointer (some ⟨bq_at, 0, none⟩), .int .i64 q_first_2, .map (some rq_open)] :: Ow.box bq_at 222 #[.map (some rq_at_at)] :: Ow.map rq_at_at kT kI qm_3 :: Ow.pm rq_open (fun (x : TA) => .agg (eA x).toArray) pv_query_left th_query_left qm_4 none :: fr) h_6 := hS.perm2 [1, 2, 3, 4] 7 rfl rfl
      exact ⟨F_4, false, q_now_2, qm_3, q_first_2, qm_4, rfl, hK, hS, hL_a_Sources, hM⟩
     ·
      replace hM := hM.2 (of_decide_eq_false c_4)
      refine HW.skip (thenQ_normal (?_))
      replace hS : St F_4 (Ow.box bq 167 #[.int .i64 q_now_2, .pointer (some ⟨bq_at, 0, none⟩), .int .i64 q_first_2, .map (some rq_open)] :: Ow.box bq_at 222 #[.map (some rq_at_at)] :: Ow.map rq_at_at kT kI qm_3 :: Ow.pm rq_open (fun (x : TA) => .agg (eA x).toArray) pv_query_left th_query_left qm_4 none :: Ow.box b_1 56 (e_api_Tune t).toArray :: Ow.box b_2 97 (c_api_Asked a_Group (.bool a_All) va_Sources).toArray :: Ow.own 28 17 eA vr_1 r_3 :: fr) h_6 := hS.perm2 [1, 2, 3, 4, 6, 5, 0] 7 rfl rfl
      exact ⟨F_4, rfl, rfl, rfl, rfl, rfl, rfl, hK, hS, hL_a_Sources, hM⟩
    ·
     replace hM := hM.2 c_3
     refine HO.past (past_by rfl rfl c_3) rfl ?_
     refine HO.past (past_by rfl rfl c_3) rfl ?_
     refine HO.past (past_by rfl rfl c_3) rfl ?_
     refine HO.val (v := .bool false) (want_by rfl rfl c_2) rfl (q_pickK false rfl c_3 rfl) ?_
     refine oV (.bool false) (q_pickK false rfl c_2 rfl) rfl ?_
     refine HO.nil (thenQ_normal (?_))
     refine HW.condF rfl ?_
     refine HW.skip (thenQ_normal (?_))
     replace hS : St F_4 (Ow.box bq 167 #[.int .i64 q_now_2, .pointer (some ⟨bq_at, 0, none⟩), .int .i64 q_first_2, .map (some rq_open)] :: Ow.box bq_at 222 #[.map (some rq_at_at)] :: Ow.map rq_at_at kT kI qm_3 :: Ow.pm rq_open (fun (x : TA) => .agg (eA x).toArray) pv_query_left th_query_left qm_4 none :: Ow.box b_1 56 (e_api_Tune t).toArray :: Ow.box b_2 97 (c_api_Asked a_Group (.bool a_All) va_Sources).toArray :: Ow.own 28 17 eA vr_1 r_3 :: fr) h_6 := hS.perm2 [1, 2, 3, 4, 6, 5, 0] 7 rfl rfl
     exact ⟨F_4, rfl, rfl, rfl, rfl, rfl, rfl, hK, hS, hL_a_Sources, hM⟩
 ·
  rintro f_1 h_7 ⟨F_5, e0, e1, e6, e7, e8, e9, hK, hS, hL_a_Sources, hM⟩
  unfold query_Queries_Want_j1 at hM
  refine HW.fr [(0, .pointer (some ⟨bq, 0, none⟩)), (1, .int .i64 r_2), (6, .pointer (some ⟨b_1, 0, none⟩)), (7, .pointer (some ⟨b_2, 0, none⟩)), (8, .bool false), (9, vr_1)] ⟨e0, e1, e6, e7, e8, e9, trivial⟩ ?_
  refine HW.seq ?_
  refine HW.region ?_
  refine oM (.pointer (some ⟨bq, 0, none⟩)) rfl rfl ?_
  refine oV (.pointer (some ⟨b_2, 0, none⟩)) (q_fieldAddr fa_97_0 rfl rfl) rfl ?_
  refine oV (.agg (eA a_Group).toArray) (q_loadAgg (cs := (eA a_Group)) ta_28 rfl rfl (Blk.cells (k := 17) (hS.box 5 rfl) rfl)) rfl ?_
  refine HO.call (want_none) rfl (ec en_116 rfl rfl) (query_Queries_of_walk (fr := (Ow.box b_1 56 (e_api_Tune t).toArray :: Ow.box b_2 97 (c_api_Asked a_Group (.bool a_All) va_Sources).toArray :: Ow.own 28 17 eA vr_1 r_3 :: fr)) q_now_2 qm_3 q_first_2 qm_4 a_Group bq bq_at rq_at_at rq_open hS hM) ?_
  rintro _ h_8 (⟨F_6, q_now_3, qm_5, q_first_3, qm_6, rfl, hk, hS, hM⟩ | ⟨F_7, r_0_1, r_1_1, q_now_4, qm_7, q_first_4, qm_8, b_3, r_6, rfl, hk, hS, hM⟩)
  ·
   replace hK := hK.trans hk
   replace hL_a_Sources := hL_a_Sources.kp hk
   refine oA (.pointer none) rfl rfl ?_
   refine HO.nil (thenQ_normal (?_))
   refine HW.seq ?_
   refine HW.seq ?_
   refine HW.region ?_
   refine oM (.pointer none) rfl rfl ?_
   refine oV (.bool true) (q_eqlPnil Tryz.underlying175 rfl rfl rfl) rfl ?_
   refine HO.nil (thenQ_normal (?_))
   refine HW.condT rfl ?_
   refine HW.seq ?_
   refine HW.region ?_
   refine oA (.bool false) rfl rfl ?_
   refine HO.nil (thenQ_normal (?_))
   refine HW.ret (thenQ_ret (?_))
   refine ⟨.inr rfl, .bool false, res1 rfl (rt rfl), ?_⟩
   replace hS : St F_6 (Ow.box bq 167 #[.int .i64 q_now_3, .pointer (some ⟨bq_at, 0, none⟩), .int .i64 q_first_3, .map (some rq_open)] :: Ow.box bq_at 222 #[.map (some rq_at_at)] :: Ow.map rq_at_at kT kI qm_5 :: Ow.pm rq_open (fun (x : TA) => .agg (eA x).toArray) pv_query_left th_query_left qm_6 none :: fr) h_8 := hS.perm2 [0, 1, 2, 3] 7 rfl rfl
   exact ⟨F_6, false, q_now_3, qm_5, q_first_3, qm_6, rfl, hK, hS, hL_a_Sources, hM⟩
  ·
   replace hK := hK.trans hk
   replace hL_a_Sources := hL_a_Sources.kp hk
   refine oA (.pointer (some ⟨b_3, 0, none⟩)) rfl rfl ?_
   refine HO.nil (thenQ_normal (?_))
   refine HW.seq ?_
   refine HW.seq ?_
   refine HW.region ?_
   refine oM (.pointer (some ⟨b_3, 0, none⟩)) rfl rfl ?_
   refine oV (.bool false) (q_eqlPnil Tryz.underlying175 rfl rfl rfl) rfl ?_
   refine HO.nil (thenQ_normal (?_))
   refine HW.condF rfl ?_
   refine HW.skip (thenQ_normal (?_))
   refine HW.seq_mid (fun f h => ∃ (F' : Fz) (x_0_1 : Int), f 0 = .pointer (some ⟨bq, 0, none⟩) ∧ f 1 = .int .i64 r_2 ∧ f 6 = .pointer (some ⟨b_1, 0, none⟩) ∧ f 7 = .pointer (some ⟨b_2, 0, none⟩) ∧ f 8 = .bool false ∧ f 9 = vr_1 ∧ f 10 = .pointer (some ⟨b_3, 0, none⟩) ∧ Kp F h0 F' h ∧ St F' (Ow.box bq 167 #[.int .i64 q_now_4, .pointer (some ⟨bq_at, 0, none⟩), .int .i64 q_first_4, .map (some rq_open)] :: Ow.box bq_at 222 #[.map (some rq_at_at)] :: Ow.map rq_at_at kT kI qm_7 :: Ow.pm rq_open (fun (x : TA) => .agg (eA x).toArray) pv_query_left th_query_left qm_8 (some (a_Group, (b_3, r_6))) :: Ow.box b_3 179 #[.int .i64 x_0_1, .map (some r_6)] :: Ow.map r_6 (fun (x : TA) => .agg (eA x).toArray) kI r_1_1 :: Ow.box b_1 56 (e_api_Tune t).toArray :: Ow.box b_2 97 (c_api_Asked a_Group (.bool a_All) va_Sources).toArray :: Ow.own 28 17 eA vr_1 r_3 :: fr) h ∧ (SliceF F' h 17 eA va_Sources a_Sources) ∧ query_Queries_Want_j2 t a_Group Q r_2 r_3 r_1_1 q_now_4 qm_7 q_first_4 qm_8 x_0_1) ?_ ?_
   ·
    refine HW.seq ?_
    refine HW.region ?_
    refine oV (.pointer (some ⟨b_2, 17, none⟩)) (q_fieldAddr fa_97_1 rfl rfl) rfl ?_
    refine oV (.bool a_All) (q_load to_4 rfl (Blk.cell (hS.box 7 rfl) rfl)) rfl ?_
    refine HO.nil (thenQ_normal (?_))
    refine HW.cond a_All rfl (fun c_5 => ?_) (fun c_5 => ?_)
    ·
     replace hM := hM.1 c_5
     refine HW.region ?_
     refine oM (.pointer (some ⟨b_3, 0, none⟩)) rfl rfl ?_
     refine oV (.pointer (some ⟨b_1, 4, none⟩)) (q_fieldAddr fa_56_4 rfl rfl) rfl ?_
     refine oV (.int .i64 t.2.2.2.2) (q_load to_3 rfl (Blk.cell (hS.box 6 rfl) rfl)) rfl ?_
     refine oV (.pointer (some ⟨b_3, 0, none⟩)) (q_nilCheck rfl) rfl ?_
     refine oV (.pointer (some ⟨b_3, 0, none⟩)) (q_fieldAddr fa_179_0 rfl rfl) rfl ?_
     refine HO.sto (want_none) rfl (st_store (c' := #[.int .i64 t.2.2.2.2, .map (some r_6)]) hS (i := 0) rfl to_3 rfl rfl rfl rfl (Nat.le_of_ble_eq_true rfl) rfl) ?_
     rintro h_10 ⟨hS, hk⟩
     replace hK := hK.trans hk
     replace hL_a_Sources := hL_a_Sources.kp hk
     refine HO.nil (thenQ_normal (?_))
     replace hS : St F_7 (Ow.box bq 167 #[.int .i64 q_now_4, .pointer (some ⟨bq_at, 0, none⟩), .int .i64 q_first_4, .map (some rq_open)] :: Ow.box bq_at 222 #[.map (some rq_at_at)] :: Ow.map rq_at_at kT kI qm_7 :: Ow.pm rq_open (fun (x : TA) => .agg (eA x).toArray) pv_query_left th_query_left qm_8 (some (a_Group, (b_3, r_6))) :: Ow.box b_3 179 #[.int .i64 t.2.2.2.2, .map (some r_6)] :: Ow.map r_6 (fun (x : TA) => .agg (eA x).toArray) kI r_1_1 :: Ow.box b_1 56 (e_api_Tune t).toArray :: Ow.box b_2 97 (c_api_Asked a_Group (.bool a_All) va_Sources).toArray :: Ow.own 28 17 eA vr_1 r_3 :: fr) h_10 := hS.perm2 [2, 3, 4, 5, 0, 1, 6, 7, 8] 9 rfl rfl
     exact ⟨F_7, t.2.2.2.2, rfl, rfl, rfl, rfl, rfl, rfl, rfl, hK, hS, hL_a_Sources, hM⟩
    ·
     replace hM := hM.2 c_5
     refine HW.skip (thenQ_normal (?_))
     replace hS : St F_7 (Ow.box bq 167 #[.int .i64 q_now_4, .pointer (some ⟨bq_at, 0, none⟩), .int .i64 q_first_4, .map (some rq_open)] :: Ow.box bq_at 222 #[.map (some rq_at_at)] :: Ow.map rq_at_at kT kI qm_7 :: Ow.pm rq_open (fun (x : TA) => .agg (eA x).toArray) pv_query_left th_query_left qm_8 (some (a_Group, (b_3, r_6))) :: Ow.box b_3 179 #[.int .i64 r_0_1, .map (some r_6)] :: Ow.map r_6 (fun (x : TA) => .agg (eA x).toArray) kI r_1_1 :: Ow.box b_1 56 (e_api_Tune t).toArray :: Ow.box b_2 97 (c_api_Asked a_Group (.bool a_All) va_Sources).toArray :: Ow.own 28 17 eA vr_1 r_3 :: fr) h_8 := hS.perm2 [2, 3, 4, 5, 0, 1, 6, 7, 8] 9 rfl rfl
     exact ⟨F_7, r_0_1, rfl, rfl, rfl, rfl, rfl, rfl, rfl, hK, hS, hL_a_Sources, hM⟩
   ·
    rintro f_2 h_11 ⟨F_8, x_0_1, e0, e1, e6, e7, e8, e9, e10, hK, hS, hL_a_Sources, hM⟩
    unfold query_Queries_Want_j2 at hM
    refine HW.fr [(0, .pointer (some ⟨bq, 0, none⟩)), (1, .int .i64 r_2), (6, .pointer (some ⟨b_1, 0, none⟩)), (7, .pointer (some ⟨b_2, 0, none⟩)), (8, .bool false), (9, vr_1), (10, .pointer (some ⟨b_3, 0, none⟩))] ⟨e0, e1, e6, e7, e8, e9, e10, trivial⟩ ?_
    refine HW.seq ?_
    refine HW.seq ?_
    refine HW.region ?_
    refine oM (vr_1) rfl rfl ?_
    refine oV (.int .i64 (r_3.length : Int)) (q_len ts_29 (shp (hS.own 8 rfl).slice) rfl rfl) rfl ?_
    refine oM (.int .i64 0) rfl rfl ?_
    refine HO.nil (thenQ_normal (?_))
    refine HW.block ?_
    obtain ⟨I_1, m_1, hI_1, hR_1⟩ := hM
    refine HW.loop (S := (List (TA × Int)) × Int) (fun s f h => match s with | (x_1_1, n_1) => ∃ (F' : Fz), f 0 = .pointer (some ⟨bq, 0, none⟩) ∧ f 1 = .int .i64 r_2 ∧ f 6 = .pointer (some ⟨b_1, 0, none⟩) ∧ f 7 = .pointer (some ⟨b_2, 0, none⟩) ∧ f 8 = .bool false ∧ f 10 = .pointer (some ⟨b_3, 0, none⟩) ∧ f 56 = vr_1 ∧ f 57 = .int .i64 (r_3.length : Int) ∧ f 58 = .int .i64 n_1 ∧ Kp F h0 F' h ∧ St F' (Ow.box bq 167 #[.int .i64 q_now_4, .pointer (some ⟨bq_at, 0, none⟩), .int .i64 q_first_4, .map (some rq_open)] :: Ow.box bq_at 222 #[.map (some rq_at_at)] :: Ow.map rq_at_at kT kI qm_7 :: Ow.pm rq_open (fun (x : TA) => .agg (eA x).toArray) pv_query_left th_query_left qm_8 (some (a_Group, (b_3, r_6))) :: Ow.box b_3 179 #[.int .i64 x_0_1, .map (some r_6)] :: Ow.map r_6 (fun (x : TA) => .agg (eA x).toArray) kI x_1_1 :: Ow.box b_1 56 (e_api_Tune t).toArray :: Ow.box b_2 97 (c_api_Asked a_Group (.bool a_All) va_Sources).toArray :: Ow.own 28 17 eA vr_1 r_3 :: fr) h ∧ (SliceF F' h 17 eA va_Sources a_Sources) ∧ I_1 (x_1_1, n_1)) m_1 (r_1_1, 0) ⟨F_8, rfl, rfl, rfl, rfl, rfl, rfl, rfl, rfl, rfl, hK, hS, hL_a_Sources, hI_1⟩ ?_
    rintro ⟨x_1_1, n_1⟩ f_3 h_12 ⟨F_9, e0, e1, e6, e7, e8, e10, e56, e57, e58, hK, hS, hL_a_Sources, hI0⟩
    obtain ⟨K_1, hKe_1⟩ : ∃ K : (List (TA × Int)) → Int → Prop, K = fun x_1_1' n_1' => I_1 (x_1_1', n_1') ∧ m_1 (x_1_1', n_1') < m_1 (x_1_1, n_1) := ⟨_, rfl⟩
    have hM : query_Queries_Want_l1 t a_Group Q r_2 r_3 q_now_4 qm_7 q_first_4 qm_8 x_0_1 K_1 x_1_1 n_1 := by rw [hKe_1]; exact hR_1 (x_1_1, n_1) hI0
    unfold query_Queries_Want_l1 at hM
    refine HW.fr [(0, .pointer (some ⟨bq, 0, none⟩)), (1, .int .i64 r_2), (6, .pointer (some ⟨b_1, 0, none⟩)), (7, .pointer (some ⟨b_2, 0, none⟩)), (8, .bool false), (10, .pointer (some ⟨b_3, 0, none⟩)), (56, vr_1), (57, .int .i64 (r_3.length : Int)), (58, .int .i64 n_1)] ⟨e0, e1, e6, e7, e8, e10, e56, e57, e58, trivial⟩ ?_
    refine HW.seq ?_
    refine HW.region ?_
    refine oV (.bool (decide (n_1 < (r_3.length : Int)))) (q_lss rfl rfl) rfl ?_
    refine HO.nil (thenQ_normal (?_))
    refine HW.seq ?_
    refine HW.cond (decide (n_1 < (r_3.length : Int))) rfl (fun c_6 => ?_) (fun c_6 => ?_)
    ·
     replace hM := hM.1 (of_decide_eq_true c_6)
     refine HW.skip (thenQ_normal (?_))
     refine HW.seq ?_
     refine HW.block ?_
     refine HW.seq ?_
     refine HW.region ?_
     obtain ⟨ho_1, hM⟩ := hM
     refine oV (elemPtr 17 vr_1 (n_1).toNat) (q_idx ts_29 (hS.own 8 rfl).slice rfl rfl ho_1) rfl ?_
     refine oV (.agg (eA (gi r_3 n_1)).toArray) (q_ldElemAgg (cs := (eA (gi r_3 n_1))) ta_28 (hS.own 8 rfl).slice rfl ho_1 rfl) rfl ?_
     refine HO.eff (want_none) rfl (st_alloc (c := (eA (false, (default : Ba 16))).toArray) hS tz_28 rfl) ?_
     rintro _ h_13 ⟨b_4, rfl, hS, hk⟩
     replace hK := hK.trans hk
     replace hL_a_Sources := hL_a_Sources.kp hk
     refine HO.sto (want_none) rfl (st_storeAgg (c' := (eA (gi r_3 n_1)).toArray) hS (i := 0) rfl ta_28 rfl rfl rfl (one_e_api_Addr _) (Nat.le_of_ble_eq_true rfl) rfl) ?_
     rintro h_14 ⟨hS, hk⟩
     replace hK := hK.trans hk
     replace hL_a_Sources := hL_a_Sources.kp hk
     refine HO.nil (thenQ_normal (?_))
     refine HW.seq ?_
     refine HW.regionA 11 mixed (fun h => (SliceIs h 17 eA va_Sources a_Sources) ∧ (Blk h b_4 (.cells (eA (gi r_3 n_1)).toArray 28 (0, 0))) ∧ (Blk h bq (.cells #[.int .i64 q_now_4, .pointer (some ⟨bq_at, 0, none⟩), .int .i64 q_first_4, .map (some rq_open)] 167 (0, 0))) ∧ (Blk h bq_at (.cells #[.map (some rq_at_at)] 222 (0, 0))) ∧ (MapIs h rq_at_at kT kI qm_7) ∧ (MapIs h rq_open (fun (x : TA) => .agg (eA x).toArray) (pmV (β := TqL) pv_query_left) qm_8) ∧ (Blk h b_3 (.cells #[.int .i64 x_0_1, .map (some r_6)] 179 (0, 0))) ∧ (MapIs h r_6 (fun (x : TA) => .agg (eA x).toArray) kI x_1_1) ∧ (Blk h b_1 (.cells (e_api_Tune t).toArray 56 (0, 0))) ∧ (Blk h b_2 (.cells (c_api_Asked a_Group (.bool a_All) va_Sources).toArray 97 (0, 0))) ∧ (OwnIs h 0 28 17 eA vr_1 r_3)) [] (by kernel_rfl) ?_
     refine HA.val (k := 0) (v := .pointer (some ⟨b_3, 0, none⟩)) rfl rfl (by kernel_rfl) (by kernel_rfl) (want_none) rfl (fun _ ⟨hL_a_Sources, c393, c384, c385, c386, c387, c388, c389, c390, c391, c392⟩ => q_move rfl) ?_
     refine HA.val (k := 1) (v := .pointer (some ⟨b_3, 0, none⟩)) rfl rfl (by kernel_rfl) (by kernel_rfl) (want_none) rfl (fun _ ⟨hL_a_Sources, c393, c384, c385, c386, c387, c388, c389, c390, c391, c392⟩ => q_nilCheck rfl) ?_
     refine HA.val (k := 2) (v := .pointer (some ⟨b_3, 1, none⟩)) rfl rfl (by kernel_rfl) (by kernel_rfl) (want_none) rfl (fun _ ⟨hL_a_Sources, c393, c384, c385, c386, c387, c388, c389, c390, c391, c392⟩ => q_fieldAddr fa_179_1 rfl rfl) ?_
     refine HA.val (k := 3) (v := .map (some r_6)) rfl rfl (by kernel_rfl) (by kernel_rfl) (want_none) rfl (fun _ ⟨hL_a_Sources, c393, c384, c385, c386, c387, c388, c389, c390, c391, c392⟩ => q_load to_177 rfl (Blk.cell c388 rfl)) ?_
     refine HA.val (k := 4) (v := .agg (eA (gi r_3 n_1)).toArray) rfl rfl (by kernel_rfl) (by kernel_rfl) (want_none) rfl (fun _ ⟨hL_a_Sources, c393, c384, c385, c386, c387, c388, c389, c390, c391, c392⟩ => q_loadAgg (cs := (eA (gi r_3 n_1))) ta_28 rfl rfl (Blk.cells (k := 17) c393 rfl)) ?_
     refine HA.val (k := 5) (v := .tuple #[.int .i64 (mget0 x_1_1 (gi r_3 n_1)), .bool ((mget x_1_1 (gi r_3 n_1)).isSome)]) rfl rfl (by kernel_rfl) (by kernel_rfl) (want_none) rfl (fun _ ⟨hL_a_Sources, c393, c384, c385, c386, c387, c388, c389, c390, c391, c392⟩ => (q_lookupOk (k := (gi r_3 n_1)) ka_28 tmk_177 c389 rfl rfl).of_eq (congrArg (fun v => Value.tuple #[v, _]) (mval0 (z := .int .i64 0) rfl))) ?_
     refine HA.val (k := 6) (v := .tuple #[.int .i64 (mget0 x_1_1 (gi r_3 n_1)), .bool ((mget x_1_1 (gi r_3 n_1)).isSome)]) rfl rfl (by kernel_rfl) (by kernel_rfl) (want_none) rfl (fun _ ⟨hL_a_Sources, c393, c384, c385, c386, c387, c388, c389, c390, c391, c392⟩ => q_move rfl) ?_
     refine HA.val (k := 7) (v := .int .i64 (mget0 x_1_1 (gi r_3 n_1))) rfl rfl (by kernel_rfl) (by kernel_rfl) (want_none) rfl (fun _ ⟨hL_a_Sources, c393, c384, c385, c386, c387, c388, c389, c390, c391, c392⟩ => q_extract rfl rfl) ?_
     refine HA.val (k := 8) (v := .bool ((mget x_1_1 (gi r_3 n_1)).isSome)) rfl rfl (by kernel_rfl) (by kernel_rfl) (want_none) rfl (fun _ ⟨hL_a_Sources, c393, c384, c385, c386, c387, c388, c389, c390, c391, c392⟩ => q_extract rfl rfl) ?_
     refine HA.val (k := 9) (v := .int .i64 (mget0 x_1_1 (gi r_3 n_1))) rfl rfl (by kernel_rfl) (by kernel_rfl) (want_none) rfl (fun _ ⟨hL_a_Sources, c393, c384, c385, c386, c387, c388, c389, c390, c391, c392⟩ => q_assign rfl) ?_
     refine HA.val (k := 10) (v := .bool ((mget x_1_1 (gi r_3 n_1)).isSome)) rfl rfl (by kernel_rfl) (by kernel_rfl) (want_none) rfl (fun _ ⟨hL_a_Sources, c393, c384, c385, c386, c387, c388, c389, c390, c391, c392⟩ => q_assign rfl) ?_
     refine HA.nil ⟨⟨hL_a_Sources.is, (hS.box 0 rfl), (hS.box 1 rfl), (hS.box 2 rfl), (hS.mp 3 rfl), (hS.pmi 4 rfl).map, (hS.box 5 rfl), (hS.mp 6 rfl), (hS.box 7 rfl), (hS.box 8 rfl), (hS.own 9 rfl)⟩, (Go.Wk.at_nil _ _)⟩ (by kernel_rfl) (thenQ_normal (?_))
     refine HW.seq_mid (fun f h => ∃ (F' : Fz) (b_5 : Bool), f 0 = .pointer (some ⟨bq, 0, none⟩) ∧ f 1 = .int .i64 r_2 ∧ f 6 = .pointer (some ⟨b_1, 0, none⟩) ∧ f 7 = .pointer (some ⟨b_2, 0, none⟩) ∧ f 8 = .bool false ∧ f 10 = .pointer (some ⟨b_3, 0, none⟩) ∧ f 12 = .pointer (some ⟨b_4, 0, none⟩) ∧ f 56 = vr_1 ∧ f 57 = .int .i64 (r_3.length : Int) ∧ f 58 = .int .i64 n_1 ∧ f 79 = .bool b_5 ∧ Kp F h0 F' h ∧ St F' (Ow.box bq 167 #[.int .i64 q_now_4, .pointer (some ⟨bq_at, 0, none⟩), .int .i64 q_first_4, .map (some rq_open)] :: Ow.box bq_at 222 #[.map (some rq_at_at)] :: Ow.map rq_at_at kT kI qm_7 :: Ow.pm rq_open (fun (x : TA) => .agg (eA x).toArray) pv_query_left th_query_left qm_8 (some (a_Group, (b_3, r_6))) :: Ow.box b_3 179 #[.int .i64 x_0_1, .map (some r_6)] :: Ow.map r_6 (fun (x : TA) => .agg (eA x).toArray) kI x_1_1 :: Ow.box b_1 56 (e_api_Tune t).toArray :: Ow.box b_2 97 (c_api_Asked a_Group (.bool a_All) va_Sources).toArray :: Ow.box b_4 28 (eA (gi r_3 n_1)).toArray :: Ow.own 28 17 eA vr_1 r_3 :: fr) h ∧ (SliceF F' h 17 eA va_Sources a_Sources) ∧ query_Queries_Want_j3 t r_3 x_1_1 n_1 K_1 b_5) ?_ ?_
     ·
      refine HW.region ?_
      refine oM (.bool ((mget x_1_1 (gi r_3 n_1)).isSome)) rfl rfl ?_
      refine oM (.bool ((mget x_1_1 (gi r_3 n_1)).isSome)) rfl rfl ?_
      rcases Bool.eq_false_or_eq_true ((mget x_1_1 (gi r_3 n_1)).isSome) with c_7 | c_7
      ·
       replace hM := hM.1 c_7
       refine HO.past (past_by rfl rfl c_7) rfl ?_
       refine HO.past (past_by rfl rfl c_7) rfl ?_
       refine HO.past (past_by rfl rfl c_7) rfl ?_
       refine HO.past (past_by rfl rfl c_7) rfl ?_
       refine HO.past (past_by rfl rfl c_7) rfl ?_
       refine HO.past (past_by rfl rfl c_7) rfl ?_
       refine oV (.bool true) (q_pickK true rfl c_7 rfl) rfl ?_
       refine HO.nil (thenQ_normal (?_))
       replace hS : St F_9 (Ow.box bq 167 #[.int .i64 q_now_4, .pointer (some ⟨bq_at, 0, none⟩), .int .i64 q_first_4, .map (some rq_open)] :: Ow.box bq_at 222 #[.map (some rq_at_at)] :: Ow.map rq_at_at kT kI qm_7 :: Ow.pm rq_open (fun (x : TA) => .agg (eA x).toArray) pv_query_left th_query_left qm_8 (some (a_Group, (b_3, r_6))) :: Ow.box b_3 179 #[.int .i64 x_0_1, .map (some r_6)] :: Ow.map r_6 (fun (x : TA) => .agg (eA x).toArray) kI x_1_1 :: Ow.box b_1 56 (e_api_Tune t).toArray :: Ow.box b_2 97 (c_api_Asked a_Group (.bool a_All) va_Sources).toArray :: Ow.box b_4 28 (eA (gi r_3 n_1)).toArray :: Ow.own 28 17 eA vr_1 r_3 :: fr) h_14 := hS.perm2 [1, 2, 3, 4, 5, 6, 7, 8, 0, 9] 10 rfl rfl
       exact ⟨F_9, true, rfl, rfl, rfl, rfl, rfl, rfl, rfl, rfl, rfl, rfl, rfl, hK, hS, hL_a_Sources, hM⟩
      ·
       replace hM := hM.2 c_7
       refine HO.val (v := .pointer (some ⟨b_3, 0, none⟩)) (want_by rfl rfl c_7) rfl (q_move rfl) ?_
       refine HO.val (v := .pointer (some ⟨b_3, 0, none⟩)) (want_by rfl rfl c_7) rfl (q_nilCheck rfl) ?_
       refine HO.val (v := .pointer (some ⟨b_3, 1, none⟩)) (want_by rfl rfl c_7) rfl (q_fieldAddr fa_179_1 rfl rfl) ?_
       refine HO.val (v := .map (some r_6)) (want_by rfl rfl c_7) rfl (q_load to_177 rfl (Blk.cell (hS.box 5 rfl) rfl)) ?_
       refine HO.val (v := .int .i64 (x_1_1.length : Int)) (want_by rfl rfl c_7) rfl (q_lenMap Tryz.underlying177 (hS.mp 6 rfl) rfl rfl) ?_
       refine HO.val (v := .bool (decide ((x_1_1.length : Int) < 64))) (want_by rfl rfl c_7) rfl (q_lss rfl rfl) ?_
       refine oV (.bool (decide ((x_1_1.length : Int) < 64))) (q_pickK false rfl c_7 rfl) rfl ?_
       refine HO.nil (thenQ_normal (?_))
       replace hS : St F_9 (Ow.box bq 167 #[.int .i64 q_now_4, .pointer (some ⟨bq_at, 0, none⟩), .int .i64 q_first_4, .map (some rq_open)] :: Ow.box bq_at 222 #[.map (some rq_at_at)] :: Ow.map rq_at_at kT kI qm_7 :: Ow.pm rq_open (fun (x : TA) => .agg (eA x).toArray) pv_query_left th_query_left qm_8 (some (a_Group, (b_3, r_6))) :: Ow.box b_3 179 #[.int .i64 x_0_1, .map (some r_6)] :: Ow.map r_6 (fun (x : TA) => .agg (eA x).toArray) kI x_1_1 :: Ow.box b_1 56 (e_api_Tune t).toArray :: Ow.box b_2 97 (c_api_Asked a_Group (.bool a_All) va_Sources).toArray :: Ow.box b_4 28 (eA (gi r_3 n_1)).toArray :: Ow.own 28 17 eA vr_1 r_3 :: fr) h_14 := hS.perm2 [1, 2, 3, 4, 5, 6, 7, 8, 0, 9] 10 rfl rfl
       exact ⟨F_9, decide ((x_1_1.length : Int) < 64), rfl, rfl, rfl, rfl, rfl, rfl, rfl, rfl, rfl, rfl, rfl, hK, hS, hL_a_Sources, hM⟩
     ·
      rintro f_4 h_15 ⟨F_10, b_5, e0, e1, e6, e7, e8, e10, e12, e56, e57, e58, e79, hK, hS, hL_a_Sources, hM⟩
      unfold query_Queries_Want_j3 at hM
      refine HW.fr [(0, .pointer (some ⟨bq, 0, none⟩)), (1, .int .i64 r_2), (6, .pointer (some ⟨b_1, 0, none⟩)), (7, .pointer (some ⟨b_2, 0, none⟩)), (8, .bool false), (10, .pointer (some ⟨b_3, 0, none⟩)), (12, .pointer (some ⟨b_4, 0, none⟩)), (56, vr_1), (57, .int .i64 (r_3.length : Int)), (58, .int .i64 n_1), (79, .bool b_5)] ⟨e0, e1, e6, e7, e8, e10, e12, e56, e57, e58, e79, trivial⟩ ?_
      refine HW.cond b_5 rfl (fun c_8 => ?_) (fun c_8 => ?_)
      ·
       replace hM := hM.1 c_8
       refine HW.regionA 8 mixed (fun h => (Blk h b_3 (.cells #[.int .i64 x_0_1, .map (some r_6)] 179 (0, 0))) ∧ (Blk h b_1 (.cells (e_api_Tune t).toArray 56 (0, 0))) ∧ (Blk h b_4 (.cells (eA (gi r_3 n_1)).toArray 28 (0, 0)))) [] (by kernel_rfl) ?_
       refine HA.val (k := 0) (v := .pointer (some ⟨b_3, 0, none⟩)) rfl rfl (by kernel_rfl) (by kernel_rfl) (want_none) rfl (fun _ ⟨c470, c472, c474⟩ => q_move rfl) ?_
       refine HA.val (k := 1) (v := .pointer (some ⟨b_3, 0, none⟩)) rfl rfl (by kernel_rfl) (by kernel_rfl) (want_none) rfl (fun _ ⟨c470, c472, c474⟩ => q_nilCheck rfl) ?_
       refine HA.val (k := 2) (v := .pointer (some ⟨b_3, 1, none⟩)) rfl rfl (by kernel_rfl) (by kernel_rfl) (want_none) rfl (fun _ ⟨c470, c472, c474⟩ => q_fieldAddr fa_179_1 rfl rfl) ?_
       refine HA.val (k := 3) (v := .map (some r_6)) rfl rfl (by kernel_rfl) (by kernel_rfl) (want_none) rfl (fun _ ⟨c470, c472, c474⟩ => q_load to_177 rfl (Blk.cell c470 rfl)) ?_
       refine HA.val (k := 4) (v := .agg (eA (gi r_3 n_1)).toArray) rfl rfl (by kernel_rfl) (by kernel_rfl) (want_none) rfl (fun _ ⟨c470, c472, c474⟩ => q_loadAgg (cs := (eA (gi r_3 n_1))) ta_28 rfl rfl (Blk.cells (k := 17) c474 rfl)) ?_
       refine HA.val (k := 5) (v := .pointer (some ⟨b_1, 4, none⟩)) rfl rfl (by kernel_rfl) (by kernel_rfl) (want_none) rfl (fun _ ⟨c470, c472, c474⟩ => q_fieldAddr fa_56_4 rfl rfl) ?_
       refine HA.val (k := 6) (v := .int .i64 t.2.2.2.2) rfl rfl (by kernel_rfl) (by kernel_rfl) (want_none) rfl (fun _ ⟨c470, c472, c474⟩ => q_load to_3 rfl (Blk.cell c472 rfl)) ?_
       refine HA.one (k := 7) ⟨⟨(hS.box 4 rfl), (hS.box 6 rfl), (hS.box 8 rfl)⟩, (Go.Wk.at_nil _ _)⟩ (by kernel_rfl) ?_
       refine HS.sto rfl (want_none) rfl (st_mapUpdateK (k := (gi r_3 n_1)) (v := t.2.2.2.2) hS (i := 5) rfl ka_28 tmk_177 rfl rfl rfl) ?_
       rintro h_16 ⟨hS, hk⟩
       replace hK := hK.trans hk
       replace hL_a_Sources := hL_a_Sources.kp hk
       refine HA.nil ⟨⟨(hS.box 4 rfl), (hS.box 6 rfl), (hS.box 8 rfl)⟩, (Go.Wk.at_nil _ _)⟩ (by kernel_rfl) (blockQ_normal (thenQ_normal (?_)))
       refine HW.region ?_
       obtain ⟨ho_2, hM⟩ := hM
       refine oV (.int .i64 (n_1 + 1)) (q_addN _ rfl rfl rfl ho_2.1 ho_2.2) rfl ?_
       refine oM (.int .i64 (n_1 + 1)) rfl rfl ?_
       refine HO.nil (thenQ_normal (?_))
       replace hS : St F_10 (Ow.box bq 167 #[.int .i64 q_now_4, .pointer (some ⟨bq_at, 0, none⟩), .int .i64 q_first_4, .map (some rq_open)] :: Ow.box bq_at 222 #[.map (some rq_at_at)] :: Ow.map rq_at_at kT kI qm_7 :: Ow.pm rq_open (fun (x : TA) => .agg (eA x).toArray) pv_query_left th_query_left qm_8 (some (a_Group, (b_3, r_6))) :: Ow.box b_3 179 #[.int .i64 x_0_1, .map (some r_6)] :: Ow.map r_6 (fun (x : TA) => .agg (eA x).toArray) kI (mset x_1_1 (gi r_3 n_1) t.2.2.2.2) :: Ow.box b_1 56 (e_api_Tune t).toArray :: Ow.box b_2 97 (c_api_Asked a_Group (.bool a_All) va_Sources).toArray :: Ow.own 28 17 eA vr_1 r_3 :: fr) h_16 := hS.perm2 [0, 1, 2, 3, 4, 5, 6, 7, 9] 10 rfl rfl
       rw [hKe_1] at hM
       exact ⟨(mset x_1_1 (gi r_3 n_1) t.2.2.2.2, n_1 + 1), ⟨F_10, rfl, rfl, rfl, rfl, rfl, rfl, rfl, rfl, rfl, hK, hS, hL_a_Sources, hM.1⟩, hM.2⟩
      ·
       replace hM := hM.2 c_8
       refine HW.skip (blockQ_normal (thenQ_normal (?_)))
       refine HW.region ?_
       obtain ⟨ho_3, hM⟩ := hM
       refine oV (.int .i64 (n_1 + 1)) (q_addN _ rfl rfl rfl ho_3.1 ho_3.2) rfl ?_
       refine oM (.int .i64 (n_1 + 1)) rfl rfl ?_
       refine HO.nil (thenQ_normal (?_))
       replace hS : St F_10 (Ow.box bq 167 #[.int .i64 q_now_4, .pointer (some ⟨bq_at, 0, none⟩), .int .i64 q_first_4, .map (some rq_open)] :: Ow.box bq_at 222 #[.map (some rq_at_at)] :: Ow.map rq_at_at kT kI qm_7 :: Ow.pm rq_open (fun (x : TA) => .agg (eA x).toArray) pv_query_left th_query_left qm_8 (some (a_Group, (b_3, r_6))) :: Ow.box b_3 179 #[.int .i64 x_0_1, .map (some r_6)] :: Ow.map r_6 (fun (x : TA) => .agg (eA x).toArray) kI x_1_1 :: Ow.box b_1 56 (e_api_Tune t).toArray :: Ow.box b_2 97 (c_api_Asked a_Group (.bool a_All) va_Sources).toArray :: Ow.own 28 17 eA vr_1 r_3 :: fr) h_15 := hS.perm2 [0, 1, 2, 3, 4, 5, 6, 7, 9] 10 rfl rfl
       rw [hKe_1] at hM
       exact ⟨(x_1_1, n_1 + 1), ⟨F_10, rfl, rfl, rfl, rfl, rfl, rfl, rfl, rfl, rfl, hK, hS, hL_a_Sources, hM.1⟩, hM.2⟩
    ·
     replace hM := hM.2 (of_decide_eq_false c_6)
     refine HW.exit (thenQ_exit (thenQ_exit (blockQ_exit (thenQ_normal (?_)))))
     refine HW.seq ?_
     refine HW.regionA 9 mixed (fun h => (Blk h bq (.cells #[.int .i64 q_now_4, .pointer (some ⟨bq_at, 0, none⟩), .int .i64 q_first_4, .map (some rq_open)] 167 (0, 0))) ∧ (Blk h b_2 (.cells (c_api_Asked a_Group (.bool a_All) va_Sources).toArray 97 (0, 0)))) [] (by kernel_rfl) ?_
     refine HA.val (k := 0) (v := .pointer (some ⟨bq, 0, none⟩)) rfl rfl (by kernel_rfl) (by kernel_rfl) (want_none) rfl (fun _ ⟨c384, c391⟩ => q_move rfl) ?_
     refine HA.val (k := 1) (v := .pointer (some ⟨bq, 0, none⟩)) rfl rfl (by kernel_rfl) (by kernel_rfl) (want_none) rfl (fun _ ⟨c384, c391⟩ => q_nilCheck rfl) ?_
     refine HA.val (k := 2) (v := .pointer (some ⟨bq, 1, none⟩)) rfl rfl (by kernel_rfl) (by kernel_rfl) (want_none) rfl (fun _ ⟨c384, c391⟩ => q_fieldAddr fa_167_1 rfl rfl) ?_
     refine HA.val (k := 3) (v := .pointer (some ⟨bq_at, 0, none⟩)) rfl rfl (by kernel_rfl) (by kernel_rfl) (want_none) rfl (fun _ ⟨c384, c391⟩ => q_load to_163 rfl (Blk.cell c384 rfl)) ?_
     refine HA.val (k := 4) (v := .pointer (some ⟨b_2, 0, none⟩)) rfl rfl (by kernel_rfl) (by kernel_rfl) (want_none) rfl (fun _ ⟨c384, c391⟩ => q_fieldAddr fa_97_0 rfl rfl) ?_
     refine HA.val (k := 5) (v := .agg (eA a_Group).toArray) rfl rfl (by kernel_rfl) (by kernel_rfl) (want_none) rfl (fun _ ⟨c384, c391⟩ => q_loadAgg (cs := (eA a_Group)) ta_28 rfl rfl (Blk.cells (k := 17) c391 rfl)) ?_
     refine HA.val (k := 7) (v := .int .i64 r_2) rfl rfl (by kernel_rfl) (by kernel_rfl) (want_none) rfl (fun _ ⟨c384, c391⟩ => q_move rfl) ?_
     refine HA.one (k := 6) ⟨⟨(hS.box 0 rfl), (hS.box 7 rfl)⟩, (Go.Wk.at_nil _ _)⟩ (by kernel_rfl) ?_
     refine HS.call rfl (want_none) rfl (ec en_117 rfl rfl) (query_key_walk (fr := (Ow.box bq 167 #[.int .i64 q_now_4, .pointer (some ⟨bq_at, 0, none⟩), .int .i64 q_first_4, .map (some rq_open)] :: Ow.box bq_at 222 #[.map (some rq_at_at)] :: Ow.map rq_at_at kT kI qm_7 :: Ow.pm rq_open (fun (x : TA) => .agg (eA x).toArray) pv_query_left th_query_left qm_8 (some (a_Group, (b_3, r_6))) :: Ow.box b_3 179 #[.int .i64 x_0_1, .map (some r_6)] :: Ow.map r_6 (fun (x : TA) => .agg (eA x).toArray) kI x_1_1 :: Ow.box b_1 56 (e_api_Tune t).toArray :: Ow.box b_2 97 (c_api_Asked a_Group (.bool a_All) va_Sources).toArray :: Ow.own 28 17 eA vr_1 r_3 :: fr)) a_Group hS hM) ?_
     rintro _ h_17 ⟨F_11, r_7, rfl, hk, hS, hM⟩
     replace hK := hK.trans hk
     replace hL_a_Sources := hL_a_Sources.kp hk
     refine HA.one (k := 8) ⟨⟨(hS.box 0 rfl), (hS.box 7 rfl)⟩, (Go.Wk.at_nil _ _)⟩ (by kernel_rfl) ?_
     replace hS : St F_11 (Ow.box bq_at 222 #[.map (some rq_at_at)] :: Ow.map rq_at_at kT kI qm_7 :: Ow.box bq 167 #[.int .i64 q_now_4, .pointer (some ⟨bq_at, 0, none⟩), .int .i64 q_first_4, .map (some rq_open)] :: Ow.pm rq_open (fun (x : TA) => .agg (eA x).toArray) pv_query_left th_query_left qm_8 (some (a_Group, (b_3, r_6))) :: Ow.box b_3 179 #[.int .i64 x_0_1, .map (some r_6)] :: Ow.map r_6 (fun (x : TA) => .agg (eA x).toArray) kI x_1_1 :: Ow.box b_1 56 (e_api_Tune t).toArray :: Ow.box b_2 97 (c_api_Asked a_Group (.bool a_All) va_Sources).toArray :: Ow.own 28 17 eA vr_1 r_3 :: fr) h_17 := hS.perm2 [1, 2, 0, 3, 4, 5, 6, 7, 8] 9 rfl rfl
     refine HS.call rfl (want_none) rfl (ec en_110 rfl rfl) (clock_Clock_Set_string_walk (fr := (Ow.box bq 167 #[.int .i64 q_now_4, .pointer (some ⟨bq_at, 0, none⟩), .int .i64 q_first_4, .map (some rq_open)] :: Ow.pm rq_open (fun (x : TA) => .agg (eA x).toArray) pv_query_left th_query_left qm_8 (some (a_Group, (b_3, r_6))) :: Ow.box b_3 179 #[.int .i64 x_0_1, .map (some r_6)] :: Ow.map r_6 (fun (x : TA) => .agg (eA x).toArray) kI x_1_1 :: Ow.box b_1 56 (e_api_Tune t).toArray :: Ow.box b_2 97 (c_api_Asked a_Group (.bool a_All) va_Sources).toArray :: Ow.own 28 17 eA vr_1 r_3 :: fr)) qm_7 r_7 r_2 bq_at rq_at_at hS hM) ?_
     rintro _ h_18 ⟨F_12, r_8, cm_1, rfl, hk, hS, hM⟩
     replace hK := hK.trans hk
     replace hL_a_Sources := hL_a_Sources.kp hk
     refine HA.nil ⟨⟨(hS.box 2 rfl), (hS.box 7 rfl)⟩, (Go.Wk.at_nil _ _)⟩ (by kernel_rfl) (thenQ_normal (?_))
     refine HW.seq ?_
     refine HW.region ?_
     refine oA (.bool true) rfl rfl ?_
     refine HO.nil (thenQ_normal (?_))
     refine HW.ret (?_)
     refine ⟨.inr rfl, .bool true, res1 rfl (rt rfl), ?_⟩
     replace hM := hM b_3
     replace hM := hM r_6
     replace hS : St F_12 (Ow.box b_3 179 #[.int .i64 x_0_1, .map (some r_6)] :: Ow.map r_6 (fun (x : TA) => .agg (eA x).toArray) kI x_1_1 :: Ow.box bq_at 222 #[.map (some rq_at_at)] :: Ow.map rq_at_at kT kI cm_1 :: Ow.box bq 167 #[.int .i64 q_now_4, .pointer (some ⟨bq_at, 0, none⟩), .int .i64 q_first_4, .map (some rq_open)] :: Ow.pm rq_open (fun (x : TA) => .agg (eA x).toArray) pv_query_left th_query_left qm_8 (some (a_Group, (b_3, r_6))) :: Ow.box b_1 56 (e_api_Tune t).toArray :: Ow.box b_2 97 (c_api_Asked a_Group (.bool a_All) va_Sources).toArray :: Ow.own 28 17 eA vr_1 r_3 :: fr) h_18 := hS.perm2 [4, 5, 0, 1, 2, 3, 6, 7, 8] 9 rfl rfl
     replace hS : St F_12 (Ow.box bq_at 222 #[.map (some rq_at_at)] :: Ow.map rq_at_at kT kI cm_1 :: Ow.box bq 167 #[.int .i64 q_now_4, .pointer (some ⟨bq_at, 0, none⟩), .int .i64 q_first_4, .map (some rq_open)] :: Ow.pm rq_open (fun (x : TA) => .agg (eA x).toArray) pv_query_left th_query_left (mset qm_8 a_Group ((b_3, r_6), (x_0_1, x_1_1))) none :: Ow.box b_1 56 (e_api_Tune t).toArray :: Ow.box b_2 97 (c_api_Asked a_Group (.bool a_All) va_Sources).toArray :: Ow.own 28 17 eA vr_1 r_3 :: fr) h_18 := St.pmPut (th := th_query_left) (j := (b_3, r_6)) (y := (x_0_1, x_1_1)) (St.doboth hS) 3 rfl
     replace hS : St F_12 (Ow.box bq 167 #[.int .i64 q_now_4, .pointer (some ⟨bq_at, 0, none⟩), .int .i64 q_first_4, .map (some rq_open)] :: Ow.box bq_at 222 #[.map (some rq_at_at)] :: Ow.map rq_at_at kT kI cm_1 :: Ow.pm rq_open (fun (x : TA) => .agg (eA x).toArray) pv_query_left th_query_left (mset qm_8 a_Group ((b_3, r_6), (x_0_1, x_1_1))) none :: fr) h_18 := hS.perm2 [2, 0, 1, 3] 7 rfl rfl
     exact ⟨F_12, true, q_now_4, cm_1, q_first_4, mset qm_8 a_Group ((b_3, r_6), (x_0_1, x_1_1)), rfl, hK, hS, hL_a_Sources, hM⟩
def ref11_Has_l1 (l : List TA) (a : TA) (Q : Bool → Prop) (K_1 : Int → Prop) (i_1 : Int) : Prop :=
 (i_1 < (l.length : Int) → ((0 : Int) ≤ i_1 ∧ i_1 < (l.length : Int)) ∧ ((((gi l i_1) : TA) = a → Q true) ∧ (¬ (((gi l i_1) : TA) = a) → (I64 (i_1 + 1)) ∧ (K_1 (i_1 + 1))))) ∧ (¬ (i_1 < (l.length : Int)) → Q false)
def ref11_Has_W (l : List TA) (a : TA) (Q : Bool → Prop) : Prop :=
 loopW (fun (K_1 : Int → Prop) (s : Int) => ref11_Has_l1 l a Q K_1 s) 0
theorem ref11_Has_walk {F : Fz} {fr : List Ow} {h0 : Heap} (l : List TA) (a : TA) (vl : Value) (hS : St F (fr) h0) (hL_l : SliceF F h0 17 eA vl l) {Q : Bool → Prop} (hM : ref11_Has_W l a Q) :
  HC Tryz.prog 95 #[vl, .agg (eA a).toArray] h0 fun u h' => ∃ (F' : Fz) (r_1 : Bool), u = .bool r_1 ∧ Kp F h0 F' h' ∧ St F' (fr) h' ∧ (SliceF F' h' 17 eA vl l) ∧ Q r_1 := by
 unfold ref11_Has_W at hM
 have hK := Kp.refl F h0
 refine HC.of_HW (n := 18) Tryz.func95 rfl rfl (Nat.le_of_ble_eq_true rfl) ?_
 refine HW.seq ?_
 refine HW.region ?_
 refine HO.eff (want_none) rfl (st_box (c := (eA a).toArray) (k' := 17) hS rfl rfl) ?_
 rintro _ h_1 ⟨b_1, rfl, hS, hk⟩
 replace hK := hK.trans hk
 replace hL_l := hL_l.kp hk
 refine oA (.bool false) rfl rfl ?_
 refine HO.nil (thenQ_normal (?_))
 refine HW.seq ?_
 refine HW.seq ?_
 refine HW.region ?_
 refine oA (.int .i64 0) rfl rfl ?_
 refine HO.nil (thenQ_normal (?_))
 refine HW.block ?_
 obtain ⟨I_1, m_1, hI_1, hR_1⟩ := hM
 refine HW.loop (S := Int) (fun i_1 f h => ∃ (F' : Fz), f 0 = vl ∧ f 3 = .pointer (some ⟨b_1, 0, none⟩) ∧ f 4 = .bool false ∧ f 5 = .int .i64 i_1 ∧ Kp F h0 F' h ∧ St F' (Ow.box b_1 28 (eA a).toArray :: fr) h ∧ (SliceF F' h 17 eA vl l) ∧ I_1 i_1) m_1 0 ⟨F, rfl, rfl, rfl, rfl, hK, hS, hL_l, hI_1⟩ ?_
 rintro i_1 f_1 h_2 ⟨F_1, e0, e3, e4, e5, hK, hS, hL_l, hI0⟩
 obtain ⟨K_1, hKe_1⟩ : ∃ K : Int → Prop, K = fun i_1' => I_1 i_1' ∧ m_1 i_1' < m_1 i_1 := ⟨_, rfl⟩
 have hM : ref11_Has_l1 l a Q K_1 i_1 := by rw [hKe_1]; exact hR_1 i_1 hI0
 unfold ref11_Has_l1 at hM
 refine HW.fr [(0, vl), (3, .pointer (some ⟨b_1, 0, none⟩)), (4, .bool false), (5, .int .i64 i_1)] ⟨e0, e3, e4, e5, trivial⟩ ?_
 refine HW.seq ?_
 refine HW.seq ?_
 refine HW.region ?_
 refine oM (.int .i64 i_1) rfl rfl ?_
 refine oM (vl) rfl rfl ?_
 refine oV (.int .i64 (l.length : Int)) (q_len ts_29 (shp hL_l.is) rfl rfl) rfl ?_
 refine oV (.bool (decide (i_1 < (l.length : Int)))) (q_lss rfl rfl) rfl ?_
 refine HO.nil (thenQ_normal (?_))
 refine HW.cond (decide (i_1 < (l.length : Int))) rfl (fun c_1 => ?_) (fun c_1 => ?_)
 ·
  replace hM := hM.1 (of_decide_eq_true c_1)
  refine HW.skip (thenQ_normal (?_))
  refine HW.seq ?_
  refine HW.block ?_
  refine HW.seq ?_
  refine HW.regionA 6 mixed (fun h => (SliceIs h 17 eA vl l) ∧ (Blk h b_1 (.cells (eA a).toArray 28 (0, 0)))) [] (by kernel_rfl) ?_
  refine HA.val (k := 0) (v := vl) rfl rfl (by kernel_rfl) (by kernel_rfl) (want_none) rfl (fun _ ⟨hL_l, c302⟩ => q_move rfl) ?_
  refine HA.val (k := 1) (v := .int .i64 i_1) rfl rfl (by kernel_rfl) (by kernel_rfl) (want_none) rfl (fun _ ⟨hL_l, c302⟩ => q_move rfl) ?_
  obtain ⟨ho_1, hM⟩ := hM
  refine HA.val (k := 2) (v := elemPtr 17 vl (i_1).toNat) rfl rfl (by kernel_rfl) (by kernel_rfl) (want_none) rfl (fun _ ⟨hL_l, c302⟩ => q_idx ts_29 hL_l rfl rfl ho_1) ?_
  refine HA.val (k := 3) (v := .agg (eA (gi l i_1)).toArray) rfl rfl (by kernel_rfl) (by kernel_rfl) (want_none) rfl (fun _ ⟨hL_l, c302⟩ => q_ldElemAgg (cs := (eA (gi l i_1))) ta_28 hL_l rfl ho_1 rfl) ?_
  refine HA.val (k := 4) (v := .agg (eA a).toArray) rfl rfl (by kernel_rfl) (by kernel_rfl) (want_none) rfl (fun _ ⟨hL_l, c302⟩ => q_loadAgg (cs := (eA a)) ta_28 rfl rfl (Blk.cells (k := 17) c302 rfl)) ?_
  refine HA.val (k := 5) (v := .bool (decide (((gi l i_1) : TA) = a))) rfl rfl (by kernel_rfl) (by kernel_rfl) (want_none) rfl (fun _ ⟨hL_l, c302⟩ => q_eqlAgg (a := (gi l i_1)) (b := a) (fun a b w => teq_28 9997 a b w) (by kernel_rfl) rfl rfl rfl rfl) ?_
  refine HA.nil ⟨⟨hL_l.is, (hS.box 0 rfl)⟩, (Go.Wk.at_nil _ _)⟩ (by kernel_rfl) (thenQ_normal (?_))
  refine HW.cond (decide (((gi l i_1) : TA) = a)) rfl (fun c_2 => ?_) (fun c_2 => ?_)
  ·
   replace hM := hM.1 (of_decide_eq_true c_2)
   refine HW.seq ?_
   refine HW.region ?_
   refine oA (.bool true) rfl rfl ?_
   refine HO.nil (thenQ_normal (?_))
   refine HW.ret (blockQ_ret (thenQ_ret (thenQ_ret (blockQ_ret (thenQ_ret (?_))))))
   refine ⟨.inr rfl, .bool true, res1 rfl (rt rfl), ?_⟩
   replace hS : St F_1 (fr) h_2 := hS.perm2 [] 1 rfl rfl
   exact ⟨F_1, true, rfl, hK, hS, hL_l, hM⟩
  ·
   replace hM := hM.2 (of_decide_eq_false c_2)
   refine HW.skip (blockQ_normal (thenQ_normal (?_)))
   refine HW.region ?_
   refine oM (.int .i64 i_1) rfl rfl ?_
   obtain ⟨ho_2, hM⟩ := hM
   refine oV (.int .i64 (i_1 + 1)) (q_addN _ rfl rfl rfl ho_2.1 ho_2.2) rfl ?_
   refine oA (.int .i64 (i_1 + 1)) rfl rfl ?_
   refine HO.nil (thenQ_normal (?_))
   rw [hKe_1] at hM
   exact ⟨i_1 + 1, ⟨F_1, rfl, rfl, rfl, rfl, hK, hS, hL_l, hM.1⟩, hM.2⟩
 ·
  replace hM := hM.2 (of_decide_eq_false c_1)
  refine HW.exit (thenQ_exit (thenQ_exit (blockQ_exit (thenQ_normal (?_)))))
  refine HW.seq ?_
  refine HW.region ?_
  refine oA (.bool false) rfl rfl ?_
  refine HO.nil (thenQ_normal (?_))
  refine HW.ret (?_)
  refine ⟨.inr rfl, .bool false, res1 rfl (rt rfl), ?_⟩
  replace hS : St F_1 (fr) h_2 := hS.perm2 [] 1 rfl rfl
  exact ⟨F_1, false, rfl, hK, hS, hL_l, hM⟩
def ref03_Good_l1 (a : TA) (Q : Bool → Prop) (K_1 : Int → Prop) (i_1 : Int) : Prop :=
 (i_1 < 16 → ((!a.1) = true → ((0 : Int) ≤ i_1 ∧ i_1 < 16) ∧ ((¬ ((b8 a.2 i_1) = 0) → Q false) ∧ ((b8 a.2 i_1) = 0 → (I64 (i_1 + 1)) ∧ (K_1 (i_1 + 1))))) ∧ ((!a.1) = false → (I64 (i_1 + 1)) ∧ (K_1 (i_1 + 1)))) ∧ (¬ (i_1 < 16) → Q true)
def ref03_Good_W (a : TA) (Q : Bool → Prop) : Prop :=
 loopW (fun (K_1 : Int → Prop) (s : Int) => ref03_Good_l1 a Q K_1 s) 4
theorem ref03_Good_walk {F : Fz} {fr : List Ow} {h0 : Heap} (a : TA) (hS : St F (fr) h0)  {Q : Bool → Prop} (hM : ref03_Good_W a Q) :
  HC Tryz.prog 86 #[.agg (eA a).toArray] h0 fun u h' => ∃ (F' : Fz) (r_1 : Bool), u = .bool r_1 ∧ Kp F h0 F' h' ∧ St F' (fr) h' ∧ Q r_1 := by
 unfold ref03_Good_W at hM
 have hK := Kp.refl F h0
 refine HC.of_HW (n := 18) Tryz.func86 rfl rfl (Nat.le_of_ble_eq_true rfl) ?_
 refine HW.seq ?_
 refine HW.region ?_
 refine HO.eff (want_none) rfl (st_box (c := (eA a).toArray) (k' := 17) hS rfl rfl) ?_
 rintro _ h_1 ⟨b_1, rfl, hS, hk⟩
 replace hK := hK.trans hk
 refine oA (.bool false) rfl rfl ?_
 refine HO.nil (thenQ_normal (?_))
 refine HW.seq ?_
 refine HW.seq ?_
 refine HW.region ?_
 refine oA (.int .i64 4) rfl rfl ?_
 refine HO.nil (thenQ_normal (?_))
 refine HW.block ?_
 obtain ⟨I_1, m_1, hI_1, hR_1⟩ := hM
 refine HW.loop (S := Int) (fun i_1 f h => ∃ (F' : Fz), f 1 = .pointer (some ⟨b_1, 0, none⟩) ∧ f 2 = .bool false ∧ f 3 = .int .i64 i_1 ∧ Kp F h0 F' h ∧ St F' (Ow.box b_1 28 (eA a).toArray :: fr) h ∧ I_1 i_1) m_1 4 ⟨F, rfl, rfl, rfl, hK, hS, hI_1⟩ ?_
 rintro i_1 f_1 h_2 ⟨F_1, e1, e2, e3, hK, hS, hI0⟩
 obtain ⟨K_1, hKe_1⟩ : ∃ K : Int → Prop, K = fun i_1' => I_1 i_1' ∧ m_1 i_1' < m_1 i_1 := ⟨_, rfl⟩
 have hM : ref03_Good_l1 a Q K_1 i_1 := by rw [hKe_1]; exact hR_1 i_1 hI0
 unfold ref03_Good_l1 at hM
 refine HW.fr [(1, .pointer (some ⟨b_1, 0, none⟩)), (2, .bool false), (3, .int .i64 i_1)] ⟨e1, e2, e3, trivial⟩ ?_
 refine HW.seq ?_
 refine HW.seq ?_
 refine HW.region ?_
 refine oM (.int .i64 i_1) rfl rfl ?_
 refine oV (.bool (decide (i_1 < 16))) (q_lss rfl rfl) rfl ?_
 refine HO.nil (thenQ_normal (?_))
 refine HW.cond (decide (i_1 < 16)) rfl (fun c_1 => ?_) (fun c_1 => ?_)
 ·
  replace hM := hM.1 (of_decide_eq_true c_1)
  refine HW.skip (thenQ_normal (?_))
  refine HW.seq ?_
  refine HW.block ?_
  refine HW.seq ?_
  refine HW.region ?_
  refine oV (.pointer (some ⟨b_1, 0, none⟩)) (q_fieldAddr fa_28_0 rfl rfl) rfl ?_
  refine oV (.bool a.1) (q_load to_4 rfl (Blk.cell (hS.box 0 rfl) rfl)) rfl ?_
  refine oV (.bool (!a.1)) (q_not rfl) rfl ?_
  refine oM (.bool (!a.1)) rfl rfl ?_
  rcases Bool.eq_false_or_eq_true (!a.1) with c_2 | c_2
  ·
   replace hM := hM.1 c_2
   refine HO.val (v := .int .i64 i_1) (want_by rfl rfl c_2) rfl (q_move rfl) ?_
   refine HO.val (v := .pointer (some ⟨b_1, 1, none⟩)) (want_by rfl rfl c_2) rfl (q_fieldAddr fa_28_1 rfl rfl) ?_
   obtain ⟨ho_1, hM⟩ := hM
   refine HO.val (v := .pointer (some ⟨b_1, 1 + (i_1).toNat, none⟩)) (want_by rfl rfl c_2) rfl (q_idxA (o := 1) (t := i_1) tr_26 rfl rfl ho_1) ?_
   refine HO.val (v := .int .u8 (b8 a.2 i_1)) (want_by rfl rfl c_2) rfl (q_ldArr (o := 1) (t := i_1) (X := a.2) to_5 rfl (hS.box 0 rfl) rfl ho_1) ?_
   refine HO.val (v := .bool (!decide ((b8 a.2 i_1) = 0))) (want_by rfl rfl c_2) rfl (q_neq rfl rfl) ?_
   refine oV (.bool (!decide ((b8 a.2 i_1) = 0))) (q_pickK true rfl c_2 rfl) rfl ?_
   refine HO.nil (thenQ_normal (?_))
   refine HW.cond (!decide ((b8 a.2 i_1) = 0)) rfl (fun c_3 => ?_) (fun c_3 => ?_)
   ·
    replace hM := hM.1 (nd_true c_3)
    refine HW.seq ?_
    refine HW.region ?_
    refine oA (.bool false) rfl rfl ?_
    refine HO.nil (thenQ_normal (?_))
    refine HW.ret (blockQ_ret (thenQ_ret (thenQ_ret (blockQ_ret (thenQ_ret (?_))))))
    refine ⟨.inr rfl, .bool false, res1 rfl (rt rfl), ?_⟩
    replace hS : St F_1 (fr) h_2 := hS.perm2 [] 1 rfl rfl
    exact ⟨F_1, false, rfl, hK, hS, hM⟩
   ·
    replace hM := hM.2 (nd_false c_3)
    refine HW.skip (blockQ_normal (thenQ_normal (?_)))
    refine HW.region ?_
    refine oM (.int .i64 i_1) rfl rfl ?_
    obtain ⟨ho_2, hM⟩ := hM
    refine oV (.int .i64 (i_1 + 1)) (q_addN _ rfl rfl rfl ho_2.1 ho_2.2) rfl ?_
    refine oA (.int .i64 (i_1 + 1)) rfl rfl ?_
    refine HO.nil (thenQ_normal (?_))
    rw [hKe_1] at hM
    exact ⟨i_1 + 1, ⟨F_1, rfl, rfl, rfl, hK, hS, hM.1⟩, hM.2⟩
  ·
   replace hM := hM.2 c_2
   refine HO.past (past_by rfl rfl c_2) rfl ?_
   refine HO.past (past_by rfl rfl c_2) rfl ?_
   refine HO.past (past_by rfl rfl c_2) rfl ?_
   refine HO.past (past_by rfl rfl c_2) rfl ?_
   refine HO.past (past_by rfl rfl c_2) rfl ?_
   refine oV (.bool false) (q_pickK false rfl c_2 rfl) rfl ?_
   refine HO.nil (thenQ_normal (?_))
   refine HW.condF rfl ?_
   refine HW.skip (blockQ_normal (thenQ_normal (?_)))
   refine HW.region ?_
   refine oM (.int .i64 i_1) rfl rfl ?_
   obtain ⟨ho_3, hM⟩ := hM
   refine oV (.int .i64 (i_1 + 1)) (q_addN _ rfl rfl rfl ho_3.1 ho_3.2) rfl ?_
   refine oA (.int .i64 (i_1 + 1)) rfl rfl ?_
   refine HO.nil (thenQ_normal (?_))
   rw [hKe_1] at hM
   exact ⟨i_1 + 1, ⟨F_1, rfl, rfl, rfl, hK, hS, hM.1⟩, hM.2⟩
 ·
  replace hM := hM.2 (of_decide_eq_false c_1)
  refine HW.exit (thenQ_exit (thenQ_exit (blockQ_exit (thenQ_normal (?_)))))
  refine HW.seq ?_
  refine HW.region ?_
  refine oA (.bool true) rfl rfl ?_
  refine HO.nil (thenQ_normal (?_))
  refine HW.ret (?_)
  refine ⟨.inr rfl, .bool true, res1 rfl (rt rfl), ?_⟩
  replace hS : St F_1 (fr) h_2 := hS.perm2 [] 1 rfl rfl
  exact ⟨F_1, true, rfl, hK, hS, hM⟩
def ref03_Cmp_j1 (a : TA) (b : TA) (Q : Int → Prop) (i_1 : Int) (K_1 : Int → Prop) : Prop :=
 ((0 : Int) ≤ i_1 ∧ i_1 < 16) ∧ (((b8 a.2 i_1) < (b8 b.2 i_1) → Q (-1)) ∧ (¬ ((b8 a.2 i_1) < (b8 b.2 i_1)) → ((b8 b.2 i_1) < (b8 a.2 i_1) → Q 1) ∧ (¬ ((b8 b.2 i_1) < (b8 a.2 i_1)) → (I64 (i_1 + 1)) ∧ (K_1 (i_1 + 1)))))
def ref03_Cmp_l1 (a : TA) (b : TA) (Q : Int → Prop) (K_1 : Int → Prop) (i_1 : Int) : Prop :=
 (i_1 < 16 → (a.1 = true → ref03_Cmp_j1 a b Q i_1 K_1) ∧ (a.1 = false → (i_1 < 4 → ref03_Cmp_j1 a b Q i_1 K_1) ∧ (¬ (i_1 < 4) → Q 0))) ∧ (¬ (i_1 < 16) → Q 0)
def ref03_Cmp_W (a : TA) (b : TA) (Q : Int → Prop) : Prop :=
 ((!(a.1 == b.1)) = true → (b.1 = true → Q (-1)) ∧ (b.1 = false → Q 1)) ∧ ((!(a.1 == b.1)) = false → loopW (fun (K_1 : Int → Prop) (s : Int) => ref03_Cmp_l1 a b Q K_1 s) 0)
theorem ref03_Cmp_walk {F : Fz} {fr : List Ow} {h0 : Heap} (a : TA) (b : TA) (hS : St F (fr) h0)  {Q : Int → Prop} (hM : ref03_Cmp_W a b Q) :
  HC Tryz.prog 100 #[.agg (eA a).toArray, .agg (eA b).toArray] h0 fun u h' => ∃ (F' : Fz) (r_1 : Int), u = .int .i64 r_1 ∧ Kp F h0 F' h' ∧ St F' (fr) h' ∧ Q r_1 := by
 unfold ref03_Cmp_W at hM
 have hK := Kp.refl F h0
 refine HC.of_HW (n := 43) Tryz.func100 rfl rfl (Nat.le_of_ble_eq_true rfl) ?_
 refine HW.seq ?_
 refine HW.region ?_
 refine HO.eff (want_none) rfl (st_box (c := (eA a).toArray) (k' := 17) hS rfl rfl) ?_
 rintro _ h_1 ⟨b_1, rfl, hS, hk⟩
 replace hK := hK.trans hk
 refine HO.eff (want_none) rfl (st_box (c := (eA b).toArray) (k' := 17) hS rfl rfl) ?_
 rintro _ h_2 ⟨b_2, rfl, hS, hk⟩
 replace hK := hK.trans hk
 refine oA (.int .i64 0) rfl rfl ?_
 refine HO.nil (thenQ_normal (?_))
 refine HW.seq ?_
 refine HW.seq ?_
 refine HW.region ?_
 refine oV (.pointer (some ⟨b_1, 0, none⟩)) (q_fieldAddr fa_28_0 rfl rfl) rfl ?_
 refine oV (.bool a.1) (q_load to_4 rfl (Blk.cell (hS.box 1 rfl) rfl)) rfl ?_
 refine oV (.pointer (some ⟨b_2, 0, none⟩)) (q_fieldAddr fa_28_0 rfl rfl) rfl ?_
 refine oV (.bool b.1) (q_load to_4 rfl (Blk.cell (hS.box 0 rfl) rfl)) rfl ?_
 refine oV (.bool (!(a.1 == b.1))) (q_neqB Tryz.underlying4 rfl rfl) rfl ?_
 refine HO.nil (thenQ_normal (?_))
 refine HW.cond (!(a.1 == b.1)) rfl (fun c_1 => ?_) (fun c_1 => ?_)
 ·
  replace hM := hM.1 c_1
  refine HW.seq ?_
  refine HW.seq ?_
  refine HW.region ?_
  refine oV (.pointer (some ⟨b_2, 0, none⟩)) (q_fieldAddr fa_28_0 rfl rfl) rfl ?_
  refine oV (.bool b.1) (q_load to_4 rfl (Blk.cell (hS.box 0 rfl) rfl)) rfl ?_
  refine HO.nil (thenQ_normal (?_))
  refine HW.cond b.1 rfl (fun c_2 => ?_) (fun c_2 => ?_)
  ·
   replace hM := hM.1 c_2
   refine HW.seq ?_
   refine HW.region ?_
   refine oA (.int .i64 (-1)) rfl rfl ?_
   refine HO.nil (thenQ_normal (?_))
   refine HW.ret (thenQ_ret (thenQ_ret (?_)))
   refine ⟨.inr rfl, .int .i64 (-1), res1 rfl (rt rfl), ?_⟩
   replace hS : St F (fr) h_2 := hS.perm2 [] 2 rfl rfl
   exact ⟨F, (-1), rfl, hK, hS, hM⟩
  ·
   replace hM := hM.2 c_2
   refine HW.skip (thenQ_normal (?_))
   refine HW.seq ?_
   refine HW.region ?_
   refine oA (.int .i64 1) rfl rfl ?_
   refine HO.nil (thenQ_normal (?_))
   refine HW.ret (thenQ_ret (?_))
   refine ⟨.inr rfl, .int .i64 1, res1 rfl (rt rfl), ?_⟩
   replace hS : St F (fr) h_2 := hS.perm2 [] 2 rfl rfl
   exact ⟨F, 1, rfl, hK, hS, hM⟩
 ·
  replace hM := hM.2 c_1
  refine HW.skip (thenQ_normal (?_))
  refine HW.seq ?_
  refine HW.seq ?_
  refine HW.region ?_
  refine oA (.int .i64 0) rfl rfl ?_
  refine HO.nil (thenQ_normal (?_))
  refine HW.block ?_
  obtain ⟨I_1, m_1, hI_1, hR_1⟩ := hM
  replace hS : St F (Ow.box b_1 28 (eA a).toArray :: Ow.box b_2 28 (eA b).toArray :: fr) h_2 := hS.perm2 [1, 0] 2 rfl rfl
  refine HW.loop (S := Int) (fun i_1 f h => ∃ (F' : Fz), f 2 = .pointer (some ⟨b_1, 0, none⟩) ∧ f 3 = .pointer (some ⟨b_2, 0, none⟩) ∧ f 4 = .int .i64 0 ∧ f 5 = .int .i64 i_1 ∧ Kp F h0 F' h ∧ St F' (Ow.box b_1 28 (eA a).toArray :: Ow.box b_2 28 (eA b).toArray :: fr) h ∧ I_1 i_1) m_1 0 ⟨F, rfl, rfl, rfl, rfl, hK, hS, hI_1⟩ ?_
  rintro i_1 f_1 h_3 ⟨F_1, e2, e3, e4, e5, hK, hS, hI0⟩
  obtain ⟨K_1, hKe_1⟩ : ∃ K : Int → Prop, K = fun i_1' => I_1 i_1' ∧ m_1 i_1' < m_1 i_1 := ⟨_, rfl⟩
  have hM : ref03_Cmp_l1 a b Q K_1 i_1 := by rw [hKe_1]; exact hR_1 i_1 hI0
  unfold ref03_Cmp_l1 at hM
  refine HW.fr [(2, .pointer (some ⟨b_1, 0, none⟩)), (3, .pointer (some ⟨b_2, 0, none⟩)), (4, .int .i64 0), (5, .int .i64 i_1)] ⟨e2, e3, e4, e5, trivial⟩ ?_
  refine HW.seq_mid (fun f h => ∃ (F' : Fz), f 2 = .pointer (some ⟨b_1, 0, none⟩) ∧ f 3 = .pointer (some ⟨b_2, 0, none⟩) ∧ f 4 = .int .i64 0 ∧ f 5 = .int .i64 i_1 ∧ Kp F h0 F' h ∧ St F' (Ow.box b_1 28 (eA a).toArray :: Ow.box b_2 28 (eA b).toArray :: fr) h ∧ ref03_Cmp_j1 a b Q i_1 K_1) ?_ ?_
  ·
   refine HW.seq ?_
   refine HW.region ?_
   refine oM (.int .i64 i_1) rfl rfl ?_
   refine oV (.bool (decide (i_1 < 16))) (q_lss rfl rfl) rfl ?_
   refine oM (.bool (decide (i_1 < 16))) rfl rfl ?_
   rcases Bool.eq_false_or_eq_true (decide (i_1 < 16)) with c_3 | c_3
   ·
    replace hM := hM.1 (of_decide_eq_true c_3)
    refine HO.val (v := .pointer (some ⟨b_1, 0, none⟩)) (want_by rfl rfl c_3) rfl (q_fieldAddr fa_28_0 rfl rfl) ?_
    refine HO.val (v := .bool a.1) (want_by rfl rfl c_3) rfl (q_load to_4 rfl (Blk.cell (hS.box 0 rfl) rfl)) ?_
    refine HO.val (v := .bool a.1) (want_by rfl rfl c_3) rfl (q_move rfl) ?_
    rcases Bool.eq_false_or_eq_true a.1 with c_4 | c_4
    ·
     replace hM := hM.1 c_4
     refine HO.past (past_by rfl rfl c_4) rfl ?_
     refine HO.past (past_by rfl rfl c_4) rfl ?_
     refine HO.val (v := .bool true) (want_by rfl rfl c_3) rfl (q_pickK true rfl c_4 rfl) ?_
     refine oV (.bool true) (q_pickK true rfl c_3 rfl) rfl ?_
     refine HO.nil (thenQ_normal (?_))
     refine HW.condT rfl ?_
     refine HW.skip (thenQ_normal (?_))
     exact ⟨F_1, rfl, rfl, rfl, rfl, hK, hS, hM⟩
    ·
     replace hM := hM.2 c_4
     refine HO.val (v := .int .i64 i_1) (want_by rfl rfl c_4) rfl (q_move rfl) ?_
     refine HO.val (v := .bool (decide (i_1 < 4))) (want_by rfl rfl c_4) rfl (q_lss rfl rfl) ?_
     refine HO.val (v := .bool (decide (i_1 < 4))) (want_by rfl rfl c_3) rfl (q_pickK false rfl c_4 rfl) ?_
     refine oV (.bool (decide (i_1 < 4))) (q_pickK true rfl c_3 rfl) rfl ?_
     refine HO.nil (thenQ_normal (?_))
     refine HW.cond (decide (i_1 < 4)) rfl (fun c_5 => ?_) (fun c_5 => ?_)
     ·
      replace hM := hM.1 (of_decide_eq_true c_5)
      refine HW.skip (thenQ_normal (?_))
      exact ⟨F_1, rfl, rfl, rfl, rfl, hK, hS, hM⟩
     ·
      replace hM := hM.2 (of_decide_eq_false c_5)
      refine HW.exit (thenQ_exit (thenQ_exit (blockQ_exit (thenQ_normal (?_)))))
      refine HW.seq ?_
      refine HW.region ?_
      refine oA (.int .i64 0) rfl rfl ?_
      refine HO.nil (thenQ_normal (?_))
      refine HW.ret (?_)
      refine ⟨.inr rfl, .int .i64 0, res1 rfl (rt rfl), ?_⟩
      replace hS : St F_1 (fr) h_3 := hS.perm2 [] 2 rfl rfl
      exact ⟨F_1, 0, rfl, hK, hS, hM⟩
   ·
    replace hM := hM.2 (of_decide_eq_false c_3)
    refine HO.past (past_by rfl rfl c_3) rfl ?_
    refine HO.past (past_by rfl rfl c_3) rfl ?_
    refine HO.past (past_by rfl rfl c_3) rfl ?_
    refine HO.past (past_undef rfl rfl) rfl ?_
    refine HO.past (past_undef rfl rfl) rfl ?_
    refine HO.past (past_by rfl rfl c_3) rfl ?_
    refine oV (.bool false) (q_pickK false rfl c_3 rfl) rfl ?_
    refine HO.nil (thenQ_normal (?_))
    refine HW.condF rfl ?_
    refine HW.exit (thenQ_exit (thenQ_exit (blockQ_exit (thenQ_normal (?_)))))
    refine HW.seq ?_
    refine HW.region ?_
    refine oA (.int .i64 0) rfl rfl ?_
    refine HO.nil (thenQ_normal (?_))
    refine HW.ret (?_)
    refine ⟨.inr rfl, .int .i64 0, res1 rfl (rt rfl), ?_⟩
    replace hS : St F_1 (fr) h_3 := hS.perm2 [] 2 rfl rfl
    exact ⟨F_1, 0, rfl, hK, hS, hM⟩
  ·
   rintro f_2 h_4 ⟨F_2, e2, e3, e4, e5, hK, hS, hM⟩
   unfold ref03_Cmp_j1 at hM
   refine HW.fr [(2, .pointer (some ⟨b_1, 0, none⟩)), (3, .pointer (some ⟨b_2, 0, none⟩)), (4, .int .i64 0), (5, .int .i64 i_1)] ⟨e2, e3, e4, e5, trivial⟩ ?_
   refine HW.seq ?_
   refine HW.block ?_
   refine HW.seq ?_
   refine HW.seq ?_
   refine HW.regionA 9 mixed (fun h => (Blk h b_1 (.cells (eA a).toArray 28 (0, 0))) ∧ (Blk h b_2 (.cells (eA b).toArray 28 (0, 0)))) [] (by kernel_rfl) ?_
   refine HA.val (k := 0) (v := .int .i64 i_1) rfl rfl (by kernel_rfl) (by kernel_rfl) (want_none) rfl (fun _ ⟨c305, c306⟩ => q_move rfl) ?_
   refine HA.val (k := 1) (v := .pointer (some ⟨b_1, 1, none⟩)) rfl rfl (by kernel_rfl) (by kernel_rfl) (want_none) rfl (fun _ ⟨c305, c306⟩ => q_fieldAddr fa_28_1 rfl rfl) ?_
   obtain ⟨ho_1, hM⟩ := hM
   refine HA.val (k := 2) (v := .pointer (some ⟨b_1, 1 + (i_1).toNat, none⟩)) rfl rfl (by kernel_rfl) (by kernel_rfl) (want_none) rfl (fun _ ⟨c305, c306⟩ => q_idxA (o := 1) (t := i_1) tr_26 rfl rfl ho_1) ?_
   refine HA.val (k := 3) (v := .int .u8 (b8 a.2 i_1)) rfl rfl (by kernel_rfl) (by kernel_rfl) (want_none) rfl (fun _ ⟨c305, c306⟩ => q_ldArr (o := 1) (t := i_1) (X := a.2) to_5 rfl c305 rfl ho_1) ?_
   refine HA.val (k := 4) (v := .int .i64 i_1) rfl rfl (by kernel_rfl) (by kernel_rfl) (want_none) rfl (fun _ ⟨c305, c306⟩ => q_move rfl) ?_
   refine HA.val (k := 5) (v := .pointer (some ⟨b_2, 1, none⟩)) rfl rfl (by kernel_rfl) (by kernel_rfl) (want_none) rfl (fun _ ⟨c305, c306⟩ => q_fieldAddr fa_28_1 rfl rfl) ?_
   refine HA.val (k := 6) (v := .pointer (some ⟨b_2, 1 + (i_1).toNat, none⟩)) rfl rfl (by kernel_rfl) (by kernel_rfl) (want_none) rfl (fun _ ⟨c305, c306⟩ => q_idxA (o := 1) (t := i_1) tr_26 rfl rfl ho_1) ?_
   refine HA.val (k := 7) (v := .int .u8 (b8 b.2 i_1)) rfl rfl (by kernel_rfl) (by kernel_rfl) (want_none) rfl (fun _ ⟨c305, c306⟩ => q_ldArr (o := 1) (t := i_1) (X := b.2) to_5 rfl c306 rfl ho_1) ?_
   refine HA.val (k := 8) (v := .bool (decide ((b8 a.2 i_1) < (b8 b.2 i_1)))) rfl rfl (by kernel_rfl) (by kernel_rfl) (want_none) rfl (fun _ ⟨c305, c306⟩ => q_lss rfl rfl) ?_
   refine HA.nil ⟨⟨(hS.box 0 rfl), (hS.box 1 rfl)⟩, (Go.Wk.at_nil _ _)⟩ (by kernel_rfl) (thenQ_normal (?_))
   refine HW.cond (decide ((b8 a.2 i_1) < (b8 b.2 i_1))) rfl (fun c_6 => ?_) (fun c_6 => ?_)
   ·
    replace hM := hM.1 (of_decide_eq_true c_6)
    refine HW.seq ?_
    refine HW.region ?_
    refine oA (.int .i64 (-1)) rfl rfl ?_
    refine HO.nil (thenQ_normal (?_))
    refine HW.ret (thenQ_ret (blockQ_ret (thenQ_ret (thenQ_ret (blockQ_ret (thenQ_ret (?_)))))))
    refine ⟨.inr rfl, .int .i64 (-1), res1 rfl (rt rfl), ?_⟩
    replace hS : St F_2 (fr) h_4 := hS.perm2 [] 2 rfl rfl
    exact ⟨F_2, (-1), rfl, hK, hS, hM⟩
   ·
    replace hM := hM.2 (of_decide_eq_false c_6)
    refine HW.skip (thenQ_normal (?_))
    refine HW.seq ?_
    refine HW.regionA 9 mixed (fun h => (Blk h b_1 (.cells (eA a).toArray 28 (0, 0))) ∧ (Blk h b_2 (.cells (eA b).toArray 28 (0, 0)))) [] (by kernel_rfl) ?_
    refine HA.val (k := 0) (v := .int .i64 i_1) rfl rfl (by kernel_rfl) (by kernel_rfl) (want_none) rfl (fun _ ⟨c305, c306⟩ => q_move rfl) ?_
    refine HA.val (k := 1) (v := .pointer (some ⟨b_1, 1, none⟩)) rfl rfl (by kernel_rfl) (by kernel_rfl) (want_none) rfl (fun _ ⟨c305, c306⟩ => q_fieldAddr fa_28_1 rfl rfl) ?_
    refine HA.val (k := 2) (v := .pointer (some ⟨b_1, 1 + (i_1).toNat, none⟩)) rfl rfl (by kernel_rfl) (by kernel_rfl) (want_none) rfl (fun _ ⟨c305, c306⟩ => q_idxA (o := 1) (t := i_1) tr_26 rfl rfl ho_1) ?_
    refine HA.val (k := 3) (v := .int .u8 (b8 a.2 i_1)) rfl rfl (by kernel_rfl) (by kernel_rfl) (want_none) rfl (fun _ ⟨c305, c306⟩ => q_ldArr (o := 1) (t := i_1) (X := a.2) to_5 rfl c305 rfl ho_1) ?_
    refine HA.val (k := 4) (v := .int .i64 i_1) rfl rfl (by kernel_rfl) (by kernel_rfl) (want_none) rfl (fun _ ⟨c305, c306⟩ => q_move rfl) ?_
    refine HA.val (k := 5) (v := .pointer (some ⟨b_2, 1, none⟩)) rfl rfl (by kernel_rfl) (by kernel_rfl) (want_none) rfl (fun _ ⟨c305, c306⟩ => q_fieldAddr fa_28_1 rfl rfl) ?_
    refine HA.val (k := 6) (v := .pointer (some ⟨b_2, 1 + (i_1).toNat, none⟩)) rfl rfl (by kernel_rfl) (by kernel_rfl) (want_none) rfl (fun _ ⟨c305, c306⟩ => q_idxA (o := 1) (t := i_1) tr_26 rfl rfl ho_1) ?_
    refine HA.val (k := 7) (v := .int .u8 (b8 b.2 i_1)) rfl rfl (by kernel_rfl) (by kernel_rfl) (want_none) rfl (fun _ ⟨c305, c306⟩ => q_ldArr (o := 1) (t := i_1) (X := b.2) to_5 rfl c306 rfl ho_1) ?_
    refine HA.val (k := 8) (v := .bool (decide ((b8 b.2 i_1) < (b8 a.2 i_1)))) rfl rfl (by kernel_rfl) (by kernel_rfl) (want_none) rfl (fun _ ⟨c305, c306⟩ => q_gtr rfl rfl) ?_
    refine HA.nil ⟨⟨(hS.box 0 rfl), (hS.box 1 rfl)⟩, (Go.Wk.at_nil _ _)⟩ (by kernel_rfl) (thenQ_normal (?_))
    refine HW.cond (decide ((b8 b.2 i_1) < (b8 a.2 i_1))) rfl (fun c_7 => ?_) (fun c_7 => ?_)
    ·
     replace hM := hM.1 (of_decide_eq_true c_7)
     refine HW.seq ?_
     refine HW.region ?_
     refine oA (.int .i64 1) rfl rfl ?_
     refine HO.nil (thenQ_normal (?_))
     refine HW.ret (blockQ_ret (thenQ_ret (thenQ_ret (blockQ_ret (thenQ_ret (?_))))))
     refine ⟨.inr rfl, .int .i64 1, res1 rfl (rt rfl), ?_⟩
     replace hS : St F_2 (fr) h_4 := hS.perm2 [] 2 rfl rfl
     exact ⟨F_2, 1, rfl, hK, hS, hM⟩
    ·
     replace hM := hM.2 (of_decide_eq_false c_7)
     refine HW.skip (blockQ_normal (thenQ_normal (?_)))
     refine HW.region ?_
     refine oM (.int .i64 i_1) rfl rfl ?_
     obtain ⟨ho_2, hM⟩ := hM
     refine oV (.int .i64 (i_1 + 1)) (q_addN _ rfl rfl rfl ho_2.1 ho_2.2) rfl ?_
     refine oA (.int .i64 (i_1 + 1)) rfl rfl ?_
     refine HO.nil (thenQ_normal (?_))
     rw [hKe_1] at hM
     exact ⟨i_1 + 1, ⟨F_2, rfl, rfl, rfl, rfl, hK, hS, hM.1⟩, hM.2⟩
def ref11_Add_j2 (l : List TA) (a : TA) (Q : (List TA) → Prop) (n_1 : Int) : Prop :=
 ((0 : Int) ≤ n_1 ∧ n_1 ≤ (l.length : Int)) ∧ (((([] : List TA).length + (cut l 0 n_1).length) * 17 ≤ 140737488355328) ∧ ((((([] : List TA) ++ (cut l 0 n_1)).length + ([a] : List TA).length) * 17 ≤ 140737488355328) ∧ (((((([] : List TA) ++ (cut l 0 n_1)) ++ ([a] : List TA)).length + (cut l n_1 (l.length : Int)).length) * 17 ≤ 140737488355328) ∧ (Q (((([] : List TA) ++ (cut l 0 n_1)) ++ ([a] : List TA)) ++ (cut l n_1 (l.length : Int)))))))
def ref11_Add_l1 (l : List TA) (a : TA) (Q : (List TA) → Prop) (K_1 : Int → Prop) (n_2 : Int) : Prop :=
 (n_2 < (l.length : Int) → ((0 : Int) ≤ n_2 ∧ n_2 < (l.length : Int)) ∧ (ref03_Cmp_W (gi l n_2) a (fun r_4 => (r_4 < 0 → (I64 (n_2 + 1)) ∧ (K_1 (n_2 + 1))) ∧ (¬ (r_4 < 0) → ref11_Add_j2 l a Q n_2)))) ∧ (¬ (n_2 < (l.length : Int)) → ref11_Add_j2 l a Q n_2)
def ref11_Add_j1 (l : List TA) (a : TA) (Q : (List TA) → Prop) (b_2 : Bool) : Prop :=
 (b_2 = true → Q l) ∧ (b_2 = false → loopW (fun (K_1 : Int → Prop) (s : Int) => ref11_Add_l1 l a Q K_1 s) 0)
def ref11_Add_W (l : List TA) (a : TA) (Q : (List TA) → Prop) : Prop :=
 ref11_Has_W l a (fun r_2 => (r_2 = true → ref11_Add_j1 l a Q true) ∧ (r_2 = false → ref03_Good_W a (fun r_3 => ref11_Add_j1 l a Q (!r_3))))
theorem ref11_Add_walk {F : Fz} {fr : List Ow} {h0 : Heap} (l : List TA) (a : TA) (vl : Value) (hS : St F (fr) h0) (hL_l : SliceF F h0 17 eA vl l) {Q : (List TA) → Prop} (hM : ref11_Add_W l a Q) :
  HC Tryz.prog 184 #[vl, .agg (eA a).toArray] h0 fun u h' => ∃ (F' : Fz) (r_1 : List TA) (vr_1 : Value), u = vr_1 ∧ Kp F h0 F' h' ∧ St F' (fr) h' ∧ (SliceF F' h' 17 eA vl l) ∧ (SliceF F' h' 17 eA vr_1 r_1) ∧ Q r_1 := by
 unfold ref11_Add_W at hM
 have hK := Kp.refl F h0
 refine HC.of_HW (n := 42) Tryz.func184 rfl rfl (Nat.le_of_ble_eq_true rfl) ?_
 refine HW.seq ?_
 refine HW.region ?_
 refine HO.eff (want_none) rfl (st_box (c := (eA a).toArray) (k' := 17) hS rfl rfl) ?_
 rintro _ h_1 ⟨b_1, rfl, hS, hk⟩
 replace hK := hK.trans hk
 replace hL_l := hL_l.kp hk
 refine oA (.slice none 0 0) rfl rfl ?_
 refine HO.nil (thenQ_normal (?_))
 refine HW.seq ?_
 refine HW.seq_mid (fun f h => ∃ (F' : Fz) (b_2 : Bool), f 0 = vl ∧ f 3 = .pointer (some ⟨b_1, 0, none⟩) ∧ f 4 = .slice none 0 0 ∧ f 13 = .bool b_2 ∧ Kp F h0 F' h ∧ St F' (Ow.box b_1 28 (eA a).toArray :: fr) h ∧ (SliceF F' h 17 eA vl l) ∧ ref11_Add_j1 l a Q b_2) ?_ ?_
 ·
  refine HW.region ?_
  refine oM (vl) rfl rfl ?_
  refine oV (.agg (eA a).toArray) (q_loadAgg (cs := (eA a)) ta_28 rfl rfl (Blk.cells (k := 17) (hS.box 0 rfl) rfl)) rfl ?_
  refine HO.call (want_none) rfl (ec en_95 rfl rfl) (ref11_Has_walk (fr := (Ow.box b_1 28 (eA a).toArray :: fr)) l a vl hS hL_l hM) ?_
  rintro _ h_2 ⟨F_1, r_2, rfl, hk, hS, _, hM⟩
  replace hK := hK.trans hk
  replace hL_l := hL_l.kp hk
  refine oM (.bool r_2) rfl rfl ?_
  rcases Bool.eq_false_or_eq_true r_2 with c_1 | c_1
  ·
   replace hM := hM.1 c_1
   refine HO.past (past_by rfl rfl c_1) rfl ?_
   refine HO.past (past_by rfl rfl c_1) rfl ?_
   refine HO.past (past_by rfl rfl c_1) rfl ?_
   refine oV (.bool true) (q_pickK true rfl c_1 rfl) rfl ?_
   refine HO.nil (thenQ_normal (?_))
   exact ⟨F_1, true, rfl, rfl, rfl, rfl, hK, hS, hL_l, hM⟩
  ·
   replace hM := hM.2 c_1
   refine HO.val (v := .agg (eA a).toArray) (want_by rfl rfl c_1) rfl (q_loadAgg (cs := (eA a)) ta_28 rfl rfl (Blk.cells (k := 17) (hS.box 0 rfl) rfl)) ?_
   refine HO.call (want_by rfl rfl c_1) rfl (ec en_86 rfl rfl) (ref03_Good_walk (fr := (Ow.box b_1 28 (eA a).toArray :: fr)) a hS hM) ?_
   rintro _ h_3 ⟨F_2, r_3, rfl, hk, hS, hM⟩
   replace hK := hK.trans hk
   replace hL_l := hL_l.kp hk
   refine HO.val (v := .bool (!r_3)) (want_by rfl rfl c_1) rfl (q_not rfl) ?_
   refine oV (.bool (!r_3)) (q_pickK false rfl c_1 rfl) rfl ?_
   refine HO.nil (thenQ_normal (?_))
   exact ⟨F_2, !r_3, rfl, rfl, rfl, rfl, hK, hS, hL_l, hM⟩
 ·
  rintro f_1 h_4 ⟨F_3, b_2, e0, e3, e4, e13, hK, hS, hL_l, hM⟩
  unfold ref11_Add_j1 at hM
  refine HW.fr [(0, vl), (3, .pointer (some ⟨b_1, 0, none⟩)), (4, .slice none 0 0), (13, .bool b_2)] ⟨e0, e3, e4, e13, trivial⟩ ?_
  refine HW.cond b_2 rfl (fun c_2 => ?_) (fun c_2 => ?_)
  ·
   replace hM := hM.1 c_2
   refine HW.seq ?_
   refine HW.region ?_
   refine oM (vl) rfl rfl ?_
   refine oA (vl) rfl rfl ?_
   refine HO.nil (thenQ_normal (?_))
   refine HW.ret (thenQ_ret (?_))
   refine ⟨.inr rfl, vl, res1 rfl (rt rfl), ?_⟩
   replace hS : St F_3 (fr) h_4 := hS.perm2 [] 1 rfl rfl
   exact ⟨F_3, l, vl, rfl, hK, hS, hL_l, hL_l, hM⟩
  ·
   replace hM := hM.2 c_2
   refine HW.skip (thenQ_normal (?_))
   refine HW.seq ?_
   refine HW.region ?_
   refine oA (.int .i64 0) rfl rfl ?_
   refine HO.nil (thenQ_normal (?_))
   refine HW.seq_mid (fun f h => ∃ (F' : Fz) (n_1 : Int), f 0 = vl ∧ f 3 = .pointer (some ⟨b_1, 0, none⟩) ∧ f 4 = .slice none 0 0 ∧ f 5 = .int .i64 n_1 ∧ Kp F h0 F' h ∧ St F' (Ow.box b_1 28 (eA a).toArray :: fr) h ∧ (SliceF F' h 17 eA vl l) ∧ ref11_Add_j2 l a Q n_1) ?_ ?_
   ·
    refine HW.block ?_
    obtain ⟨I_1, m_1, hI_1, hR_1⟩ := hM
    refine HW.loop (S := Int) (fun n_2 f h => ∃ (F' : Fz), f 0 = vl ∧ f 3 = .pointer (some ⟨b_1, 0, none⟩) ∧ f 4 = .slice none 0 0 ∧ f 5 = .int .i64 n_2 ∧ Kp F h0 F' h ∧ St F' (Ow.box b_1 28 (eA a).toArray :: fr) h ∧ (SliceF F' h 17 eA vl l) ∧ I_1 n_2) m_1 0 ⟨F_3, rfl, rfl, rfl, rfl, hK, hS, hL_l, hI_1⟩ ?_
    rintro n_2 f_2 h_5 ⟨F_4, e0, e3, e4, e5, hK, hS, hL_l, hI0⟩
    obtain ⟨K_1, hKe_1⟩ : ∃ K : Int → Prop, K = fun n_2' => I_1 n_2' ∧ m_1 n_2' < m_1 n_2 := ⟨_, rfl⟩
    have hM : ref11_Add_l1 l a Q K_1 n_2 := by rw [hKe_1]; exact hR_1 n_2 hI0
    unfold ref11_Add_l1 at hM
    refine HW.fr [(0, vl), (3, .pointer (some ⟨b_1, 0, none⟩)), (4, .slice none 0 0), (5, .int .i64 n_2)] ⟨e0, e3, e4, e5, trivial⟩ ?_
    refine HW.seq ?_
    refine HW.seq ?_
    refine HW.regionA 13 mixed (fun h => (SliceIs h 17 eA vl l) ∧ (Blk h b_1 (.cells (eA a).toArray 28 (0, 0)))) [] (by kernel_rfl) ?_
    refine HA.val (k := 0) (v := .int .i64 n_2) rfl rfl (by kernel_rfl) (by kernel_rfl) (want_none) rfl (fun _ ⟨hL_l, c304⟩ => q_move rfl) ?_
    refine HA.val (k := 1) (v := vl) rfl rfl (by kernel_rfl) (by kernel_rfl) (want_none) rfl (fun _ ⟨hL_l, c304⟩ => q_move rfl) ?_
    refine HA.val (k := 2) (v := .int .i64 (l.length : Int)) rfl rfl (by kernel_rfl) (by kernel_rfl) (want_none) rfl (fun _ ⟨hL_l, c304⟩ => q_len ts_29 (shp hL_l) rfl rfl) ?_
    refine HA.val (k := 3) (v := .bool (decide (n_2 < (l.length : Int)))) rfl rfl (by kernel_rfl) (by kernel_rfl) (want_none) rfl (fun _ ⟨hL_l, c304⟩ => q_lss rfl rfl) ?_
    refine HA.val (k := 4) (v := .bool (decide (n_2 < (l.length : Int)))) rfl rfl (by kernel_rfl) (by kernel_rfl) (want_none) rfl (fun _ ⟨hL_l, c304⟩ => q_move rfl) ?_
    rcases Bool.eq_false_or_eq_true (decide (n_2 < (l.length : Int))) with c_3 | c_3
    ·
     replace hM := hM.1 (of_decide_eq_true c_3)
     refine HA.val (k := 5) (v := vl) rfl rfl (by kernel_rfl) (by kernel_rfl) (want_by rfl rfl c_3) rfl (fun _ ⟨hL_l, c304⟩ => q_move rfl) ?_
     refine HA.val (k := 6) (v := .int .i64 n_2) rfl rfl (by kernel_rfl) (by kernel_rfl) (want_by rfl rfl c_3) rfl (fun _ ⟨hL_l, c304⟩ => q_move rfl) ?_
     obtain ⟨ho_1, hM⟩ := hM
     refine HA.val (k := 7) (v := elemPtr 17 vl (n_2).toNat) rfl rfl (by kernel_rfl) (by kernel_rfl) (want_by rfl rfl c_3) rfl (fun _ ⟨hL_l, c304⟩ => q_idx ts_29 hL_l rfl rfl ho_1) ?_
     refine HA.val (k := 8) (v := .agg (eA (gi l n_2)).toArray) rfl rfl (by kernel_rfl) (by kernel_rfl) (want_by rfl rfl c_3) rfl (fun _ ⟨hL_l, c304⟩ => q_ldElemAgg (cs := (eA (gi l n_2))) ta_28 hL_l rfl ho_1 rfl) ?_
     refine HA.val (k := 9) (v := .agg (eA a).toArray) rfl rfl (by kernel_rfl) (by kernel_rfl) (want_by rfl rfl c_3) rfl (fun _ ⟨hL_l, c304⟩ => q_loadAgg (cs := (eA a)) ta_28 rfl rfl (Blk.cells (k := 17) c304 rfl)) ?_
     refine HA.one (k := 10) ⟨⟨hL_l.is, (hS.box 0 rfl)⟩, (Go.Wk.at_nil _ _)⟩ (by kernel_rfl) ?_
     refine HS.call rfl (want_by rfl rfl c_3) rfl (ec en_100 rfl rfl) (ref03_Cmp_walk (fr := (Ow.box b_1 28 (eA a).toArray :: fr)) (gi l n_2) a hS hM) ?_
     rintro _ h_6 ⟨F_5, r_4, rfl, hk, hS, hM⟩
     replace hK := hK.trans hk
     replace hL_l := hL_l.kp hk
     refine HA.val (k := 11) (v := .bool (decide (r_4 < 0))) rfl rfl (by kernel_rfl) (by kernel_rfl) (want_by rfl rfl c_3) rfl (fun _ ⟨hL_l, c304⟩ => q_lss rfl rfl) ?_
     refine HA.val (k := 12) (v := .bool (decide (r_4 < 0))) rfl rfl (by kernel_rfl) (by kernel_rfl) (want_none) rfl (fun _ ⟨hL_l, c304⟩ => q_pickK true rfl c_3 rfl) ?_
     refine HA.nil ⟨⟨hL_l.is, (hS.box 0 rfl)⟩, (Go.Wk.at_nil _ _)⟩ (by kernel_rfl) (thenQ_normal (?_))
     refine HW.cond (decide (r_4 < 0)) rfl (fun c_4 => ?_) (fun c_4 => ?_)
     ·
      replace hM := hM.1 (of_decide_eq_true c_4)
      refine HW.skip (thenQ_normal (?_))
      refine HW.block ?_
      refine HW.region ?_
      refine oM (.int .i64 n_2) rfl rfl ?_
      obtain ⟨ho_2, hM⟩ := hM
      refine oV (.int .i64 (n_2 + 1)) (q_addN _ rfl rfl rfl ho_2.1 ho_2.2) rfl ?_
      refine oA (.int .i64 (n_2 + 1)) rfl rfl ?_
      refine HO.nil (blockQ_normal (thenQ_normal (?_)))
      rw [hKe_1] at hM
      exact ⟨n_2 + 1, ⟨F_5, rfl, rfl, rfl, rfl, hK, hS, hL_l, hM.1⟩, hM.2⟩
     ·
      replace hM := hM.2 (of_decide_eq_false c_4)
      refine HW.exit (thenQ_exit (thenQ_exit (blockQ_exit (thenQ_normal (?_)))))
      exact ⟨F_5, n_2, rfl, rfl, rfl, rfl, hK, hS, hL_l, hM⟩
    ·
     replace hM := hM.2 (of_decide_eq_false c_3)
     refine HA.past (k := 5) rfl rfl (by kernel_rfl) (by kernel_rfl) (past_by rfl rfl c_3) rfl ?_
     refine HA.past (k := 6) rfl rfl (by kernel_rfl) (by kernel_rfl) (past_by rfl rfl c_3) rfl ?_
     refine HA.past (k := 7) rfl rfl (by kernel_rfl) (by kernel_rfl) (past_by rfl rfl c_3) rfl ?_
     refine HA.past (k := 8) rfl rfl (by kernel_rfl) (by kernel_rfl) (past_by rfl rfl c_3) rfl ?_
     refine HA.past (k := 9) rfl rfl (by kernel_rfl) (by kernel_rfl) (past_by rfl rfl c_3) rfl ?_
     refine HA.one (k := 10) ⟨⟨hL_l.is, (hS.box 0 rfl)⟩, (Go.Wk.at_nil _ _)⟩ (by kernel_rfl) ?_
     refine HS.past rfl (past_by rfl rfl c_3) rfl ?_
     refine HA.past (k := 11) rfl rfl (by kernel_rfl) (by kernel_rfl) (past_by rfl rfl c_3) rfl ?_
     refine HA.val (k := 12) (v := .bool false) rfl rfl (by kernel_rfl) (by kernel_rfl) (want_none) rfl (fun _ ⟨hL_l, c304⟩ => q_pickK false rfl c_3 rfl) ?_
     refine HA.nil ⟨⟨hL_l.is, (hS.box 0 rfl)⟩, (Go.Wk.at_nil _ _)⟩ (by kernel_rfl) (thenQ_normal (?_))
     refine HW.condF rfl ?_
     refine HW.exit (thenQ_exit (thenQ_exit (blockQ_exit (thenQ_normal (?_)))))
     exact ⟨F_4, n_2, rfl, rfl, rfl, rfl, hK, hS, hL_l, hM⟩
   ·
    rintro f_3 h_7 ⟨F_6, n_1, e0, e3, e4, e5, hK, hS, hL_l, hM⟩
    unfold ref11_Add_j2 at hM
    refine HW.fr [(0, vl), (3, .pointer (some ⟨b_1, 0, none⟩)), (4, .slice none 0 0), (5, .int .i64 n_1)] ⟨e0, e3, e4, e5, trivial⟩ ?_
    refine HW.seq ?_
    obtain ⟨ho_3, hM⟩ := hM
    obtain ⟨ho_4, hM⟩ := hM
    obtain ⟨ho_5, hM⟩ := hM
    obtain ⟨ho_6, hM⟩ := hM
    refine HW.regionA 13 mixed (fun h => (SliceIs h 17 eA vl l) ∧ (Blk h b_1 (.cells (eA a).toArray 28 (0, 0)))) [] (by kernel_rfl) ?_
    refine HA.val (k := 1) (v := vl) rfl rfl (by kernel_rfl) (by kernel_rfl) (want_none) rfl (fun _ ⟨hL_l, c203⟩ => q_move rfl) ?_
    refine HA.val (k := 2) (v := .int .i64 n_1) rfl rfl (by kernel_rfl) (by kernel_rfl) (want_none) rfl (fun _ ⟨hL_l, c203⟩ => q_move rfl) ?_
    refine HA.val (k := 3) (v := cutV 17 vl (0 : Int).toNat (n_1).toNat) rfl rfl (by kernel_rfl) (by kernel_rfl) (want_none) rfl (fun _ ⟨hL_l, c203⟩ => q_slH ts_29 hL_l rfl rfl ho_3) ?_
    refine HA.val (k := 5) (v := .agg (eA a).toArray) rfl rfl (by kernel_rfl) (by kernel_rfl) (want_none) rfl (fun _ ⟨hL_l, c203⟩ => q_loadAgg (cs := (eA a)) ta_28 rfl rfl (Blk.cells (k := 17) c203 rfl)) ?_
    refine HA.val (k := 8) (v := vl) rfl rfl (by kernel_rfl) (by kernel_rfl) (want_none) rfl (fun _ ⟨hL_l, c203⟩ => q_move rfl) ?_
    refine HA.val (k := 9) (v := .int .i64 n_1) rfl rfl (by kernel_rfl) (by kernel_rfl) (want_none) rfl (fun _ ⟨hL_l, c203⟩ => q_move rfl) ?_
    refine HA.val (k := 10) (v := cutV 17 vl (n_1).toNat ((l.length : Int)).toNat) rfl rfl (by kernel_rfl) (by kernel_rfl) (want_none) rfl (fun _ ⟨hL_l, c203⟩ => q_slL ts_29 hL_l rfl rfl ho_3) ?_
    refine HA.two (k := 0) (k' := 6) ⟨⟨hL_l.is, (hS.box 0 rfl)⟩, (Go.Wk.at_nil _ _)⟩ (by kernel_rfl) ?_ ?_
    ·
     refine HS.eff rfl (want_none) rfl (st_litEmpty (α := TA) eA hS tl_29) ?_
     rintro _ h_8 ⟨b_3, rfl, hS, hk⟩
     replace hK := hK.trans hk
     replace hL_l := hL_l.kp hk
     refine HA.two (k := 4) (k' := 6) ⟨⟨hL_l.is, (hS.box 1 rfl)⟩, (Go.Wk.at_nil _ _)⟩ (by kernel_rfl) ?_ ?_
     ·
      refine HS.eff rfl (want_none) rfl (st_append te_29 hS (i := 0) rfl (cutIs hL_l.is 0 n_1 (Int.le_refl _) ho_3.1 ho_3.2) rfl rfl rfl (by intro a _ u hu; simp [eA, encI, encN, encB, encT] at hu; rcases hu with rfl | rfl | rfl | rfl | rfl | rfl | rfl | rfl | rfl | rfl | rfl | rfl | rfl | rfl | rfl | rfl | rfl <;> rfl) ho_4 (by omega)) ?_
      rintro v_1 h_9 ⟨hS, hk⟩
      replace hK := hK.trans hk
      replace hL_l := hL_l.kp hk
      refine HA.one (k := 6) ⟨⟨hL_l.is, (hS.box 1 rfl)⟩, (Go.Wk.at_nil _ _)⟩ (by kernel_rfl) ?_
      refine HS.eff rfl (want_none) rfl (st_lit (enc := eA) (cells := #[.bool a.1, .int .u8 (b8 a.2 0), .int .u8 (b8 a.2 1), .int .u8 (b8 a.2 2), .int .u8 (b8 a.2 3), .int .u8 (b8 a.2 4), .int .u8 (b8 a.2 5), .int .u8 (b8 a.2 6), .int .u8 (b8 a.2 7), .int .u8 (b8 a.2 8), .int .u8 (b8 a.2 9), .int .u8 (b8 a.2 10), .int .u8 (b8 a.2 11), .int .u8 (b8 a.2 12), .int .u8 (b8 a.2 13), .int .u8 (b8 a.2 14), .int .u8 (b8 a.2 15)]) #[.bool false, .int .u8 0, .int .u8 0, .int .u8 0, .int .u8 0, .int .u8 0, .int .u8 0, .int .u8 0, .int .u8 0, .int .u8 0, .int .u8 0, .int .u8 0, .int .u8 0, .int .u8 0, .int .u8 0, .int .u8 0, .int .u8 0] ([a] : List TA) hS tl_29 (by decide) (by decide) (by kernel_rfl) (by kernel_rfl) rfl (by intro x hx; rfl) rfl) ?_
      rintro _ h_10 ⟨b_4, rfl, hS, hk⟩
      replace hK := hK.trans hk
      replace hL_l := hL_l.kp hk
      refine HA.one (k := 7) ⟨⟨hL_l.is, (hS.box 2 rfl)⟩, (Go.Wk.at_nil _ _)⟩ (by kernel_rfl) ?_
      refine HS.eff rfl (want_none) rfl (st_append te_29 hS (i := 1) rfl (hS.own 0 rfl).slice rfl rfl rfl (by intro a _ u hu; simp [eA, encI, encN, encB, encT] at hu; rcases hu with rfl | rfl | rfl | rfl | rfl | rfl | rfl | rfl | rfl | rfl | rfl | rfl | rfl | rfl | rfl | rfl | rfl <;> rfl) ho_5 (by omega)) ?_
      rintro v_2 h_11 ⟨hS, hk⟩
      replace hK := hK.trans hk
      replace hL_l := hL_l.kp hk
      refine HA.one (k := 11) ⟨⟨hL_l.is, (hS.box 2 rfl)⟩, (Go.Wk.at_nil _ _)⟩ (by kernel_rfl) ?_
      refine HS.eff rfl (want_none) rfl (st_append te_29 hS (i := 1) rfl (cutIs hL_l.is n_1 (l.length : Int) ho_3.1 ho_3.2 (Int.le_refl _)) rfl rfl rfl (by intro a _ u hu; simp [eA, encI, encN, encB, encT] at hu; rcases hu with rfl | rfl | rfl | rfl | rfl | rfl | rfl | rfl | rfl | rfl | rfl | rfl | rfl | rfl | rfl | rfl | rfl <;> rfl) ho_6 (by omega)) ?_
      rintro v_3 h_12 ⟨hS, hk⟩
      replace hK := hK.trans hk
      replace hL_l := hL_l.kp hk
      refine HA.val (k := 12) (v := v_3) rfl rfl (by kernel_rfl) (by kernel_rfl) (want_none) rfl (fun _ ⟨hL_l, c203⟩ => q_assign rfl) ?_
      refine HA.nil ⟨⟨hL_l.is, (hS.box 2 rfl)⟩, (Go.Wk.at_nil _ _)⟩ (by kernel_rfl) (thenQ_normal (?_))
      refine HW.ret (?_)
      refine ⟨.inr rfl, v_3, res1 rfl (rt rfl), ?_⟩
      replace hS : St F_6 (Ow.own 28 17 eA v_3 (((([] : List TA) ++ (cut l 0 n_1)) ++ ([a] : List TA)) ++ (cut l n_1 (l.length : Int))) :: Ow.own 28 17 eA (.slice (some ⟨b_4, 0, none⟩) 1 1) ([a] : List TA) :: Ow.box b_1 28 (eA a).toArray :: fr) h_12 := hS.perm2 [1, 0, 2] 3 rfl rfl
      obtain ⟨F_7, hS, hk, hL_2⟩ := hS.freezeOwn
      replace hK := hK.trans hk
      replace hL_l := hL_l.kp hk
      replace hS : St F_7 (fr) h_12 := hS.perm2 [] 2 rfl rfl
      exact ⟨F_7, ((([] : List TA) ++ (cut l 0 n_1)) ++ ([a] : List TA)) ++ (cut l n_1 (l.length : Int)), v_3, rfl, hK, hS, hL_l, hL_2, hM⟩
     ·
      refine HS.eff rfl (want_none) rfl (st_lit (enc := eA) (cells := #[.bool a.1, .int .u8 (b8 a.2 0), .int .u8 (b8 a.2 1), .int .u8 (b8 a.2 2), .int .u8 (b8 a.2 3), .int .u8 (b8 a.2 4), .int .u8 (b8 a.2 5), .int .u8 (b8 a.2 6), .int .u8 (b8 a.2 7), .int .u8 (b8 a.2 8), .int .u8 (b8 a.2 9), .int .u8 (b8 a.2 10), .int .u8 (b8 a.2 11), .int .u8 (b8 a.2 12), .int .u8 (b8 a.2 13), .int .u8 (b8 a.2 14), .int .u8 (b8 a.2 15)]) #[.bool false, .int .u8 0, .int .u8 0, .int .u8 0, .int .u8 0, .int .u8 0, .int .u8 0, .int .u8 0, .int .u8 0, .int .u8 0, .int .u8 0, .int .u8 0, .int .u8 0, .int .u8 0, .int .u8 0, .int .u8 0, .int .u8 0] ([a] : List TA) hS tl_29 (by decide) (by decide) (by kernel_rfl) (by kernel_rfl) rfl (by intro x hx; rfl) rfl) ?_
      rintro _ h_9 ⟨b_4, rfl, hS, hk⟩
      replace hK := hK.trans hk
      replace hL_l := hL_l.kp hk
      refine HA.one (k := 4) ⟨⟨hL_l.is, (hS.box 2 rfl)⟩, (Go.Wk.at_nil _ _)⟩ (by kernel_rfl) ?_
      refine HS.eff rfl (want_none) rfl (st_append te_29 hS (i := 1) rfl (cutIs hL_l.is 0 n_1 (Int.le_refl _) ho_3.1 ho_3.2) rfl rfl rfl (by intro a _ u hu; simp [eA, encI, encN, encB, encT] at hu; rcases hu with rfl | rfl | rfl | rfl | rfl | rfl | rfl | rfl | rfl | rfl | rfl | rfl | rfl | rfl | rfl | rfl | rfl <;> rfl) ho_4 (by omega)) ?_
      rintro v_1 h_10 ⟨hS, hk⟩
      replace hK := hK.trans hk
      replace hL_l := hL_l.kp hk
      refine HA.one (k := 7) ⟨⟨hL_l.is, (hS.box 2 rfl)⟩, (Go.Wk.at_nil _ _)⟩ (by kernel_rfl) ?_
      refine HS.eff rfl (want_none) rfl (st_append te_29 hS (i := 1) rfl (hS.own 0 rfl).slice rfl rfl rfl (by intro a _ u hu; simp [eA, encI, encN, encB, encT] at hu; rcases hu with rfl | rfl | rfl | rfl | rfl | rfl | rfl | rfl | rfl | rfl | rfl | rfl | rfl | rfl | rfl | rfl | rfl <;> rfl) ho_5 (by omega)) ?_
      rintro v_2 h_11 ⟨hS, hk⟩
      replace hK := hK.trans hk
      replace hL_l := hL_l.kp hk
      refine HA.one (k := 11) ⟨⟨hL_l.is, (hS.box 2 rfl)⟩, (Go.Wk.at_nil _ _)⟩ (by kernel_rfl) ?_
      refine HS.eff rfl (want_none) rfl (st_append te_29 hS (i := 1) rfl (cutIs hL_l.is n_1 (l.length : Int) ho_3.1 ho_3.2 (Int.le_refl _)) rfl rfl rfl (by intro a _ u hu; simp [eA, encI, encN, encB, encT] at hu; rcases hu with rfl | rfl | rfl | rfl | rfl | rfl | rfl | rfl | rfl | rfl | rfl | rfl | rfl | rfl | rfl | rfl | rfl <;> rfl) ho_6 (by omega)) ?_
      rintro v_3 h_12 ⟨hS, hk⟩
      replace hK := hK.trans hk
      replace hL_l := hL_l.kp hk
      refine HA.val (k := 12) (v := v_3) rfl rfl (by kernel_rfl) (by kernel_rfl) (want_none) rfl (fun _ ⟨hL_l, c203⟩ => q_assign rfl) ?_
      refine HA.nil ⟨⟨hL_l.is, (hS.box 2 rfl)⟩, (Go.Wk.at_nil _ _)⟩ (by kernel_rfl) (thenQ_normal (?_))
      refine HW.ret (?_)
      refine ⟨.inr rfl, v_3, res1 rfl (rt rfl), ?_⟩
      replace hS : St F_6 (Ow.own 28 17 eA v_3 (((([] : List TA) ++ (cut l 0 n_1)) ++ ([a] : List TA)) ++ (cut l n_1 (l.length : Int))) :: Ow.own 28 17 eA (.slice (some ⟨b_4, 0, none⟩) 1 1) ([a] : List TA) :: Ow.box b_1 28 (eA a).toArray :: fr) h_12 := hS.perm2 [1, 0, 2] 3 rfl rfl
      obtain ⟨F_7, hS, hk, hL_2⟩ := hS.freezeOwn
      replace hK := hK.trans hk
      replace hL_l := hL_l.kp hk
      replace hS : St F_7 (fr) h_12 := hS.perm2 [] 2 rfl rfl
      exact ⟨F_7, ((([] : List TA) ++ (cut l 0 n_1)) ++ ([a] : List TA)) ++ (cut l n_1 (l.length : Int)), v_3, rfl, hK, hS, hL_l, hL_2, hM⟩
    ·
     refine HS.eff rfl (want_none) rfl (st_lit (enc := eA) (cells := #[.bool a.1, .int .u8 (b8 a.2 0), .int .u8 (b8 a.2 1), .int .u8 (b8 a.2 2), .int .u8 (b8 a.2 3), .int .u8 (b8 a.2 4), .int .u8 (b8 a.2 5), .int .u8 (b8 a.2 6), .int .u8 (b8 a.2 7), .int .u8 (b8 a.2 8), .int .u8 (b8 a.2 9), .int .u8 (b8 a.2 10), .int .u8 (b8 a.2 11), .int .u8 (b8 a.2 12), .int .u8 (b8 a.2 13), .int .u8 (b8 a.2 14), .int .u8 (b8 a.2 15)]) #[.bool false, .int .u8 0, .int .u8 0, .int .u8 0, .int .u8 0, .int .u8 0, .int .u8 0, .int .u8 0, .int .u8 0, .int .u8 0, .int .u8 0, .int .u8 0, .int .u8 0, .int .u8 0, .int .u8 0, .int .u8 0, .int .u8 0] ([a] : List TA) hS tl_29 (by decide) (by decide) (by kernel_rfl) (by kernel_rfl) rfl (by intro x hx; rfl) rfl) ?_
     rintro _ h_8 ⟨b_3, rfl, hS, hk⟩
     replace hK := hK.trans hk
     replace hL_l := hL_l.kp hk
     refine HA.one (k := 0) ⟨⟨hL_l.is, (hS.box 1 rfl)⟩, (Go.Wk.at_nil _ _)⟩ (by kernel_rfl) ?_
     refine HS.eff rfl (want_none) rfl (st_litEmpty (α := TA) eA hS tl_29) ?_
     rintro _ h_9 ⟨b_4, rfl, hS, hk⟩
     replace hK := hK.trans hk
     replace hL_l := hL_l.kp hk
     refine HA.one (k := 4) ⟨⟨hL_l.is, (hS.box 2 rfl)⟩, (Go.Wk.at_nil _ _)⟩ (by kernel_rfl) ?_
     refine HS.eff rfl (want_none) rfl (st_append te_29 hS (i := 0) rfl (cutIs hL_l.is 0 n_1 (Int.le_refl _) ho_3.1 ho_3.2) rfl rfl rfl (by intro a _ u hu; simp [eA, encI, encN, encB, encT] at hu; rcases hu with rfl | rfl | rfl | rfl | rfl | rfl | rfl | rfl | rfl | rfl | rfl | rfl | rfl | rfl | rfl | rfl | rfl <;> rfl) ho_4 (by omega)) ?_
     rintro v_1 h_10 ⟨hS, hk⟩
     replace hK := hK.trans hk
     replace hL_l := hL_l.kp hk
     refine HA.one (k := 7) ⟨⟨hL_l.is, (hS.box 2 rfl)⟩, (Go.Wk.at_nil _ _)⟩ (by kernel_rfl) ?_
     refine HS.eff rfl (want_none) rfl (st_append te_29 hS (i := 0) rfl (hS.own 1 rfl).slice rfl rfl rfl (by intro a _ u hu; simp [eA, encI, encN, encB, encT] at hu; rcases hu with rfl | rfl | rfl | rfl | rfl | rfl | rfl | rfl | rfl | rfl | rfl | rfl | rfl | rfl | rfl | rfl | rfl <;> rfl) ho_5 (by omega)) ?_
     rintro v_2 h_11 ⟨hS, hk⟩
     replace hK := hK.trans hk
     replace hL_l := hL_l.kp hk
     refine HA.one (k := 11) ⟨⟨hL_l.is, (hS.box 2 rfl)⟩, (Go.Wk.at_nil _ _)⟩ (by kernel_rfl) ?_
     refine HS.eff rfl (want_none) rfl (st_append te_29 hS (i := 0) rfl (cutIs hL_l.is n_1 (l.length : Int) ho_3.1 ho_3.2 (Int.le_refl _)) rfl rfl rfl (by intro a _ u hu; simp [eA, encI, encN, encB, encT] at hu; rcases hu with rfl | rfl | rfl | rfl | rfl | rfl | rfl | rfl | rfl | rfl | rfl | rfl | rfl | rfl | rfl | rfl | rfl <;> rfl) ho_6 (by omega)) ?_
     rintro v_3 h_12 ⟨hS, hk⟩
     replace hK := hK.trans hk
     replace hL_l := hL_l.kp hk
     refine HA.val (k := 12) (v := v_3) rfl rfl (by kernel_rfl) (by kernel_rfl) (want_none) rfl (fun _ ⟨hL_l, c203⟩ => q_assign rfl) ?_
     refine HA.nil ⟨⟨hL_l.is, (hS.box 2 rfl)⟩, (Go.Wk.at_nil _ _)⟩ (by kernel_rfl) (thenQ_normal (?_))
     refine HW.ret (?_)
     refine ⟨.inr rfl, v_3, res1 rfl (rt rfl), ?_⟩
     obtain ⟨F_7, hS, hk, hL_2⟩ := hS.freezeOwn
     replace hK := hK.trans hk
     replace hL_l := hL_l.kp hk
     replace hS : St F_7 (fr) h_12 := hS.perm2 [] 2 rfl rfl
     exact ⟨F_7, ((([] : List TA) ++ (cut l 0 n_1)) ++ ([a] : List TA)) ++ (cut l n_1 (l.length : Int)), v_3, rfl, hK, hS, hL_l, hL_2, hM⟩
def ref11_Of_l1 (l : List TA) (Q : (List TA) → Prop) (K_1 : (List TA) → Int → Prop) (out_1 : List TA) (i_1 : Int) : Prop :=
 (i_1 < (l.length : Int) → ((0 : Int) ≤ i_1 ∧ i_1 < (l.length : Int)) ∧ (ref11_Add_W out_1 (gi l i_1) (fun r_2 => (I64 (i_1 + 1)) ∧ (K_1 r_2 (i_1 + 1))))) ∧ (¬ (i_1 < (l.length : Int)) → Q out_1)
def ref11_Of_W (l : List TA) (Q : (List TA) → Prop) : Prop :=
 loopW (fun (K_1 : (List TA × Int) → Prop) (s : List TA × Int) => ref11_Of_l1 l Q (fun out_1 i_1 => K_1 (out_1, i_1)) s.1 s.2) ([], 0)
theorem ref11_Of_walk {F : Fz} {fr : List Ow} {h0 : Heap} (l : List TA) (vl : Value) (hS : St F (fr) h0) (hL_l : SliceF F h0 17 eA vl l) {Q : (List TA) → Prop} (hM : ref11_Of_W l Q) :
  HC Tryz.prog 118 #[vl] h0 fun u h' => ∃ (F' : Fz) (r_1 : List TA) (vr_1 : Value), u = vr_1 ∧ Kp F h0 F' h' ∧ St F' (fr) h' ∧ (SliceF F' h' 17 eA vl l) ∧ (SliceF F' h' 17 eA vr_1 r_1) ∧ Q r_1 := by
 unfold ref11_Of_W at hM
 have hK := Kp.refl F h0
 refine HC.of_HW (n := 19) Tryz.func118 rfl rfl (Nat.le_of_ble_eq_true rfl) ?_
 refine HW.seq ?_
 refine HW.region ?_
 refine oA (.slice none 0 0) rfl rfl ?_
 refine HO.nil (thenQ_normal (?_))
 refine HW.seq ?_
 refine HW.region ?_
 refine HO.eff (want_none) rfl (st_litEmpty (α := TA) eA hS tl_29) ?_
 rintro _ h_1 ⟨b_1, rfl, hS, hk⟩
 replace hK := hK.trans hk
 replace hL_l := hL_l.kp hk
 refine oA (.slice (some ⟨b_1, 0, none⟩) 0 0) rfl rfl ?_
 refine HO.nil (thenQ_normal (?_))
 refine HW.seq ?_
 refine HW.seq ?_
 refine HW.region ?_
 refine oA (.int .i64 0) rfl rfl ?_
 refine HO.nil (thenQ_normal (?_))
 refine HW.block ?_
 obtain ⟨I_1, m_1, hI_1, hR_1⟩ := hM
 obtain ⟨F_1, hS, hk, hL_3⟩ := hS.freezeOwn
 replace hK := hK.trans hk
 replace hL_l := hL_l.kp hk
 refine HW.loop (S := List TA × Int) (fun s f h => match s with | (out_1, i_1) => ∃ (F' : Fz) (vout_1 : Value), f 0 = vl ∧ f 2 = .slice none 0 0 ∧ f 3 = vout_1 ∧ f 4 = .int .i64 i_1 ∧ Kp F h0 F' h ∧ St F' (fr) h ∧ (SliceF F' h 17 eA vl l) ∧ (SliceF F' h 17 eA vout_1 out_1) ∧ I_1 (out_1, i_1)) m_1 ([], 0) ⟨F_1, .slice (some ⟨b_1, 0, none⟩) 0 0, rfl, rfl, rfl, rfl, hK, hS, hL_l, hL_3, hI_1⟩ ?_
 rintro ⟨out_1, i_1⟩ f_1 h_2 ⟨F_2, vout_1, e0, e2, e3, e4, hK, hS, hL_l, hL_2, hI0⟩
 obtain ⟨K_1, hKe_1⟩ : ∃ K : (List TA) → Int → Prop, K = fun out_1' i_1' => I_1 (out_1', i_1') ∧ m_1 (out_1', i_1') < m_1 (out_1, i_1) := ⟨_, rfl⟩
 have hM : ref11_Of_l1 l Q K_1 out_1 i_1 := by rw [hKe_1]; exact hR_1 (out_1, i_1) hI0
 unfold ref11_Of_l1 at hM
 refine HW.fr [(0, vl), (2, .slice none 0 0), (3, vout_1), (4, .int .i64 i_1)] ⟨e0, e2, e3, e4, trivial⟩ ?_
 refine HW.seq ?_
 refine HW.seq ?_
 refine HW.region ?_
 refine oM (.int .i64 i_1) rfl rfl ?_
 refine oM (vl) rfl rfl ?_
 refine oV (.int .i64 (l.length : Int)) (q_len ts_29 (shp hL_l.is) rfl rfl) rfl ?_
 refine oV (.bool (decide (i_1 < (l.length : Int)))) (q_lss rfl rfl) rfl ?_
 refine HO.nil (thenQ_normal (?_))
 refine HW.cond (decide (i_1 < (l.length : Int))) rfl (fun c_1 => ?_) (fun c_1 => ?_)
 ·
  replace hM := hM.1 (of_decide_eq_true c_1)
  refine HW.skip (thenQ_normal (?_))
  refine HW.seq ?_
  refine HW.block ?_
  refine HW.region ?_
  refine oM (vout_1) rfl rfl ?_
  refine oM (vl) rfl rfl ?_
  refine oM (.int .i64 i_1) rfl rfl ?_
  obtain ⟨ho_1, hM⟩ := hM
  refine oV (elemPtr 17 vl (i_1).toNat) (q_idx ts_29 hL_l.is rfl rfl ho_1) rfl ?_
  refine oV (.agg (eA (gi l i_1)).toArray) (q_ldElemAgg (cs := (eA (gi l i_1))) ta_28 hL_l.is rfl ho_1 rfl) rfl ?_
  refine HO.call (want_none) rfl (ec en_184 rfl rfl) (ref11_Add_walk (fr := (fr)) out_1 (gi l i_1) vout_1 hS hL_2 hM) ?_
  rintro vr_2 h_3 ⟨F_3, r_2, _, rfl, hk, hS, _, hL_4, hM⟩
  replace hK := hK.trans hk
  replace hL_l := hL_l.kp hk
  refine oA (vr_2) rfl rfl ?_
  refine HO.nil (blockQ_normal (thenQ_normal (?_)))
  refine HW.region ?_
  refine oM (.int .i64 i_1) rfl rfl ?_
  obtain ⟨ho_2, hM⟩ := hM
  refine oV (.int .i64 (i_1 + 1)) (q_addN _ rfl rfl rfl ho_2.1 ho_2.2) rfl ?_
  refine oA (.int .i64 (i_1 + 1)) rfl rfl ?_
  refine HO.nil (thenQ_normal (?_))
  rw [hKe_1] at hM
  exact ⟨(r_2, i_1 + 1), ⟨F_3, vr_2, rfl, rfl, rfl, rfl, hK, hS, hL_l, hL_4, hM.1⟩, hM.2⟩
 ·
  replace hM := hM.2 (of_decide_eq_false c_1)
  refine HW.exit (thenQ_exit (thenQ_exit (blockQ_exit (thenQ_normal (?_)))))
  refine HW.seq ?_
  refine HW.region ?_
  refine oM (vout_1) rfl rfl ?_
  refine oA (vout_1) rfl rfl ?_
  refine HO.nil (thenQ_normal (?_))
  refine HW.ret (?_)
  refine ⟨.inr rfl, vout_1, res1 rfl (rt rfl), ?_⟩
  exact ⟨F_2, out_1, vout_1, rfl, hK, hS, hL_l, hL_2, hM⟩
def ref03_Group_W (a : TA) (Q : Bool → Prop) : Prop :=
 (a.1 = true → ((b8 a.2 0) = 255 → Q true) ∧ (¬ ((b8 a.2 0) = 255) → ((!a.1) = true → (224 ≤ (b8 a.2 0) → Q (decide ((b8 a.2 0) ≤ 239))) ∧ (¬ (224 ≤ (b8 a.2 0)) → Q false)) ∧ ((!a.1) = false → Q false))) ∧ (a.1 = false → ((!a.1) = true → (224 ≤ (b8 a.2 0) → Q (decide ((b8 a.2 0) ≤ 239))) ∧ (¬ (224 ≤ (b8 a.2 0)) → Q false)) ∧ ((!a.1) = false → Q false))
theorem ref03_Group_walk {F : Fz} {fr : List Ow} {h0 : Heap} (a : TA) (hS : St F (fr) h0)  {Q : Bool → Prop} (hM : ref03_Group_W a Q) :
  HC Tryz.prog 87 #[.agg (eA a).toArray] h0 fun u h' => ∃ (F' : Fz) (r_1 : Bool), u = .bool r_1 ∧ Kp F h0 F' h' ∧ St F' (fr) h' ∧ Q r_1 := by
 unfold ref03_Group_W at hM
 have hK := Kp.refl F h0
 refine HC.of_HW (n := 28) Tryz.func87 rfl rfl (Nat.le_of_ble_eq_true rfl) ?_
 refine HW.seq ?_
 refine HW.region ?_
 refine HO.eff (want_none) rfl (st_box (c := (eA a).toArray) (k' := 17) hS rfl rfl) ?_
 rintro _ h_1 ⟨b_1, rfl, hS, hk⟩
 replace hK := hK.trans hk
 refine oA (.bool false) rfl rfl ?_
 refine HO.nil (thenQ_normal (?_))
 refine HW.seq ?_
 refine HW.region ?_
 refine oV (.pointer (some ⟨b_1, 0, none⟩)) (q_fieldAddr fa_28_0 rfl rfl) rfl ?_
 refine oV (.bool a.1) (q_load to_4 rfl (Blk.cell (hS.box 0 rfl) rfl)) rfl ?_
 refine oM (.bool a.1) rfl rfl ?_
 rcases Bool.eq_false_or_eq_true a.1 with c_1 | c_1
 ·
  replace hM := hM.1 c_1
  refine HO.val (v := .pointer (some ⟨b_1, 1, none⟩)) (want_by rfl rfl c_1) rfl (q_fieldAddr fa_28_1 rfl rfl) ?_
  refine HO.val (v := .pointer (some ⟨b_1, 1, none⟩)) (want_by rfl rfl c_1) rfl (q_idxA (o := 1) (t := 0) tr_26 rfl rfl ⟨by decide, by decide⟩) ?_
  refine HO.val (v := .int .u8 (b8 a.2 0)) (want_by rfl rfl c_1) rfl (q_load to_5 rfl (Blk.cell (hS.box 0 rfl) rfl)) ?_
  refine HO.val (v := .bool (decide ((b8 a.2 0) = 255))) (want_by rfl rfl c_1) rfl (q_eql rfl rfl) ?_
  refine oV (.bool (decide ((b8 a.2 0) = 255))) (q_pickK true rfl c_1 rfl) rfl ?_
  refine oM (.bool (decide ((b8 a.2 0) = 255))) rfl rfl ?_
  rcases Bool.eq_false_or_eq_true (decide ((b8 a.2 0) = 255)) with c_2 | c_2
  ·
   replace hM := hM.1 (of_decide_eq_true c_2)
   refine HO.past (past_by rfl rfl c_2) rfl ?_
   refine HO.past (past_by rfl rfl c_2) rfl ?_
   refine HO.past (past_by rfl rfl c_2) rfl ?_
   refine HO.past (past_by rfl rfl c_2) rfl ?_
   refine HO.past (past_undef rfl rfl) rfl ?_
   refine HO.past (past_undef rfl rfl) rfl ?_
   refine HO.past (past_undef rfl rfl) rfl ?_
   refine HO.past (past_undef rfl rfl) rfl ?_
   refine HO.past (past_by rfl rfl c_2) rfl ?_
   refine HO.past (past_by rfl rfl c_2) rfl ?_
   refine HO.past (past_undef rfl rfl) rfl ?_
   refine HO.past (past_undef rfl rfl) rfl ?_
   refine HO.past (past_undef rfl rfl) rfl ?_
   refine HO.past (past_undef rfl rfl) rfl ?_
   refine HO.past (past_by rfl rfl c_2) rfl ?_
   refine oV (.bool true) (q_pickK true rfl c_2 rfl) rfl ?_
   refine oA (.bool true) rfl rfl ?_
   refine HO.nil (thenQ_normal (?_))
   refine HW.ret (?_)
   refine ⟨.inr rfl, .bool true, res1 rfl (rt rfl), ?_⟩
   replace hS : St F (fr) h_1 := hS.perm2 [] 1 rfl rfl
   exact ⟨F, true, rfl, hK, hS, hM⟩
  ·
   replace hM := hM.2 (of_decide_eq_false c_2)
   refine HO.val (v := .pointer (some ⟨b_1, 0, none⟩)) (want_by rfl rfl c_2) rfl (q_fieldAddr fa_28_0 rfl rfl) ?_
   refine HO.val (v := .bool a.1) (want_by rfl rfl c_2) rfl (q_load to_4 rfl (Blk.cell (hS.box 0 rfl) rfl)) ?_
   refine HO.val (v := .bool (!a.1)) (want_by rfl rfl c_2) rfl (q_not rfl) ?_
   refine HO.val (v := .bool (!a.1)) (want_by rfl rfl c_2) rfl (q_move rfl) ?_
   rcases Bool.eq_false_or_eq_true (!a.1) with c_3 | c_3
   ·
    replace hM := hM.1 c_3
    refine HO.val (v := .pointer (some ⟨b_1, 1, none⟩)) (want_by rfl rfl c_3) rfl (q_fieldAddr fa_28_1 rfl rfl) ?_
    refine HO.val (v := .pointer (some ⟨b_1, 1, none⟩)) (want_by rfl rfl c_3) rfl (q_idxA (o := 1) (t := 0) tr_26 rfl rfl ⟨by decide, by decide⟩) ?_
    refine HO.val (v := .int .u8 (b8 a.2 0)) (want_by rfl rfl c_3) rfl (q_load to_5 rfl (Blk.cell (hS.box 0 rfl) rfl)) ?_
    refine HO.val (v := .bool (decide (224 ≤ (b8 a.2 0)))) (want_by rfl rfl c_3) rfl (q_geq rfl rfl) ?_
    refine HO.val (v := .bool (decide (224 ≤ (b8 a.2 0)))) (want_by rfl rfl c_2) rfl (q_pickK true rfl c_3 rfl) ?_
    refine HO.val (v := .bool (decide (224 ≤ (b8 a.2 0)))) (want_by rfl rfl c_2) rfl (q_move rfl) ?_
    rcases Bool.eq_false_or_eq_true (decide (224 ≤ (b8 a.2 0))) with c_4 | c_4
    ·
     replace hM := hM.1 (of_decide_eq_true c_4)
     refine HO.val (v := .pointer (some ⟨b_1, 1, none⟩)) (want_by rfl rfl c_4) rfl (q_fieldAddr fa_28_1 rfl rfl) ?_
     refine HO.val (v := .pointer (some ⟨b_1, 1, none⟩)) (want_by rfl rfl c_4) rfl (q_idxA (o := 1) (t := 0) tr_26 rfl rfl ⟨by decide, by decide⟩) ?_
     refine HO.val (v := .int .u8 (b8 a.2 0)) (want_by rfl rfl c_4) rfl (q_load to_5 rfl (Blk.cell (hS.box 0 rfl) rfl)) ?_
     refine HO.val (v := .bool (decide ((b8 a.2 0) ≤ 239))) (want_by rfl rfl c_4) rfl (q_leq rfl rfl) ?_
     refine HO.val (v := .bool (decide ((b8 a.2 0) ≤ 239))) (want_by rfl rfl c_2) rfl (q_pickK true rfl c_4 rfl) ?_
     refine oV (.bool (decide ((b8 a.2 0) ≤ 239))) (q_pickK false rfl c_2 rfl) rfl ?_
     refine oA (.bool (decide ((b8 a.2 0) ≤ 239))) rfl rfl ?_
     refine HO.nil (thenQ_normal (?_))
     refine HW.ret (?_)
     refine ⟨.inr rfl, .bool (decide ((b8 a.2 0) ≤ 239)), res1 rfl (rt rfl), ?_⟩
     replace hS : St F (fr) h_1 := hS.perm2 [] 1 rfl rfl
     exact ⟨F, decide ((b8 a.2 0) ≤ 239), rfl, hK, hS, hM⟩
    ·
     replace hM := hM.2 (of_decide_eq_false c_4)
     refine HO.past (past_by rfl rfl c_4) rfl ?_
     refine HO.past (past_by rfl rfl c_4) rfl ?_
     refine HO.past (past_by rfl rfl c_4) rfl ?_
     refine HO.past (past_by rfl rfl c_4) rfl ?_
     refine HO.val (v := .bool false) (want_by rfl rfl c_2) rfl (q_pickK false rfl c_4 rfl) ?_
     refine oV (.bool false) (q_pickK false rfl c_2 rfl) rfl ?_
     refine oA (.bool false) rfl rfl ?_
     refine HO.nil (thenQ_normal (?_))
     refine HW.ret (?_)
     refine ⟨.inr rfl, .bool false, res1 rfl (rt rfl), ?_⟩
     replace hS : St F (fr) h_1 := hS.perm2 [] 1 rfl rfl
     exact ⟨F, false, rfl, hK, hS, hM⟩
   ·
    replace hM := hM.2 c_3
    refine HO.past (past_by rfl rfl c_3) rfl ?_
    refine HO.past (past_by rfl rfl c_3) rfl ?_
    refine HO.past (past_by rfl rfl c_3) rfl ?_
    refine HO.past (past_by rfl rfl c_3) rfl ?_
    refine HO.val (v := .bool false) (want_by rfl rfl c_2) rfl (q_pickK false rfl c_3 rfl) ?_
    refine HO.val (v := .bool false) (want_by rfl rfl c_2) rfl (q_move rfl) ?_
    refine HO.past (past_some rfl rfl) rfl ?_
    refine HO.past (past_some rfl rfl) rfl ?_
    refine HO.past (past_some rfl rfl) rfl ?_
    refine HO.past (past_some rfl rfl) rfl ?_
    refine HO.val (v := .bool false) (want_by rfl rfl c_2) rfl (q_pick rfl rfl) ?_
    refine oV (.bool false) (q_pickK false rfl c_2 rfl) rfl ?_
    refine oA (.bool false) rfl rfl ?_
    refine HO.nil (thenQ_normal (?_))
    refine HW.ret (?_)
    refine ⟨.inr rfl, .bool false, res1 rfl (rt rfl), ?_⟩
    replace hS : St F (fr) h_1 := hS.perm2 [] 1 rfl rfl
    exact ⟨F, false, rfl, hK, hS, hM⟩
 ·
  replace hM := hM.2 c_1
  refine HO.past (past_by rfl rfl c_1) rfl ?_
  refine HO.past (past_by rfl rfl c_1) rfl ?_
  refine HO.past (past_by rfl rfl c_1) rfl ?_
  refine HO.past (past_by rfl rfl c_1) rfl ?_
  refine oV (.bool false) (q_pickK false rfl c_1 rfl) rfl ?_
  refine oM (.bool false) rfl rfl ?_
  refine HO.val (v := .pointer (some ⟨b_1, 0, none⟩)) (want_some rfl rfl) rfl (q_fieldAddr fa_28_0 rfl rfl) ?_
  refine HO.val (v := .bool a.1) (want_some rfl rfl) rfl (q_load to_4 rfl (Blk.cell (hS.box 0 rfl) rfl)) ?_
  refine HO.val (v := .bool (!a.1)) (want_some rfl rfl) rfl (q_not rfl) ?_
  refine HO.val (v := .bool (!a.1)) (want_some rfl rfl) rfl (q_move rfl) ?_
  rcases Bool.eq_false_or_eq_true (!a.1) with c_5 | c_5
  ·
   replace hM := hM.1 c_5
   refine HO.val (v := .pointer (some ⟨b_1, 1, none⟩)) (want_by rfl rfl c_5) rfl (q_fieldAddr fa_28_1 rfl rfl) ?_
   refine HO.val (v := .pointer (some ⟨b_1, 1, none⟩)) (want_by rfl rfl c_5) rfl (q_idxA (o := 1) (t := 0) tr_26 rfl rfl ⟨by decide, by decide⟩) ?_
   refine HO.val (v := .int .u8 (b8 a.2 0)) (want_by rfl rfl c_5) rfl (q_load to_5 rfl (Blk.cell (hS.box 0 rfl) rfl)) ?_
   refine HO.val (v := .bool (decide (224 ≤ (b8 a.2 0)))) (want_by rfl rfl c_5) rfl (q_geq rfl rfl) ?_
   refine HO.val (v := .bool (decide (224 ≤ (b8 a.2 0)))) (want_some rfl rfl) rfl (q_pickK true rfl c_5 rfl) ?_
   refine HO.val (v := .bool (decide (224 ≤ (b8 a.2 0)))) (want_some rfl rfl) rfl (q_move rfl) ?_
   rcases Bool.eq_false_or_eq_true (decide (224 ≤ (b8 a.2 0))) with c_6 | c_6
   ·
    replace hM := hM.1 (of_decide_eq_true c_6)
    refine HO.val (v := .pointer (some ⟨b_1, 1, none⟩)) (want_by rfl rfl c_6) rfl (q_fieldAddr fa_28_1 rfl rfl) ?_
    refine HO.val (v := .pointer (some ⟨b_1, 1, none⟩)) (want_by rfl rfl c_6) rfl (q_idxA (o := 1) (t := 0) tr_26 rfl rfl ⟨by decide, by decide⟩) ?_
    refine HO.val (v := .int .u8 (b8 a.2 0)) (want_by rfl rfl c_6) rfl (q_load to_5 rfl (Blk.cell (hS.box 0 rfl) rfl)) ?_
    refine HO.val (v := .bool (decide ((b8 a.2 0) ≤ 239))) (want_by rfl rfl c_6) rfl (q_leq rfl rfl) ?_
    refine HO.val (v := .bool (decide ((b8 a.2 0) ≤ 239))) (want_some rfl rfl) rfl (q_pickK true rfl c_6 rfl) ?_
    refine oV (.bool (decide ((b8 a.2 0) ≤ 239))) (q_pick rfl rfl) rfl ?_
    refine oA (.bool (decide ((b8 a.2 0) ≤ 239))) rfl rfl ?_
    refine HO.nil (thenQ_normal (?_))
    refine HW.ret (?_)
    refine ⟨.inr rfl, .bool (decide ((b8 a.2 0) ≤ 239)), res1 rfl (rt rfl), ?_⟩
    replace hS : St F (fr) h_1 := hS.perm2 [] 1 rfl rfl
    exact ⟨F, decide ((b8 a.2 0) ≤ 239), rfl, hK, hS, hM⟩
   ·
    replace hM := hM.2 (of_decide_eq_false c_6)
    refine HO.past (past_by rfl rfl c_6) rfl ?_
    refine HO.past (past_by rfl rfl c_6) rfl ?_
    refine HO.past (past_by rfl rfl c_6) rfl ?_
    refine HO.past (past_by rfl rfl c_6) rfl ?_
    refine HO.val (v := .bool false) (want_some rfl rfl) rfl (q_pickK false rfl c_6 rfl) ?_
    refine oV (.bool false) (q_pick rfl rfl) rfl ?_
    refine oA (.bool false) rfl rfl ?_
    refine HO.nil (thenQ_normal (?_))
    refine HW.ret (?_)
    refine ⟨.inr rfl, .bool false, res1 rfl (rt rfl), ?_⟩
    replace hS : St F (fr) h_1 := hS.perm2 [] 1 rfl rfl
    exact ⟨F, false, rfl, hK, hS, hM⟩
  ·
   replace hM := hM.2 c_5
   refine HO.past (past_by rfl rfl c_5) rfl ?_
   refine HO.past (past_by rfl rfl c_5) rfl ?_
   refine HO.past (past_by rfl rfl c_5) rfl ?_
   refine HO.past (past_by rfl rfl c_5) rfl ?_
   refine HO.val (v := .bool false) (want_some rfl rfl) rfl (q_pickK false rfl c_5 rfl) ?_
   refine HO.val (v := .bool false) (want_some rfl rfl) rfl (q_move rfl) ?_
   refine HO.past (past_some rfl rfl) rfl ?_
   refine HO.past (past_some rfl rfl) rfl ?_
   refine HO.past (past_some rfl rfl) rfl ?_
   refine HO.past (past_some rfl rfl) rfl ?_
   refine HO.val (v := .bool false) (want_some rfl rfl) rfl (q_pick rfl rfl) ?_
   refine oV (.bool false) (q_pick rfl rfl) rfl ?_
   refine oA (.bool false) rfl rfl ?_
   refine HO.nil (thenQ_normal (?_))
   refine HW.ret (?_)
   refine ⟨.inr rfl, .bool false, res1 rfl (rt rfl), ?_⟩
   replace hS : St F (fr) h_1 := hS.perm2 [] 1 rfl rfl
   exact ⟨F, false, rfl, hK, hS, hM⟩
def ref22_Q_find_l1 (q_L : List TrO) (g : TA) (ps : List (SV × List TrL)) (Q : Int → (List (SV × List TrL)) → Prop) (K_1 : Int → Prop) (i_1 : Int) : Prop :=
 (i_1 < (q_L.length : Int) → ((0 : Int) ≤ i_1 ∧ i_1 < (q_L.length : Int)) ∧ (((((gi q_L i_1).1) : TA) = g → Q i_1 ps) ∧ (¬ ((((gi q_L i_1).1) : TA) = g) → (I64 (i_1 + 1)) ∧ (K_1 (i_1 + 1))))) ∧ (¬ (i_1 < (q_L.length : Int)) → Q (-1) ps)
def ref22_Q_find_W (q_Now : Int) (q_On : Bool) (q_At : Int) (q_First : Int) (q_L : List TrO) (g : TA) (ps : List (SV × List TrL)) (Q : Int → (List (SV × List TrL)) → Prop) : Prop :=
 loopW (fun (K_1 : Int → Prop) (s : Int) => ref22_Q_find_l1 q_L g ps Q K_1 s) 0
theorem ref22_Q_find_walk {F : Fz} {fr : List Ow} {h0 : Heap} (q_Now : Int) (q_On : Bool) (q_At : Int) (q_First : Int) (q_L : List TrO) (g : TA) (ps : List (SV × List TrL)) (bq : Nat) (vq_L : Value) (hS : St F (Ow.pool 190 18 erL ps :: fr) h0) (hL_q_L : SliceF F h0 20 erO vq_L q_L) (hB_bq : RoF (Ow.box bq 95 #[.int .i64 q_Now, .bool q_On, .int .i64 q_At, .int .i64 q_First, vq_L]) F h0) {Q : Int → (List (SV × List TrL)) → Prop} (hM : ref22_Q_find_W q_Now q_On q_At q_First q_L g ps Q) :
  HC Tryz.prog 119 #[.pointer (some ⟨bq, 0, none⟩), .agg (eA g).toArray] h0 fun u h' => ∃ (F' : Fz) (r_1 : Int) (ps_1 : List (SV × List TrL)), u = .int .i64 r_1 ∧ Kp F h0 F' h' ∧ St F' (Ow.pool 190 18 erL ps_1 :: fr) h' ∧ (SliceF F' h' 20 erO vq_L q_L) ∧ (RoF (Ow.box bq 95 #[.int .i64 q_Now, .bool q_On, .int .i64 q_At, .int .i64 q_First, vq_L]) F' h') ∧ Q r_1 ps_1 := by
 unfold ref22_Q_find_W at hM
 have hK := Kp.refl F h0
 refine HC.of_HW (n := 26) Tryz.func119 rfl rfl (Nat.le_of_ble_eq_true rfl) ?_
 refine HW.seq ?_
 refine HW.region ?_
 refine HO.eff (want_none) rfl (st_box (c := (eA g).toArray) (k' := 17) hS rfl rfl) ?_
 rintro _ h_1 ⟨b_1, rfl, hS, hk⟩
 replace hK := hK.trans hk
 replace hL_q_L := hL_q_L.kp hk
 replace hB_bq := hB_bq.kp hk
 refine oA (.int .i64 0) rfl rfl ?_
 refine HO.nil (thenQ_normal (?_))
 refine HW.seq ?_
 refine HW.seq ?_
 refine HW.region ?_
 refine oA (.int .i64 0) rfl rfl ?_
 refine HO.nil (thenQ_normal (?_))
 refine HW.block ?_
 obtain ⟨I_1, m_1, hI_1, hR_1⟩ := hM
 replace hS : St F (Ow.pool 190 18 erL ps :: Ow.box b_1 28 (eA g).toArray :: fr) h_1 := hS.perm2 [1, 0] 2 rfl rfl
 refine HW.loop (S := Int) (fun i_1 f h => ∃ (F' : Fz), f 0 = .pointer (some ⟨bq, 0, none⟩) ∧ f 3 = .pointer (some ⟨b_1, 0, none⟩) ∧ f 4 = .int .i64 0 ∧ f 5 = .int .i64 i_1 ∧ Kp F h0 F' h ∧ St F' (Ow.pool 190 18 erL ps :: Ow.box b_1 28 (eA g).toArray :: fr) h ∧ (SliceF F' h 20 erO vq_L q_L) ∧ (RoF (Ow.box bq 95 #[.int .i64 q_Now, .bool q_On, .int .i64 q_At, .int .i64 q_First, vq_L]) F' h) ∧ I_1 i_1) m_1 0 ⟨F, rfl, rfl, rfl, rfl, hK, hS, hL_q_L, hB_bq, hI_1⟩ ?_
 rintro i_1 f_1 h_2 ⟨F_1, e0, e3, e4, e5, hK, hS, hL_q_L, hB_bq, hI0⟩
 obtain ⟨K_1, hKe_1⟩ : ∃ K : Int → Prop, K = fun i_1' => I_1 i_1' ∧ m_1 i_1' < m_1 i_1 := ⟨_, rfl⟩
 have hM : ref22_Q_find_l1 q_L g ps Q K_1 i_1 := by rw [hKe_1]; exact hR_1 i_1 hI0
 unfold ref22_Q_find_l1 at hM
 refine HW.fr [(0, .pointer (some ⟨bq, 0, none⟩)), (3, .pointer (some ⟨b_1, 0, none⟩)), (4, .int .i64 0), (5, .int .i64 i_1)] ⟨e0, e3, e4, e5, trivial⟩ ?_
 refine HW.seq ?_
 refine HW.seq ?_
 refine HW.region ?_
 refine oM (.int .i64 i_1) rfl rfl ?_
 refine oM (.pointer (some ⟨bq, 0, none⟩)) rfl rfl ?_
 refine oV (.pointer (some ⟨bq, 0, none⟩)) (q_nilCheck rfl) rfl ?_
 refine oV (.pointer (some ⟨bq, 4, none⟩)) (q_fieldAddr fa_95_4 rfl rfl) rfl ?_
 refine oV (vq_L) (q_load to_93 rfl (Blk.cell hB_bq.box rfl)) rfl ?_
 refine oV (.int .i64 (q_L.length : Int)) (q_len ts_93 (shp hL_q_L.is) rfl rfl) rfl ?_
 refine oV (.bool (decide (i_1 < (q_L.length : Int)))) (q_lss rfl rfl) rfl ?_
 refine HO.nil (thenQ_normal (?_))
 refine HW.cond (decide (i_1 < (q_L.length : Int))) rfl (fun c_1 => ?_) (fun c_1 => ?_)
 ·
  replace hM := hM.1 (of_decide_eq_true c_1)
  refine HW.skip (thenQ_normal (?_))
  refine HW.seq ?_
  refine HW.block ?_
  refine HW.seq ?_
  refine HW.regionA 10 mixed (fun h => (SliceIs h 20 erO vq_L q_L) ∧ (Blk h bq (.cells #[.int .i64 q_Now, .bool q_On, .int .i64 q_At, .int .i64 q_First, vq_L] 95 (0, 0))) ∧ (PoolIs h 190 18 erL ps) ∧ (Blk h b_1 (.cells (eA g).toArray 28 (0, 0)))) [] (by kernel_rfl) ?_
  refine HA.val (k := 0) (v := .pointer (some ⟨bq, 0, none⟩)) rfl rfl (by kernel_rfl) (by kernel_rfl) (want_none) rfl (fun _ ⟨hL_q_L, hB_bq, c304, c305⟩ => q_move rfl) ?_
  refine HA.val (k := 1) (v := .pointer (some ⟨bq, 0, none⟩)) rfl rfl (by kernel_rfl) (by kernel_rfl) (want_none) rfl (fun _ ⟨hL_q_L, hB_bq, c304, c305⟩ => q_nilCheck rfl) ?_
  refine HA.val (k := 2) (v := .pointer (some ⟨bq, 4, none⟩)) rfl rfl (by kernel_rfl) (by kernel_rfl) (want_none) rfl (fun _ ⟨hL_q_L, hB_bq, c304, c305⟩ => q_fieldAddr fa_95_4 rfl rfl) ?_
  refine HA.val (k := 3) (v := vq_L) rfl rfl (by kernel_rfl) (by kernel_rfl) (want_none) rfl (fun _ ⟨hL_q_L, hB_bq, c304, c305⟩ => q_load to_93 rfl (Blk.cell hB_bq rfl)) ?_
  refine HA.val (k := 4) (v := .int .i64 i_1) rfl rfl (by kernel_rfl) (by kernel_rfl) (want_none) rfl (fun _ ⟨hL_q_L, hB_bq, c304, c305⟩ => q_move rfl) ?_
  obtain ⟨ho_1, hM⟩ := hM
  refine HA.val (k := 5) (v := elemPtr 20 vq_L (i_1).toNat) rfl rfl (by kernel_rfl) (by kernel_rfl) (want_none) rfl (fun _ ⟨hL_q_L, hB_bq, c304, c305⟩ => q_idx ts_93 hL_q_L rfl rfl ho_1) ?_
  refine HA.val (k := 6) (v := fieldPtr 20 vq_L (i_1).toNat 0) rfl rfl (by kernel_rfl) (by kernel_rfl) (want_none) rfl (fun _ ⟨hL_q_L, hB_bq, c304, c305⟩ => q_fldElem fa_184_0 hL_q_L rfl ho_1) ?_
  refine HA.val (k := 7) (v := .agg (eA ((gi q_L i_1).1)).toArray) rfl rfl (by kernel_rfl) (by kernel_rfl) (want_none) rfl (fun _ ⟨hL_q_L, hB_bq, c304, c305⟩ => q_ldFieldAgg (n := 17) (cs := (eA ((gi q_L i_1).1))) ta_28 hL_q_L rfl ho_1 (by decide) rfl) ?_
  refine HA.val (k := 8) (v := .agg (eA g).toArray) rfl rfl (by kernel_rfl) (by kernel_rfl) (want_none) rfl (fun _ ⟨hL_q_L, hB_bq, c304, c305⟩ => q_loadAgg (cs := (eA g)) ta_28 rfl rfl (Blk.cells (k := 17) c305 rfl)) ?_
  refine HA.val (k := 9) (v := .bool (decide ((((gi q_L i_1).1) : TA) = g))) rfl rfl (by kernel_rfl) (by kernel_rfl) (want_none) rfl (fun _ ⟨hL_q_L, hB_bq, c304, c305⟩ => q_eqlAgg (a := ((gi q_L i_1).1)) (b := g) (fun a b w => teq_28 9997 a b w) (by kernel_rfl) rfl rfl rfl rfl) ?_
  refine HA.nil ⟨⟨hL_q_L.is, hB_bq.box, (hS.pl 0 rfl), (hS.box 1 rfl)⟩, (Go.Wk.at_nil _ _)⟩ (by kernel_rfl) (thenQ_normal (?_))
  refine HW.cond (decide ((((gi q_L i_1).1) : TA) = g)) rfl (fun c_2 => ?_) (fun c_2 => ?_)
  ·
   replace hM := hM.1 (of_decide_eq_true c_2)
   refine HW.seq ?_
   refine HW.region ?_
   refine oM (.int .i64 i_1) rfl rfl ?_
   refine oA (.int .i64 i_1) rfl rfl ?_
   refine HO.nil (thenQ_normal (?_))
   refine HW.ret (blockQ_ret (thenQ_ret (thenQ_ret (blockQ_ret (thenQ_ret (?_))))))
   refine ⟨.inr rfl, .int .i64 i_1, res1 rfl (rt rfl), ?_⟩
   replace hS : St F_1 (Ow.pool 190 18 erL ps :: fr) h_2 := hS.perm2 [0] 2 rfl rfl
   exact ⟨F_1, i_1, ps, rfl, hK, hS, hL_q_L, hB_bq, hM⟩
  ·
   replace hM := hM.2 (of_decide_eq_false c_2)
   refine HW.skip (blockQ_normal (thenQ_normal (?_)))
   refine HW.region ?_
   refine oM (.int .i64 i_1) rfl rfl ?_
   obtain ⟨ho_2, hM⟩ := hM
   refine oV (.int .i64 (i_1 + 1)) (q_addN _ rfl rfl rfl ho_2.1 ho_2.2) rfl ?_
   refine oA (.int .i64 (i_1 + 1)) rfl rfl ?_
   refine HO.nil (thenQ_normal (?_))
   rw [hKe_1] at hM
   exact ⟨i_1 + 1, ⟨F_1, rfl, rfl, rfl, rfl, hK, hS, hL_q_L, hB_bq, hM.1⟩, hM.2⟩
 ·
  replace hM := hM.2 (of_decide_eq_false c_1)
  refine HW.exit (thenQ_exit (thenQ_exit (blockQ_exit (thenQ_normal (?_)))))
  refine HW.seq ?_
  refine HW.region ?_
  refine oA (.int .i64 (-1)) rfl rfl ?_
  refine HO.nil (thenQ_normal (?_))
  refine HW.ret (?_)
  refine ⟨.inr rfl, .int .i64 (-1), res1 rfl (rt rfl), ?_⟩
  replace hS : St F_1 (Ow.pool 190 18 erL ps :: fr) h_2 := hS.perm2 [0] 2 rfl rfl
  exact ⟨F_1, (-1), ps, rfl, hK, hS, hL_q_L, hB_bq, hM⟩
def ref22_set_j1 (l : List TrL) (a : TA) (n : Int) (Q : (List TrL) → Prop) (n_1 : Int) : Prop :=
 ((0 : Int) ≤ n_1 ∧ n_1 ≤ (l.length : Int)) ∧ (((0 : Int) ≤ 0 ∧ 0 ≤ n_1 ∧ n_1 ≤ (l.length : Int)) ∧ (((([] : List TrL).length + (cut l 0 n_1).length) * 32 ≤ 140737488355328) ∧ ((((([] : List TrL) ++ (cut l 0 n_1)).length + ([(a, n)] : List TrL).length) * 32 ≤ 140737488355328) ∧ (((0 : Int) ≤ n_1 ∧ n_1 ≤ (l.length : Int) ∧ (l.length : Int) ≤ (l.length : Int)) ∧ (((((([] : List TrL) ++ (cut l 0 n_1)) ++ ([(a, n)] : List TrL)).length + (cut l n_1 (l.length : Int)).length) * 32 ≤ 140737488355328) ∧ (Q (((([] : List TrL) ++ (cut l 0 n_1)) ++ ([(a, n)] : List TrL)) ++ (cut l n_1 (l.length : Int)))))))))
def ref22_set_l2 (l : List TrL) (a : TA) (n : Int) (Q : (List TrL) → Prop) (K_2 : Int → Prop) (n_2 : Int) : Prop :=
 (n_2 < (l.length : Int) → ((0 : Int) ≤ n_2 ∧ n_2 < (l.length : Int)) ∧ (ref03_Cmp_W ((gi l n_2).1) a (fun r_2 => (r_2 < 0 → (I64 (n_2 + 1)) ∧ (K_2 (n_2 + 1))) ∧ (¬ (r_2 < 0) → ref22_set_j1 l a n Q n_2)))) ∧ (¬ (n_2 < (l.length : Int)) → ref22_set_j1 l a n Q n_2)
def ref22_set_l1 (l : List TrL) (a : TA) (n : Int) (Q : (List TrL) → Prop) (K_1 : Int → Prop) (i_1 : Int) : Prop :=
 (i_1 < (l.length : Int) → ((0 : Int) ≤ i_1 ∧ i_1 < (l.length : Int)) ∧ (((((gi l i_1).1) : TA) = a → Q (l.set (i_1).toNat (((gi l i_1).1), n))) ∧ (¬ ((((gi l i_1).1) : TA) = a) → (I64 (i_1 + 1)) ∧ (K_1 (i_1 + 1))))) ∧ (¬ (i_1 < (l.length : Int)) → (64 ≤ (l.length : Int) → Q l) ∧ (¬ (64 ≤ (l.length : Int)) → loopW (fun (K_2 : Int → Prop) (s : Int) => ref22_set_l2 l a n Q K_2 s) 0))
def ref22_set_W (l : List TrL) (a : TA) (n : Int) (Q : (List TrL) → Prop) : Prop :=
 loopW (fun (K_1 : Int → Prop) (s : Int) => ref22_set_l1 l a n Q K_1 s) 0
theorem ref22_set_walk {F : Fz} {fr : List Ow} {h0 : Heap} (l : List TrL) (a : TA) (n : Int) (vl : Value) (hS : St F (Ow.own 190 18 erL vl l :: fr) h0)  {Q : (List TrL) → Prop} (hM : ref22_set_W l a n Q) :
  HC Tryz.prog 120 #[vl, .agg (eA a).toArray, .int .i64 n] h0 fun u h' => ∃ (F' : Fz) (r_1 : List TrL) (vr_1 : Value), u = vr_1 ∧ Kp F h0 F' h' ∧ St F' (Ow.own 190 18 erL vr_1 r_1 :: fr) h' ∧ Q r_1 := by
 unfold ref22_set_W at hM
 have hK := Kp.refl F h0
 refine HC.of_HW (n := 62) Tryz.func120 rfl rfl (Nat.le_of_ble_eq_true rfl) ?_
 refine HW.seq ?_
 refine HW.region ?_
 refine HO.eff (want_none) rfl (st_box (c := (eA a).toArray) (k' := 17) hS rfl rfl) ?_
 rintro _ h_1 ⟨b_1, rfl, hS, hk⟩
 replace hK := hK.trans hk
 refine oA (.slice none 0 0) rfl rfl ?_
 refine HO.nil (thenQ_normal (?_))
 refine HW.seq ?_
 refine HW.seq ?_
 refine HW.region ?_
 refine oA (.int .i64 0) rfl rfl ?_
 refine HO.nil (thenQ_normal (?_))
 refine HW.block ?_
 obtain ⟨I_1, m_1, hI_1, hR_1⟩ := hM
 replace hS : St F (Ow.own 190 18 erL vl l :: Ow.box b_1 28 (eA a).toArray :: fr) h_1 := hS.perm2 [1, 0] 2 rfl rfl
 refine HW.loop (S := Int) (fun i_1 f h => ∃ (F' : Fz), f 0 = vl ∧ f 2 = .int .i64 n ∧ f 4 = .pointer (some ⟨b_1, 0, none⟩) ∧ f 6 = .slice none 0 0 ∧ f 7 = .int .i64 i_1 ∧ Kp F h0 F' h ∧ St F' (Ow.own 190 18 erL vl l :: Ow.box b_1 28 (eA a).toArray :: fr) h ∧ I_1 i_1) m_1 0 ⟨F, rfl, rfl, rfl, rfl, rfl, hK, hS, hI_1⟩ ?_
 rintro i_1 f_1 h_2 ⟨F_1, e0, e2, e4, e6, e7, hK, hS, hI0⟩
 obtain ⟨K_1, hKe_1⟩ : ∃ K : Int → Prop, K = fun i_1' => I_1 i_1' ∧ m_1 i_1' < m_1 i_1 := ⟨_, rfl⟩
 have hM : ref22_set_l1 l a n Q K_1 i_1 := by rw [hKe_1]; exact hR_1 i_1 hI0
 unfold ref22_set_l1 at hM
 refine HW.fr [(0, vl), (2, .int .i64 n), (4, .pointer (some ⟨b_1, 0, none⟩)), (6, .slice none 0 0), (7, .int .i64 i_1)] ⟨e0, e2, e4, e6, e7, trivial⟩ ?_
 refine HW.seq ?_
 refine HW.seq ?_
 refine HW.region ?_
 refine oM (.int .i64 i_1) rfl rfl ?_
 refine oM (vl) rfl rfl ?_
 refine oV (.int .i64 (l.length : Int)) (q_len ts_182 (shp (hS.own 0 rfl).slice) rfl rfl) rfl ?_
 refine oV (.bool (decide (i_1 < (l.length : Int)))) (q_lss rfl rfl) rfl ?_
 refine HO.nil (thenQ_normal (?_))
 refine HW.cond (decide (i_1 < (l.length : Int))) rfl (fun c_1 => ?_) (fun c_1 => ?_)
 ·
  replace hM := hM.1 (of_decide_eq_true c_1)
  refine HW.skip (thenQ_normal (?_))
  refine HW.seq ?_
  refine HW.block ?_
  refine HW.seq ?_
  refine HW.regionA 7 mixed (fun h => (OwnIs h 0 190 18 erL vl l) ∧ (Blk h b_1 (.cells (eA a).toArray 28 (0, 0)))) [] (by kernel_rfl) ?_
  refine HA.val (k := 0) (v := vl) rfl rfl (by kernel_rfl) (by kernel_rfl) (want_none) rfl (fun _ ⟨c304, c305⟩ => q_move rfl) ?_
  refine HA.val (k := 1) (v := .int .i64 i_1) rfl rfl (by kernel_rfl) (by kernel_rfl) (want_none) rfl (fun _ ⟨c304, c305⟩ => q_move rfl) ?_
  obtain ⟨ho_1, hM⟩ := hM
  refine HA.val (k := 2) (v := elemPtr 18 vl (i_1).toNat) rfl rfl (by kernel_rfl) (by kernel_rfl) (want_none) rfl (fun _ ⟨c304, c305⟩ => q_idx ts_182 c304.slice rfl rfl ho_1) ?_
  refine HA.val (k := 3) (v := fieldPtr 18 vl (i_1).toNat 0) rfl rfl (by kernel_rfl) (by kernel_rfl) (want_none) rfl (fun _ ⟨c304, c305⟩ => q_fldElem fa_190_0 c304.slice rfl ho_1) ?_
  refine HA.val (k := 4) (v := .agg (eA ((gi l i_1).1)).toArray) rfl rfl (by kernel_rfl) (by kernel_rfl) (want_none) rfl (fun _ ⟨c304, c305⟩ => q_ldFieldAgg (n := 17) (cs := (eA ((gi l i_1).1))) ta_28 c304.slice rfl ho_1 (by decide) rfl) ?_
  refine HA.val (k := 5) (v := .agg (eA a).toArray) rfl rfl (by kernel_rfl) (by kernel_rfl) (want_none) rfl (fun _ ⟨c304, c305⟩ => q_loadAgg (cs := (eA a)) ta_28 rfl rfl (Blk.cells (k := 17) c305 rfl)) ?_
  refine HA.val (k := 6) (v := .bool (decide ((((gi l i_1).1) : TA) = a))) rfl rfl (by kernel_rfl) (by kernel_rfl) (want_none) rfl (fun _ ⟨c304, c305⟩ => q_eqlAgg (a := ((gi l i_1).1)) (b := a) (fun a b w => teq_28 9997 a b w) (by kernel_rfl) rfl rfl rfl rfl) ?_
  refine HA.nil ⟨⟨(hS.own 0 rfl), (hS.box 1 rfl)⟩, (Go.Wk.at_nil _ _)⟩ (by kernel_rfl) (thenQ_normal (?_))
  refine HW.cond (decide ((((gi l i_1).1) : TA) = a)) rfl (fun c_2 => ?_) (fun c_2 => ?_)
  ·
   replace hM := hM.1 (of_decide_eq_true c_2)
   refine HW.seq ?_
   refine HW.region ?_
   refine oM (vl) rfl rfl ?_
   refine oM (.int .i64 i_1) rfl rfl ?_
   refine oM (.int .i64 n) rfl rfl ?_
   refine oV (elemPtr 18 vl (i_1).toNat) (q_idx ts_182 (hS.own 0 rfl).slice rfl rfl ho_1) rfl ?_
   refine oV (fieldPtr 18 vl (i_1).toNat 17) (q_fldElem fa_190_1 (hS.own 0 rfl).slice rfl ho_1) rfl ?_
   refine HO.sto (want_none) rfl (st_storeField (a := (((gi l i_1).1), n)) (n := (i_1).toNat) (j := 17) hS (i := 0) rfl to_3 rfl (by omega) (by decide) rfl (by rw [← gi_lt ho_1.1 ho_1.2]; rfl) rfl rfl) ?_
   rintro h_3 ⟨hS, hk⟩
   replace hK := hK.trans hk
   refine HO.nil (thenQ_normal (?_))
   refine HW.seq ?_
   refine HW.region ?_
   refine oM (vl) rfl rfl ?_
   refine oA (vl) rfl rfl ?_
   refine HO.nil (thenQ_normal (?_))
   refine HW.ret (blockQ_ret (thenQ_ret (thenQ_ret (blockQ_ret (thenQ_ret (?_))))))
   refine ⟨.inr rfl, vl, res1 rfl (rt rfl), ?_⟩
   replace hS : St F_1 (Ow.own 190 18 erL vl (l.set (i_1).toNat (((gi l i_1).1), n)) :: fr) h_3 := hS.perm2 [0] 2 rfl rfl
   exact ⟨F_1, l.set (i_1).toNat (((gi l i_1).1), n), vl, rfl, hK, hS, hM⟩
  ·
   replace hM := hM.2 (of_decide_eq_false c_2)
   refine HW.skip (blockQ_normal (thenQ_normal (?_)))
   refine HW.region ?_
   refine oM (.int .i64 i_1) rfl rfl ?_
   obtain ⟨ho_2, hM⟩ := hM
   refine oV (.int .i64 (i_1 + 1)) (q_addN _ rfl rfl rfl ho_2.1 ho_2.2) rfl ?_
   refine oA (.int .i64 (i_1 + 1)) rfl rfl ?_
   refine HO.nil (thenQ_normal (?_))
   rw [hKe_1] at hM
   exact ⟨i_1 + 1, ⟨F_1, rfl, rfl, rfl, rfl, rfl, hK, hS, hM.1⟩, hM.2⟩
 ·
  replace hM := hM.2 (of_decide_eq_false c_1)
  refine HW.exit (thenQ_exit (thenQ_exit (blockQ_exit (thenQ_normal (?_)))))
  refine HW.seq ?_
  refine HW.seq ?_
  refine HW.region ?_
  refine oM (vl) rfl rfl ?_
  refine oV (.int .i64 (l.length : Int)) (q_len ts_182 (shp (hS.own 0 rfl).slice) rfl rfl) rfl ?_
  refine oV (.bool (decide (64 ≤ (l.length : Int)))) (q_geq rfl rfl) rfl ?_
  refine HO.nil (thenQ_normal (?_))
  refine HW.cond (decide (64 ≤ (l.length : Int))) rfl (fun c_3 => ?_) (fun c_3 => ?_)
  ·
   replace hM := hM.1 (of_decide_eq_true c_3)
   refine HW.seq ?_
   refine HW.region ?_
   refine oM (vl) rfl rfl ?_
   refine oA (vl) rfl rfl ?_
   refine HO.nil (thenQ_normal (?_))
   refine HW.ret (thenQ_ret (?_))
   refine ⟨.inr rfl, vl, res1 rfl (rt rfl), ?_⟩
   replace hS : St F_1 (Ow.own 190 18 erL vl l :: fr) h_2 := hS.perm2 [0] 2 rfl rfl
   exact ⟨F_1, l, vl, rfl, hK, hS, hM⟩
  ·
   replace hM := hM.2 (of_decide_eq_false c_3)
   refine HW.skip (thenQ_normal (?_))
   refine HW.seq ?_
   refine HW.region ?_
   refine oA (.int .i64 0) rfl rfl ?_
   refine HO.nil (thenQ_normal (?_))
   refine HW.seq_mid (fun f h => ∃ (F' : Fz) (n_1 : Int), f 0 = vl ∧ f 2 = .int .i64 n ∧ f 4 = .pointer (some ⟨b_1, 0, none⟩) ∧ f 6 = .slice none 0 0 ∧ f 8 = .int .i64 n_1 ∧ Kp F h0 F' h ∧ St F' (Ow.own 190 18 erL vl l :: Ow.box b_1 28 (eA a).toArray :: fr) h ∧ ref22_set_j1 l a n Q n_1) ?_ ?_
   ·
    refine HW.block ?_
    obtain ⟨I_2, m_2, hI_2, hR_2⟩ := hM
    refine HW.loop (S := Int) (fun n_2 f h => ∃ (F' : Fz), f 0 = vl ∧ f 2 = .int .i64 n ∧ f 4 = .pointer (some ⟨b_1, 0, none⟩) ∧ f 6 = .slice none 0 0 ∧ f 8 = .int .i64 n_2 ∧ Kp F h0 F' h ∧ St F' (Ow.own 190 18 erL vl l :: Ow.box b_1 28 (eA a).toArray :: fr) h ∧ I_2 n_2) m_2 0 ⟨F_1, rfl, rfl, rfl, rfl, rfl, hK, hS, hI_2⟩ ?_
    rintro n_2 f_2 h_4 ⟨F_2, e0, e2, e4, e6, e8, hK, hS, hI0⟩
    obtain ⟨K_2, hKe_2⟩ : ∃ K : Int → Prop, K = fun n_2' => I_2 n_2' ∧ m_2 n_2' < m_2 n_2 := ⟨_, rfl⟩
    have hM : ref22_set_l2 l a n Q K_2 n_2 := by rw [hKe_2]; exact hR_2 n_2 hI0
    unfold ref22_set_l2 at hM
    refine HW.fr [(0, vl), (2, .int .i64 n), (4, .pointer (some ⟨b_1, 0, none⟩)), (6, .slice none 0 0), (8, .int .i64 n_2)] ⟨e0, e2, e4, e6, e8, trivial⟩ ?_
    refine HW.seq ?_
    refine HW.seq ?_
    refine HW.regionA 14 mixed (fun h => (OwnIs h 0 190 18 erL vl l) ∧ (Blk h b_1 (.cells (eA a).toArray 28 (0, 0)))) [] (by kernel_rfl) ?_
    refine HA.val (k := 0) (v := .int .i64 n_2) rfl rfl (by kernel_rfl) (by kernel_rfl) (want_none) rfl (fun _ ⟨c408, c409⟩ => q_move rfl) ?_
    refine HA.val (k := 1) (v := vl) rfl rfl (by kernel_rfl) (by kernel_rfl) (want_none) rfl (fun _ ⟨c408, c409⟩ => q_move rfl) ?_
    refine HA.val (k := 2) (v := .int .i64 (l.length : Int)) rfl rfl (by kernel_rfl) (by kernel_rfl) (want_none) rfl (fun _ ⟨c408, c409⟩ => q_len ts_182 (shp c408.slice) rfl rfl) ?_
    refine HA.val (k := 3) (v := .bool (decide (n_2 < (l.length : Int)))) rfl rfl (by kernel_rfl) (by kernel_rfl) (want_none) rfl (fun _ ⟨c408, c409⟩ => q_lss rfl rfl) ?_
    refine HA.val (k := 4) (v := .bool (decide (n_2 < (l.length : Int)))) rfl rfl (by kernel_rfl) (by kernel_rfl) (want_none) rfl (fun _ ⟨c408, c409⟩ => q_move rfl) ?_
    rcases Bool.eq_false_or_eq_true (decide (n_2 < (l.length : Int))) with c_4 | c_4
    ·
     replace hM := hM.1 (of_decide_eq_true c_4)
     refine HA.val (k := 5) (v := vl) rfl rfl (by kernel_rfl) (by kernel_rfl) (want_by rfl rfl c_4) rfl (fun _ ⟨c408, c409⟩ => q_move rfl) ?_
     refine HA.val (k := 6) (v := .int .i64 n_2) rfl rfl (by kernel_rfl) (by kernel_rfl) (want_by rfl rfl c_4) rfl (fun _ ⟨c408, c409⟩ => q_move rfl) ?_
     obtain ⟨ho_3, hM⟩ := hM
     refine HA.val (k := 7) (v := elemPtr 18 vl (n_2).toNat) rfl rfl (by kernel_rfl) (by kernel_rfl) (want_by rfl rfl c_4) rfl (fun _ ⟨c408, c409⟩ => q_idx ts_182 c408.slice rfl rfl ho_3) ?_
     refine HA.val (k := 8) (v := fieldPtr 18 vl (n_2).toNat 0) rfl rfl (by kernel_rfl) (by kernel_rfl) (want_by rfl rfl c_4) rfl (fun _ ⟨c408, c409⟩ => q_fldElem fa_190_0 c408.slice rfl ho_3) ?_
     refine HA.val (k := 9) (v := .agg (eA ((gi l n_2).1)).toArray) rfl rfl (by kernel_rfl) (by kernel_rfl) (want_by rfl rfl c_4) rfl (fun _ ⟨c408, c409⟩ => q_ldFieldAgg (n := 17) (cs := (eA ((gi l n_2).1))) ta_28 c408.slice rfl ho_3 (by decide) rfl) ?_
     refine HA.val (k := 10) (v := .agg (eA a).toArray) rfl rfl (by kernel_rfl) (by kernel_rfl) (want_by rfl rfl c_4) rfl (fun _ ⟨c408, c409⟩ => q_loadAgg (cs := (eA a)) ta_28 rfl rfl (Blk.cells (k := 17) c409 rfl)) ?_
     refine HA.one (k := 11) ⟨⟨(hS.own 0 rfl), (hS.box 1 rfl)⟩, (Go.Wk.at_nil _ _)⟩ (by kernel_rfl) ?_
     refine HS.call rfl (want_by rfl rfl c_4) rfl (ec en_100 rfl rfl) (ref03_Cmp_walk (fr := (Ow.own 190 18 erL vl l :: Ow.box b_1 28 (eA a).toArray :: fr)) ((gi l n_2).1) a hS hM) ?_
     rintro _ h_5 ⟨F_3, r_2, rfl, hk, hS, hM⟩
     replace hK := hK.trans hk
     refine HA.val (k := 12) (v := .bool (decide (r_2 < 0))) rfl rfl (by kernel_rfl) (by kernel_rfl) (want_by rfl rfl c_4) rfl (fun _ ⟨c408, c409⟩ => q_lss rfl rfl) ?_
     refine HA.val (k := 13) (v := .bool (decide (r_2 < 0))) rfl rfl (by kernel_rfl) (by kernel_rfl) (want_none) rfl (fun _ ⟨c408, c409⟩ => q_pickK true rfl c_4 rfl) ?_
     refine HA.nil ⟨⟨(hS.own 0 rfl), (hS.box 1 rfl)⟩, (Go.Wk.at_nil _ _)⟩ (by kernel_rfl) (thenQ_normal (?_))
     refine HW.cond (decide (r_2 < 0)) rfl (fun c_5 => ?_) (fun c_5 => ?_)
     ·
      replace hM := hM.1 (of_decide_eq_true c_5)
      refine HW.skip (thenQ_normal (?_))
      refine HW.block ?_
      refine HW.region ?_
      refine oM (.int .i64 n_2) rfl rfl ?_
      obtain ⟨ho_4, hM⟩ := hM
      refine oV (.int .i64 (n_2 + 1)) (q_addN _ rfl rfl rfl ho_4.1 ho_4.2) rfl ?_
      refine oA (.int .i64 (n_2 + 1)) rfl rfl ?_
      refine HO.nil (blockQ_normal (thenQ_normal (?_)))
      rw [hKe_2] at hM
      exact ⟨n_2 + 1, ⟨F_3, rfl, rfl, rfl, rfl, rfl, hK, hS, hM.1⟩, hM.2⟩
     ·
      replace hM := hM.2 (of_decide_eq_false c_5)
      refine HW.exit (thenQ_exit (thenQ_exit (blockQ_exit (thenQ_normal (?_)))))
      exact ⟨F_3, n_2, rfl, rfl, rfl, rfl, rfl, hK, hS, hM⟩
    ·
     replace hM := hM.2 (of_decide_eq_false c_4)
     refine HA.past (k := 5) rfl rfl (by kernel_rfl) (by kernel_rfl) (past_by rfl rfl c_4) rfl ?_
     refine HA.past (k := 6) rfl rfl (by kernel_rfl) (by kernel_rfl) (past_by rfl rfl c_4) rfl ?_
     refine HA.past (k := 7) rfl rfl (by kernel_rfl) (by kernel_rfl) (past_by rfl rfl c_4) rfl ?_
     refine HA.past (k := 8) rfl rfl (by kernel_rfl) (by kernel_rfl) (past_by rfl rfl c_4) rfl ?_
     refine HA.past (k := 9) rfl rfl (by kernel_rfl) (by kernel_rfl) (past_by rfl rfl c_4) rfl ?_
     refine HA.past (k := 10) rfl rfl (by kernel_rfl) (by kernel_rfl) (past_by rfl rfl c_4) rfl ?_
     refine HA.one (k := 11) ⟨⟨(hS.own 0 rfl), (hS.box 1 rfl)⟩, (Go.Wk.at_nil _ _)⟩ (by kernel_rfl) ?_
     refine HS.past rfl (past_by rfl rfl c_4) rfl ?_
     refine HA.past (k := 12) rfl rfl (by kernel_rfl) (by kernel_rfl) (past_by rfl rfl c_4) rfl ?_
     refine HA.val (k := 13) (v := .bool false) rfl rfl (by kernel_rfl) (by kernel_rfl) (want_none) rfl (fun _ ⟨c408, c409⟩ => q_pickK false rfl c_4 rfl) ?_
     refine HA.nil ⟨⟨(hS.own 0 rfl), (hS.box 1 rfl)⟩, (Go.Wk.at_nil _ _)⟩ (by kernel_rfl) (thenQ_normal (?_))
     refine HW.condF rfl ?_
     refine HW.exit (thenQ_exit (thenQ_exit (blockQ_exit (thenQ_normal (?_)))))
     exact ⟨F_2, n_2, rfl, rfl, rfl, rfl, rfl, hK, hS, hM⟩
   ·
    rintro f_3 h_6 ⟨F_4, n_1, e0, e2, e4, e6, e8, hK, hS, hM⟩
    unfold ref22_set_j1 at hM
    refine HW.fr [(0, vl), (2, .int .i64 n), (4, .pointer (some ⟨b_1, 0, none⟩)), (6, .slice none 0 0), (8, .int .i64 n_1)] ⟨e0, e2, e4, e6, e8, trivial⟩ ?_
    refine HW.seq ?_
    obtain ⟨ho_5, hM⟩ := hM
    obtain ⟨ho_6, hM⟩ := hM
    obtain ⟨ho_7, hM⟩ := hM
    obtain ⟨ho_8, hM⟩ := hM
    obtain ⟨ho_9, hM⟩ := hM
    obtain ⟨ho_10, hM⟩ := hM
    refine HW.regionA 15 mixed (fun h => (OwnIs h 0 190 18 erL vl l) ∧ (Blk h b_1 (.cells (eA a).toArray 28 (0, 0)))) [] (by kernel_rfl) ?_
    refine HA.val (k := 1) (v := vl) rfl rfl (by kernel_rfl) (by kernel_rfl) (want_none) rfl (fun _ ⟨c306, c307⟩ => q_move rfl) ?_
    refine HA.val (k := 2) (v := .int .i64 n_1) rfl rfl (by kernel_rfl) (by kernel_rfl) (want_none) rfl (fun _ ⟨c306, c307⟩ => q_move rfl) ?_
    refine HA.val (k := 3) (v := cutV 18 vl (0 : Int).toNat (n_1).toNat) rfl rfl (by kernel_rfl) (by kernel_rfl) (want_none) rfl (fun _ ⟨c306, c307⟩ => q_slH ts_182 c306.slice rfl rfl ho_5) ?_
    refine HA.val (k := 5) (v := .agg (eA a).toArray) rfl rfl (by kernel_rfl) (by kernel_rfl) (want_none) rfl (fun _ ⟨c306, c307⟩ => q_loadAgg (cs := (eA a)) ta_28 rfl rfl (Blk.cells (k := 17) c307 rfl)) ?_
    refine HA.val (k := 6) (v := .int .i64 n) rfl rfl (by kernel_rfl) (by kernel_rfl) (want_none) rfl (fun _ ⟨c306, c307⟩ => q_move rfl) ?_
    refine HA.val (k := 7) (v := .agg (erL (a, n)).toArray) rfl rfl (by kernel_rfl) (by kernel_rfl) (want_none) rfl (fun _ ⟨c306, c307⟩ => q_build tp_190 (fill_cons (cs' := (erL (a, 0)).toArray) (vc := (eA a).toArray) rfl rfl rfl (Nat.le_of_ble_eq_true rfl) rfl (fill_cons (cs' := (erL (a, n)).toArray) (vc := #[.int .i64 n]) rfl rfl rfl (Nat.le_of_ble_eq_true rfl) rfl rfl))) ?_
    refine HA.val (k := 10) (v := vl) rfl rfl (by kernel_rfl) (by kernel_rfl) (want_none) rfl (fun _ ⟨c306, c307⟩ => q_move rfl) ?_
    refine HA.val (k := 11) (v := .int .i64 n_1) rfl rfl (by kernel_rfl) (by kernel_rfl) (want_none) rfl (fun _ ⟨c306, c307⟩ => q_move rfl) ?_
    refine HA.val (k := 12) (v := cutV 18 vl (n_1).toNat ((l.length : Int)).toNat) rfl rfl (by kernel_rfl) (by kernel_rfl) (want_none) rfl (fun _ ⟨c306, c307⟩ => q_slL ts_182 c306.slice rfl rfl ho_5) ?_
    refine HA.two (k := 0) (k' := 8) ⟨⟨(hS.own 0 rfl), (hS.box 1 rfl)⟩, (Go.Wk.at_nil _ _)⟩ (by kernel_rfl) ?_ ?_
    ·
     refine HS.eff rfl (want_none) rfl (st_litEmpty (α := TrL) erL hS tl_182) ?_
     rintro _ h_7 ⟨b_2, rfl, hS, hk⟩
     replace hK := hK.trans hk
     refine HA.two (k := 4) (k' := 8) ⟨⟨(hS.own 1 rfl), (hS.box 2 rfl)⟩, (Go.Wk.at_nil _ _)⟩ (by kernel_rfl) ?_ ?_
     ·
      refine HS.eff rfl (want_none) rfl (st_append te_182 hS (i := 0) rfl (cutIs (hS.own 1 rfl).slice 0 n_1 ho_6.1 ho_6.2.1 ho_6.2.2) rfl rfl rfl (by intro a _ u hu; simp [erL, encI, encN, encB, encT] at hu; rcases hu with rfl | rfl | rfl | rfl | rfl | rfl | rfl | rfl | rfl | rfl | rfl | rfl | rfl | rfl | rfl | rfl | rfl | rfl <;> rfl) ho_7 (by omega)) ?_
      rintro v_1 h_8 ⟨hS, hk⟩
      replace hK := hK.trans hk
      refine HA.one (k := 8) ⟨⟨(hS.own 1 rfl), (hS.box 2 rfl)⟩, (Go.Wk.at_nil _ _)⟩ (by kernel_rfl) ?_
      refine HS.eff rfl (want_none) rfl (st_lit (enc := erL) (cells := #[.bool a.1, .int .u8 (b8 a.2 0), .int .u8 (b8 a.2 1), .int .u8 (b8 a.2 2), .int .u8 (b8 a.2 3), .int .u8 (b8 a.2 4), .int .u8 (b8 a.2 5), .int .u8 (b8 a.2 6), .int .u8 (b8 a.2 7), .int .u8 (b8 a.2 8), .int .u8 (b8 a.2 9), .int .u8 (b8 a.2 10), .int .u8 (b8 a.2 11), .int .u8 (b8 a.2 12), .int .u8 (b8 a.2 13), .int .u8 (b8 a.2 14), .int .u8 (b8 a.2 15), .int .i64 n]) #[.bool false, .int .u8 0, .int .u8 0, .int .u8 0, .int .u8 0, .int .u8 0, .int .u8 0, .int .u8 0, .int .u8 0, .int .u8 0, .int .u8 0, .int .u8 0, .int .u8 0, .int .u8 0, .int .u8 0, .int .u8 0, .int .u8 0, .int .i64 0] ([(a, n)] : List TrL) hS tl_182 (by decide) (by decide) (by kernel_rfl) (by kernel_rfl) rfl (by intro x hx; rfl) rfl) ?_
      rintro _ h_9 ⟨b_3, rfl, hS, hk⟩
      replace hK := hK.trans hk
      refine HA.one (k := 9) ⟨⟨(hS.own 2 rfl), (hS.box 3 rfl)⟩, (Go.Wk.at_nil _ _)⟩ (by kernel_rfl) ?_
      refine HS.eff rfl (want_none) rfl (st_append te_182 hS (i := 1) rfl (hS.own 0 rfl).slice rfl rfl rfl (by intro a _ u hu; simp [erL, encI, encN, encB, encT] at hu; rcases hu with rfl | rfl | rfl | rfl | rfl | rfl | rfl | rfl | rfl | rfl | rfl | rfl | rfl | rfl | rfl | rfl | rfl | rfl <;> rfl) ho_8 (by omega)) ?_
      rintro v_2 h_10 ⟨hS, hk⟩
      replace hK := hK.trans hk
      refine HA.one (k := 13) ⟨⟨(hS.own 2 rfl), (hS.box 3 rfl)⟩, (Go.Wk.at_nil _ _)⟩ (by kernel_rfl) ?_
      refine HS.eff rfl (want_none) rfl (st_append te_182 hS (i := 1) rfl (cutIs (hS.own 2 rfl).slice n_1 (l.length : Int) ho_9.1 ho_9.2.1 ho_9.2.2) rfl rfl rfl (by intro a _ u hu; simp [erL, encI, encN, encB, encT] at hu; rcases hu with rfl | rfl | rfl | rfl | rfl | rfl | rfl | rfl | rfl | rfl | rfl | rfl | rfl | rfl | rfl | rfl | rfl | rfl <;> rfl) ho_10 (by omega)) ?_
      rintro v_3 h_11 ⟨hS, hk⟩
      replace hK := hK.trans hk
      refine HA.val (k := 14) (v := v_3) rfl rfl (by kernel_rfl) (by kernel_rfl) (want_none) rfl (fun _ ⟨c306, c307⟩ => q_assign rfl) ?_
      refine HA.nil ⟨⟨(hS.own 2 rfl), (hS.box 3 rfl)⟩, (Go.Wk.at_nil _ _)⟩ (by kernel_rfl) (thenQ_normal (?_))
      refine HW.ret (?_)
      refine ⟨.inr rfl, v_3, res1 rfl (rt rfl), ?_⟩
      replace hS : St F_4 (Ow.own 190 18 erL v_3 (((([] : List TrL) ++ (cut l 0 n_1)) ++ ([(a, n)] : List TrL)) ++ (cut l n_1 (l.length : Int))) :: fr) h_11 := hS.perm2 [1] 4 rfl rfl
      exact ⟨F_4, ((([] : List TrL) ++ (cut l 0 n_1)) ++ ([(a, n)] : List TrL)) ++ (cut l n_1 (l.length : Int)), v_3, rfl, hK, hS, hM⟩
     ·
      refine HS.eff rfl (want_none) rfl (st_lit (enc := erL) (cells := #[.bool a.1, .int .u8 (b8 a.2 0), .int .u8 (b8 a.2 1), .int .u8 (b8 a.2 2), .int .u8 (b8 a.2 3), .int .u8 (b8 a.2 4), .int .u8 (b8 a.2 5), .int .u8 (b8 a.2 6), .int .u8 (b8 a.2 7), .int .u8 (b8 a.2 8), .int .u8 (b8 a.2 9), .int .u8 (b8 a.2 10), .int .u8 (b8 a.2 11), .int .u8 (b8 a.2 12), .int .u8 (b8 a.2 13), .int .u8 (b8 a.2 14), .int .u8 (b8 a.2 15), .int .i64 n]) #[.bool false, .int .u8 0, .int .u8 0, .int .u8 0, .int .u8 0, .int .u8 0, .int .u8 0, .int .u8 0, .int .u8 0, .int .u8 0, .int .u8 0, .int .u8 0, .int .u8 0, .int .u8 0, .int .u8 0, .int .u8 0, .int .u8 0, .int .i64 0] ([(a, n)] : List TrL) hS tl_182 (by decide) (by decide) (by kernel_rfl) (by kernel_rfl) rfl (by intro x hx; rfl) rfl) ?_
      rintro _ h_8 ⟨b_3, rfl, hS, hk⟩
      replace hK := hK.trans hk
      refine HA.one (k := 4) ⟨⟨(hS.own 2 rfl), (hS.box 3 rfl)⟩, (Go.Wk.at_nil _ _)⟩ (by kernel_rfl) ?_
      refine HS.eff rfl (want_none) rfl (st_append te_182 hS (i := 1) rfl (cutIs (hS.own 2 rfl).slice 0 n_1 ho_6.1 ho_6.2.1 ho_6.2.2) rfl rfl rfl (by intro a _ u hu; simp [erL, encI, encN, encB, encT] at hu; rcases hu with rfl | rfl | rfl | rfl | rfl | rfl | rfl | rfl | rfl | rfl | rfl | rfl | rfl | rfl | rfl | rfl | rfl | rfl <;> rfl) ho_7 (by omega)) ?_
      rintro v_1 h_9 ⟨hS, hk⟩
      replace hK := hK.trans hk
      refine HA.one (k := 9) ⟨⟨(hS.own 2 rfl), (hS.box 3 rfl)⟩, (Go.Wk.at_nil _ _)⟩ (by kernel_rfl) ?_
      refine HS.eff rfl (want_none) rfl (st_append te_182 hS (i := 1) rfl (hS.own 0 rfl).slice rfl rfl rfl (by intro a _ u hu; simp [erL, encI, encN, encB, encT] at hu; rcases hu with rfl | rfl | rfl | rfl | rfl | rfl | rfl | rfl | rfl | rfl | rfl | rfl | rfl | rfl | rfl | rfl | rfl | rfl <;> rfl) ho_8 (by omega)) ?_
      rintro v_2 h_10 ⟨hS, hk⟩
      replace hK := hK.trans hk
      refine HA.one (k := 13) ⟨⟨(hS.own 2 rfl), (hS.box 3 rfl)⟩, (Go.Wk.at_nil _ _)⟩ (by kernel_rfl) ?_
      refine HS.eff rfl (want_none) rfl (st_append te_182 hS (i := 1) rfl (cutIs (hS.own 2 rfl).slice n_1 (l.length : Int) ho_9.1 ho_9.2.1 ho_9.2.2) rfl rfl rfl (by intro a _ u hu; simp [erL, encI, encN, encB, encT] at hu; rcases hu with rfl | rfl | rfl | rfl | rfl | rfl | rfl | rfl | rfl | rfl | rfl | rfl | rfl | rfl | rfl | rfl | rfl | rfl <;> rfl) ho_10 (by omega)) ?_
      rintro v_3 h_11 ⟨hS, hk⟩
      replace hK := hK.trans hk
      refine HA.val (k := 14) (v := v_3) rfl rfl (by kernel_rfl) (by kernel_rfl) (want_none) rfl (fun _ ⟨c306, c307⟩ => q_assign rfl) ?_
      refine HA.nil ⟨⟨(hS.own 2 rfl), (hS.box 3 rfl)⟩, (Go.Wk.at_nil _ _)⟩ (by kernel_rfl) (thenQ_normal (?_))
      refine HW.ret (?_)
      refine ⟨.inr rfl, v_3, res1 rfl (rt rfl), ?_⟩
      replace hS : St F_4 (Ow.own 190 18 erL v_3 (((([] : List TrL) ++ (cut l 0 n_1)) ++ ([(a, n)] : List TrL)) ++ (cut l n_1 (l.length : Int))) :: fr) h_11 := hS.perm2 [1] 4 rfl rfl
      exact ⟨F_4, ((([] : List TrL) ++ (cut l 0 n_1)) ++ ([(a, n)] : List TrL)) ++ (cut l n_1 (l.length : Int)), v_3, rfl, hK, hS, hM⟩
    ·
     refine HS.eff rfl (want_none) rfl (st_lit (enc := erL) (cells := #[.bool a.1, .int .u8 (b8 a.2 0), .int .u8 (b8 a.2 1), .int .u8 (b8 a.2 2), .int .u8 (b8 a.2 3), .int .u8 (b8 a.2 4), .int .u8 (b8 a.2 5), .int .u8 (b8 a.2 6), .int .u8 (b8 a.2 7), .int .u8 (b8 a.2 8), .int .u8 (b8 a.2 9), .int .u8 (b8 a.2 10), .int .u8 (b8 a.2 11), .int .u8 (b8 a.2 12), .int .u8 (b8 a.2 13), .int .u8 (b8 a.2 14), .int .u8 (b8 a.2 15), .int .i64 n]) #[.bool false, .int .u8 0, .int .u8 0, .int .u8 0, .int .u8 0, .int .u8 0, .int .u8 0, .int .u8 0, .int .u8 0, .int .u8 0, .int .u8 0, .int .u8 0, .int .u8 0, .int .u8 0, .int .u8 0, .int .u8 0, .int .u8 0, .int .i64 0] ([(a, n)] : List TrL) hS tl_182 (by decide) (by decide) (by kernel_rfl) (by kernel_rfl) rfl (by intro x hx; rfl) rfl) ?_
     rintro _ h_7 ⟨b_2, rfl, hS, hk⟩
     replace hK := hK.trans hk
     refine HA.one (k := 0) ⟨⟨(hS.own 1 rfl), (hS.box 2 rfl)⟩, (Go.Wk.at_nil _ _)⟩ (by kernel_rfl) ?_
     refine HS.eff rfl (want_none) rfl (st_litEmpty (α := TrL) erL hS tl_182) ?_
     rintro _ h_8 ⟨b_3, rfl, hS, hk⟩
     replace hK := hK.trans hk
     refine HA.one (k := 4) ⟨⟨(hS.own 2 rfl), (hS.box 3 rfl)⟩, (Go.Wk.at_nil _ _)⟩ (by kernel_rfl) ?_
     refine HS.eff rfl (want_none) rfl (st_append te_182 hS (i := 0) rfl (cutIs (hS.own 2 rfl).slice 0 n_1 ho_6.1 ho_6.2.1 ho_6.2.2) rfl rfl rfl (by intro a _ u hu; simp [erL, encI, encN, encB, encT] at hu; rcases hu with rfl | rfl | rfl | rfl | rfl | rfl | rfl | rfl | rfl | rfl | rfl | rfl | rfl | rfl | rfl | rfl | rfl | rfl <;> rfl) ho_7 (by omega)) ?_
     rintro v_1 h_9 ⟨hS, hk⟩
     replace hK := hK.trans hk
     refine HA.one (k := 9) ⟨⟨(hS.own 2 rfl), (hS.box 3 rfl)⟩, (Go.Wk.at_nil _ _)⟩ (by kernel_rfl) ?_
     refine HS.eff rfl (want_none) rfl (st_append te_182 hS (i := 0) rfl (hS.own 1 rfl).slice rfl rfl rfl (by intro a _ u hu; simp [erL, encI, encN, encB, encT] at hu; rcases hu with rfl | rfl | rfl | rfl | rfl | rfl | rfl | rfl | rfl | rfl | rfl | rfl | rfl | rfl | rfl | rfl | rfl | rfl <;> rfl) ho_8 (by omega)) ?_
     rintro v_2 h_10 ⟨hS, hk⟩
     replace hK := hK.trans hk
     refine HA.one (k := 13) ⟨⟨(hS.own 2 rfl), (hS.box 3 rfl)⟩, (Go.Wk.at_nil _ _)⟩ (by kernel_rfl) ?_
     refine HS.eff rfl (want_none) rfl (st_append te_182 hS (i := 0) rfl (cutIs (hS.own 2 rfl).slice n_1 (l.length : Int) ho_9.1 ho_9.2.1 ho_9.2.2) rfl rfl rfl (by intro a _ u hu; simp [erL, encI, encN, encB, encT] at hu; rcases hu with rfl | rfl | rfl | rfl | rfl | rfl | rfl | rfl | rfl | rfl | rfl | rfl | rfl | rfl | rfl | rfl | rfl | rfl <;> rfl) ho_10 (by omega)) ?_
     rintro v_3 h_11 ⟨hS, hk⟩
     replace hK := hK.trans hk
     refine HA.val (k := 14) (v := v_3) rfl rfl (by kernel_rfl) (by kernel_rfl) (want_none) rfl (fun _ ⟨c306, c307⟩ => q_assign rfl) ?_
     refine HA.nil ⟨⟨(hS.own 2 rfl), (hS.box 3 rfl)⟩, (Go.Wk.at_nil _ _)⟩ (by kernel_rfl) (thenQ_normal (?_))
     refine HW.ret (?_)
     refine ⟨.inr rfl, v_3, res1 rfl (rt rfl), ?_⟩
     replace hS : St F_4 (Ow.own 190 18 erL v_3 (((([] : List TrL) ++ (cut l 0 n_1)) ++ ([(a, n)] : List TrL)) ++ (cut l n_1 (l.length : Int))) :: fr) h_11 := hS.perm2 [0] 4 rfl rfl
     exact ⟨F_4, ((([] : List TrL) ++ (cut l 0 n_1)) ++ ([(a, n)] : List TrL)) ++ (cut l n_1 (l.length : Int)), v_3, rfl, hK, hS, hM⟩
end Go.Wk
