/- Walks of Query. -/
import Derived.Test.YtfoebjicglgklaaGreatQryW2
set_option linter.unusedSimpArgs false
set_option linter.unusedVariables false
set_option linter.unusedSectionVars false
set_option maxHeartbeats 40000000
set_option maxRecDepth 100000
namespace Go.Wk
open Go.HL
open Go.Proofs hiding encI
variable [DM]
def ref22_Q_Want_l2 (t : T_api_Tune) (Q : Bool → (List (SV × List TrL)) → Int → Bool → Int → Int → (List TrO) → Prop) (q_Now_2 : Int) (q_On_2 : Bool) (q_At_2 : Int) (q_First_2 : Int) (r_2 : List TA) (i_1 : Int) (K_2 : (List TrO) → (List (SV × List TrL)) → Int → Prop) (q_4_4 : List TrO) (ps_4 : List (SV × List TrL)) (k_1 : Int) : Prop :=
 (k_1 < (r_2.length : Int) → ((0 : Int) ≤ i_1 ∧ i_1 < (q_4_4.length : Int)) ∧ (((0 : Int) ≤ k_1 ∧ k_1 < (r_2.length : Int)) ∧ ((PHas ps_4 (((gi q_4_4 i_1).2.2.2).1, ((gi q_4_4 i_1).2.2.2).2)) ∧ (ref22_set_W (((gi q_4_4 i_1).2.2.2).2) (gi r_2 k_1) t.2.2.2.2 (fun r_7 => ∀ sv_1 : SV, ((I64 (k_1 + 1)) ∧ (K_2 (q_4_4.set (i_1).toNat (((gi q_4_4 i_1).1), (gi q_4_4 i_1).2.1, (gi q_4_4 i_1).2.2.1, (sv_1, r_7))) ((sv_1, r_7) :: (pErase ps_4 (((gi q_4_4 i_1).2.2.2).1, ((gi q_4_4 i_1).2.2.2).2))) (k_1 + 1)))))))) ∧ (¬ (k_1 < (r_2.length : Int)) → Q true ps_4 q_Now_2 q_On_2 q_At_2 q_First_2 q_4_4)
def ref22_Q_Want_j5 (t : T_api_Tune) (Q : Bool → (List (SV × List TrL)) → Int → Bool → Int → Int → (List TrO) → Prop) (q_Now_2 : Int) (q_On_2 : Bool) (q_At_2 : Int) (q_First_2 : Int) (r_2 : List TA) (ps_3 : List (SV × List TrL)) (i_1 : Int) (q_4_3 : List TrO) : Prop :=
 loopW (fun (K_2 : (List TrO × (List (SV × List TrL)) × Int) → Prop) (s : List TrO × (List (SV × List TrL)) × Int) => ref22_Q_Want_l2 t Q q_Now_2 q_On_2 q_At_2 q_First_2 r_2 i_1 (fun q_4_4 ps_4 k_1 => K_2 (q_4_4, ps_4, k_1)) s.1 s.2.1 s.2.2) (q_4_3, ps_3, 0)
def ref22_Q_Want_j3 (t : T_api_Tune) (a_All : Bool) (Q : Bool → (List (SV × List TrL)) → Int → Bool → Int → Int → (List TrO) → Prop) (q_Now_2 : Int) (q_On_2 : Bool) (q_At_2 : Int) (q_First_2 : Int) (r_2 : List TA) (ps_3 : List (SV × List TrL)) (q_4_2 : List TrO) (i_1 : Int) : Prop :=
 ((0 : Int) ≤ i_1 ∧ i_1 < (q_4_2.length : Int)) ∧ ((a_All = true → ((0 : Int) ≤ i_1 ∧ i_1 < ((q_4_2.set (i_1).toNat (((gi q_4_2 i_1).1), q_Now_2, (gi q_4_2 i_1).2.2.1, ((gi q_4_2 i_1).2.2.2))).length : Int)) ∧ (ref22_Q_Want_j5 t Q q_Now_2 q_On_2 q_At_2 q_First_2 r_2 ps_3 i_1 ((q_4_2.set (i_1).toNat (((gi q_4_2 i_1).1), q_Now_2, (gi q_4_2 i_1).2.2.1, ((gi q_4_2 i_1).2.2.2))).set (i_1).toNat (((gi (q_4_2.set (i_1).toNat (((gi q_4_2 i_1).1), q_Now_2, (gi q_4_2 i_1).2.2.1, ((gi q_4_2 i_1).2.2.2))) i_1).1), (gi (q_4_2.set (i_1).toNat (((gi q_4_2 i_1).1), q_Now_2, (gi q_4_2 i_1).2.2.1, ((gi q_4_2 i_1).2.2.2))) i_1).2.1, t.2.2.2.2, ((gi (q_4_2.set (i_1).toNat (((gi q_4_2 i_1).1), q_Now_2, (gi q_4_2 i_1).2.2.1, ((gi q_4_2 i_1).2.2.2))) i_1).2.2.2))))) ∧ (a_All = false → ref22_Q_Want_j5 t Q q_Now_2 q_On_2 q_At_2 q_First_2 r_2 ps_3 i_1 (q_4_2.set (i_1).toNat (((gi q_4_2 i_1).1), q_Now_2, (gi q_4_2 i_1).2.2.1, ((gi q_4_2 i_1).2.2.2)))))
def ref22_Q_Want_j4 (t : T_api_Tune) (a_Group : TA) (a_All : Bool) (Q : Bool → (List (SV × List TrL)) → Int → Bool → Int → Int → (List TrO) → Prop) (q_Now_2 : Int) (q_On_2 : Bool) (q_At_2 : Int) (q_First_2 : Int) (q_L_2 : List TrO) (r_2 : List TA) (ps_3 : List (SV × List TrL)) (i_2 : Int) : Prop :=
 ((0 : Int) ≤ i_2 ∧ i_2 ≤ (q_L_2.length : Int)) ∧ (((0 : Int) ≤ 0 ∧ 0 ≤ i_2 ∧ i_2 ≤ (q_L_2.length : Int)) ∧ (((([] : List TrO).length + (cut q_L_2 0 i_2).length) * 64 ≤ 140737488355328) ∧ ((((([] : List TrO) ++ (cut q_L_2 0 i_2)).length + ([(a_Group, 0, 0, ((none, 0, 0), []))] : List TrO).length) * 64 ≤ 140737488355328) ∧ (((0 : Int) ≤ i_2 ∧ i_2 ≤ (q_L_2.length : Int) ∧ (q_L_2.length : Int) ≤ (q_L_2.length : Int)) ∧ (((((([] : List TrO) ++ (cut q_L_2 0 i_2)) ++ ([(a_Group, 0, 0, ((none, 0, 0), []))] : List TrO)).length + (cut q_L_2 i_2 (q_L_2.length : Int)).length) * 64 ≤ 140737488355328) ∧ (ref22_Q_Want_j3 t a_All Q q_Now_2 q_On_2 q_At_2 q_First_2 r_2 ps_3 (((([] : List TrO) ++ (cut q_L_2 0 i_2)) ++ ([(a_Group, 0, 0, ((none, 0, 0), []))] : List TrO)) ++ (cut q_L_2 i_2 (q_L_2.length : Int))) i_2))))))
def ref22_Q_Want_l1 (t : T_api_Tune) (a_Group : TA) (a_All : Bool) (Q : Bool → (List (SV × List TrL)) → Int → Bool → Int → Int → (List TrO) → Prop) (q_Now_2 : Int) (q_On_2 : Bool) (q_At_2 : Int) (q_First_2 : Int) (q_L_2 : List TrO) (r_2 : List TA) (ps_3 : List (SV × List TrL)) (K_1 : Int → Prop) (i_3 : Int) : Prop :=
 (i_3 < (q_L_2.length : Int) → ((0 : Int) ≤ i_3 ∧ i_3 < (q_L_2.length : Int)) ∧ (ref03_Cmp_W ((gi q_L_2 i_3).1) a_Group (fun r_6 => (r_6 < 0 → (I64 (i_3 + 1)) ∧ (K_1 (i_3 + 1))) ∧ (¬ (r_6 < 0) → ref22_Q_Want_j4 t a_Group a_All Q q_Now_2 q_On_2 q_At_2 q_First_2 q_L_2 r_2 ps_3 i_3)))) ∧ (¬ (i_3 < (q_L_2.length : Int)) → ref22_Q_Want_j4 t a_Group a_All Q q_Now_2 q_On_2 q_At_2 q_First_2 q_L_2 r_2 ps_3 i_3)
def ref22_Q_Want_j2 (t : T_api_Tune) (a_Group : TA) (a_All : Bool) (Q : Bool → (List (SV × List TrL)) → Int → Bool → Int → Int → (List TrO) → Prop) (q_Now_2 : Int) (q_On_2 : Bool) (q_At_2 : Int) (q_First_2 : Int) (q_L_2 : List TrO) (r_2 : List TA) (r_5 : Int) (ps_3 : List (SV × List TrL)) : Prop :=
 (r_5 < 0 → loopW (fun (K_1 : Int → Prop) (s : Int) => ref22_Q_Want_l1 t a_Group a_All Q q_Now_2 q_On_2 q_At_2 q_First_2 q_L_2 r_2 ps_3 K_1 s) 0) ∧ (¬ (r_5 < 0) → ref22_Q_Want_j3 t a_All Q q_Now_2 q_On_2 q_At_2 q_First_2 r_2 ps_3 q_L_2 r_5)
def ref22_Q_Want_j1 (t : T_api_Tune) (a_Group : TA) (a_All : Bool) (Q : Bool → (List (SV × List TrL)) → Int → Bool → Int → Int → (List TrO) → Prop) (ps_2 : List (SV × List TrL)) (q_Now_2 : Int) (q_On_2 : Bool) (q_At_2 : Int) (q_First_2 : Int) (q_L_2 : List TrO) (r_2 : List TA) : Prop :=
 ref22_Q_find_W q_Now_2 q_On_2 q_At_2 q_First_2 q_L_2 a_Group ps_2 (fun r_5 ps_3 => (r_5 < 0 → (64 ≤ (q_L_2.length : Int) → Q false ps_3 q_Now_2 q_On_2 q_At_2 q_First_2 q_L_2) ∧ (¬ (64 ≤ (q_L_2.length : Int)) → ref22_Q_Want_j2 t a_Group a_All Q q_Now_2 q_On_2 q_At_2 q_First_2 q_L_2 r_2 r_5 ps_3)) ∧ (¬ (r_5 < 0) → ref22_Q_Want_j2 t a_Group a_All Q q_Now_2 q_On_2 q_At_2 q_First_2 q_L_2 r_2 r_5 ps_3))
def ref22_Q_Want_W (q_Now : Int) (q_On : Bool) (q_At : Int) (q_First : Int) (q_L : List TrO) (now : Int) (t : T_api_Tune) (a_Group : TA) (a_All : Bool) (a_Sources : List TA) (ps : List (SV × List TrL)) (Q : Bool → (List (SV × List TrL)) → Int → Bool → Int → Int → (List TrO) → Prop) : Prop :=
 ref22_Q_Settle_W q_Now q_On q_At q_First q_L now ps (fun ps_2 q_Now_2 q_On_2 q_At_2 q_First_2 q_L_2 => ref11_Of_W a_Sources (fun r_2 => ref03_Good_W a_Group (fun r_3 => ((!r_3) = true → Q false ps_2 q_Now_2 q_On_2 q_At_2 q_First_2 q_L_2) ∧ ((!r_3) = false → ref03_Group_W a_Group (fun r_4 => ((!r_4) = true → Q false ps_2 q_Now_2 q_On_2 q_At_2 q_First_2 q_L_2) ∧ ((!r_4) = false → ((!a_All) = true → ((r_2.length : Int) = 0 → Q false ps_2 q_Now_2 q_On_2 q_At_2 q_First_2 q_L_2) ∧ (¬ ((r_2.length : Int) = 0) → ref22_Q_Want_j1 t a_Group a_All Q ps_2 q_Now_2 q_On_2 q_At_2 q_First_2 q_L_2 r_2)) ∧ ((!a_All) = false → ref22_Q_Want_j1 t a_Group a_All Q ps_2 q_Now_2 q_On_2 q_At_2 q_First_2 q_L_2 r_2)))))))
theorem ref22_Q_Want_walk {F : Fz} {fr : List Ow} {h0 : Heap} (q_Now : Int) (q_On : Bool) (q_At : Int) (q_First : Int) (q_L : List TrO) (now : Int) (t : T_api_Tune) (a_Group : TA) (a_All : Bool) (a_Sources : List TA) (ps : List (SV × List TrL)) (bq : Nat) (vq_L : Value) (va_Sources : Value) (hS : St F (Ow.box bq 95 #[.int .i64 q_Now, .bool q_On, .int .i64 q_At, .int .i64 q_First, vq_L] :: Ow.own 184 20 erO vq_L q_L :: Ow.pool 190 18 erL ps :: fr) h0) (hL_a_Sources : SliceF F h0 17 eA va_Sources a_Sources) {Q : Bool → (List (SV × List TrL)) → Int → Bool → Int → Int → (List TrO) → Prop} (hM : ref22_Q_Want_W q_Now q_On q_At q_First q_L now t a_Group a_All a_Sources ps Q) :
  HC Tryz.prog 48 #[.pointer (some ⟨bq, 0, none⟩), .int .i64 now, .agg (e_api_Tune t).toArray, .agg (c_api_Asked a_Group (.bool a_All) va_Sources).toArray] h0 fun u h' => ∃ (F' : Fz) (r_1 : Bool) (ps_1 : List (SV × List TrL)) (q_Now_1 : Int) (q_On_1 : Bool) (q_At_1 : Int) (q_First_1 : Int) (q_L_1 : List TrO) (v_1 : Value), u = .bool r_1 ∧ Kp F h0 F' h' ∧ St F' (Ow.pool 190 18 erL ps_1 :: Ow.box bq 95 #[.int .i64 q_Now_1, .bool q_On_1, .int .i64 q_At_1, .int .i64 q_First_1, v_1] :: Ow.own 184 20 erO v_1 q_L_1 :: fr) h' ∧ (SliceF F' h' 17 eA va_Sources a_Sources) ∧ Q r_1 ps_1 q_Now_1 q_On_1 q_At_1 q_First_1 q_L_1 := by
 unfold ref22_Q_Want_W at hM
 have hK := Kp.refl F h0
 refine HC.of_HW (n := 150) Tryz.func48 rfl rfl (Nat.le_of_ble_eq_true rfl) ?_
 refine HW.seq ?_
 refine HW.region ?_
 refine HO.eff (want_none) rfl (st_box (c := (e_api_Tune t).toArray) (k' := 5) hS rfl rfl) ?_
 rintro _ h_1 ⟨b_1, rfl, hS, hk⟩
 replace hK := hK.trans hk
 replace hL_a_Sources := hL_a_Sources.kp hk
 refine HO.eff (want_none) rfl (st_box (c := (c_api_Asked a_Group (.bool a_All) va_Sources).toArray) (k' := 19) hS rfl rfl) ?_
 rintro _ h_2 ⟨b_2, rfl, hS, hk⟩
 replace hK := hK.trans hk
 replace hL_a_Sources := hL_a_Sources.kp hk
 refine oA (.bool false) rfl rfl ?_
 refine HO.nil (thenQ_normal (?_))
 refine HW.seq ?_
 refine HW.region ?_
 refine oM (.pointer (some ⟨bq, 0, none⟩)) rfl rfl ?_
 refine oM (.int .i64 now) rfl rfl ?_
 replace hS : St F (Ow.box bq 95 #[.int .i64 q_Now, .bool q_On, .int .i64 q_At, .int .i64 q_First, vq_L] :: Ow.own 184 20 erO vq_L q_L :: Ow.pool 190 18 erL ps :: Ow.box b_2 97 (c_api_Asked a_Group (.bool a_All) va_Sources).toArray :: Ow.box b_1 56 (e_api_Tune t).toArray :: fr) h_2 := hS.perm2 [2, 3, 4, 0, 1] 5 rfl rfl
 refine HO.call (want_none) rfl (ec en_112 rfl rfl) (ref22_Q_Settle_walk (fr := (Ow.box b_2 97 (c_api_Asked a_Group (.bool a_All) va_Sources).toArray :: Ow.box b_1 56 (e_api_Tune t).toArray :: fr)) q_Now q_On q_At q_First q_L now ps bq vq_L hS hM) ?_
 rintro _ h_3 ⟨F_1, ps_2, q_Now_2, q_On_2, q_At_2, q_First_2, q_L_2, v_2, rfl, hk, hS, hM⟩
 replace hK := hK.trans hk
 replace hL_a_Sources := hL_a_Sources.kp hk
 refine HO.nil (thenQ_normal (?_))
 refine HW.seq ?_
 refine HW.region ?_
 refine oV (.pointer (some ⟨b_2, 18, none⟩)) (q_fieldAddr fa_97_2 rfl rfl) rfl ?_
 refine oV (va_Sources) (q_load to_29 rfl (Blk.cell (hS.box 3 rfl) rfl)) rfl ?_
 refine HO.call (want_none) rfl (ec en_118 rfl rfl) (ref11_Of_walk (fr := (Ow.pool 190 18 erL ps_2 :: Ow.box bq 95 #[.int .i64 q_Now_2, .bool q_On_2, .int .i64 q_At_2, .int .i64 q_First_2, v_2] :: Ow.own 184 20 erO v_2 q_L_2 :: Ow.box b_2 97 (c_api_Asked a_Group (.bool a_All) va_Sources).toArray :: Ow.box b_1 56 (e_api_Tune t).toArray :: fr)) a_Sources va_Sources hS hL_a_Sources hM) ?_
 rintro vr_1 h_4 ⟨F_2, r_2, _, rfl, hk, hS, _, hL_1, hM⟩
 replace hK := hK.trans hk
 replace hL_a_Sources := hL_a_Sources.kp hk
 refine oA (vr_1) rfl rfl ?_
 refine HO.nil (thenQ_normal (?_))
 refine HW.seq_mid (fun f h => ∃ (F' : Fz), f 0 = .pointer (some ⟨bq, 0, none⟩) ∧ f 6 = .pointer (some ⟨b_1, 0, none⟩) ∧ f 7 = .pointer (some ⟨b_2, 0, none⟩) ∧ f 8 = .bool false ∧ f 9 = vr_1 ∧ Kp F h0 F' h ∧ St F' (Ow.box bq 95 #[.int .i64 q_Now_2, .bool q_On_2, .int .i64 q_At_2, .int .i64 q_First_2, v_2] :: Ow.own 184 20 erO v_2 q_L_2 :: Ow.pool 190 18 erL ps_2 :: Ow.box b_1 56 (e_api_Tune t).toArray :: Ow.box b_2 97 (c_api_Asked a_Group (.bool a_All) va_Sources).toArray :: fr) h ∧ (SliceF F' h 17 eA va_Sources a_Sources) ∧ (SliceF F' h 17 eA vr_1 r_2) ∧ ref22_Q_Want_j1 t a_Group a_All Q ps_2 q_Now_2 q_On_2 q_At_2 q_First_2 q_L_2 r_2) ?_ ?_
 ·
  refine HW.seq ?_
  refine HW.region ?_
  refine oV (.pointer (some ⟨b_2, 0, none⟩)) (q_fieldAddr fa_97_0 rfl rfl) rfl ?_
  refine oV (.agg (eA a_Group).toArray) (q_loadAgg (cs := (eA a_Group)) ta_28 rfl rfl (Blk.cells (k := 17) (hS.box 3 rfl) rfl)) rfl ?_
  refine HO.call (want_none) rfl (ec en_86 rfl rfl) (ref03_Good_walk (fr := (Ow.pool 190 18 erL ps_2 :: Ow.box bq 95 #[.int .i64 q_Now_2, .bool q_On_2, .int .i64 q_At_2, .int .i64 q_First_2, v_2] :: Ow.own 184 20 erO v_2 q_L_2 :: Ow.box b_2 97 (c_api_Asked a_Group (.bool a_All) va_Sources).toArray :: Ow.box b_1 56 (e_api_Tune t).toArray :: fr)) a_Group hS hM) ?_
  rintro _ h_5 ⟨F_3, r_3, rfl, hk, hS, hM⟩
  replace hK := hK.trans hk
  replace hL_a_Sources := hL_a_Sources.kp hk
  replace hL_1 := hL_1.kp hk
  refine oV (.bool (!r_3)) (q_not rfl) rfl ?_
  refine oM (.bool (!r_3)) rfl rfl ?_
  rcases Bool.eq_false_or_eq_true (!r_3) with c_1 | c_1
  ·
   replace hM := hM.1 c_1
   refine HO.past (past_by rfl rfl c_1) rfl ?_
   refine HO.past (past_by rfl rfl c_1) rfl ?_
   refine HO.past (past_by rfl rfl c_1) rfl ?_
   refine HO.past (past_by rfl rfl c_1) rfl ?_
   refine oV (.bool true) (q_pickK true rfl c_1 rfl) rfl ?_
   refine oM (.bool true) rfl rfl ?_
   refine HO.past (past_some rfl rfl) rfl ?_
   refine HO.past (past_some rfl rfl) rfl ?_
   refine HO.past (past_some rfl rfl) rfl ?_
   refine HO.past (past_some rfl rfl) rfl ?_
   refine HO.past (past_undef rfl rfl) rfl ?_
   refine HO.past (past_undef rfl rfl) rfl ?_
   refine HO.past (past_undef rfl rfl) rfl ?_
   refine HO.past (past_some rfl rfl) rfl ?_
   refine oV (.bool true) (q_pick rfl rfl) rfl ?_
   refine HO.nil (thenQ_normal (?_))
   refine HW.condT rfl ?_
   refine HW.seq ?_
   refine HW.region ?_
   refine oA (.bool false) rfl rfl ?_
   refine HO.nil (thenQ_normal (?_))
   refine HW.ret (thenQ_ret (?_))
   refine ⟨.inr rfl, .bool false, res1 rfl (rt rfl), ?_⟩
   replace hS : St F_3 (Ow.pool 190 18 erL ps_2 :: Ow.box bq 95 #[.int .i64 q_Now_2, .bool q_On_2, .int .i64 q_At_2, .int .i64 q_First_2, v_2] :: Ow.own 184 20 erO v_2 q_L_2 :: fr) h_5 := hS.perm2 [0, 1, 2] 5 rfl rfl
   exact ⟨F_3, false, ps_2, q_Now_2, q_On_2, q_At_2, q_First_2, q_L_2, v_2, rfl, hK, hS, hL_a_Sources, hM⟩
  ·
   replace hM := hM.2 c_1
   refine HO.val (v := .pointer (some ⟨b_2, 0, none⟩)) (want_by rfl rfl c_1) rfl (q_fieldAddr fa_97_0 rfl rfl) ?_
   refine HO.val (v := .agg (eA a_Group).toArray) (want_by rfl rfl c_1) rfl (q_loadAgg (cs := (eA a_Group)) ta_28 rfl rfl (Blk.cells (k := 17) (hS.box 3 rfl) rfl)) ?_
   refine HO.call (want_by rfl rfl c_1) rfl (ec en_87 rfl rfl) (ref03_Group_walk (fr := (Ow.pool 190 18 erL ps_2 :: Ow.box bq 95 #[.int .i64 q_Now_2, .bool q_On_2, .int .i64 q_At_2, .int .i64 q_First_2, v_2] :: Ow.own 184 20 erO v_2 q_L_2 :: Ow.box b_2 97 (c_api_Asked a_Group (.bool a_All) va_Sources).toArray :: Ow.box b_1 56 (e_api_Tune t).toArray :: fr)) a_Group hS hM) ?_
   rintro _ h_6 ⟨F_4, r_4, rfl, hk, hS, hM⟩
   replace hK := hK.trans hk
   replace hL_a_Sources := hL_a_Sources.kp hk
   replace hL_1 := hL_1.kp hk
   refine HO.val (v := .bool (!r_4)) (want_by rfl rfl c_1) rfl (q_not rfl) ?_
   refine oV (.bool (!r_4)) (q_pickK false rfl c_1 rfl) rfl ?_
   refine oM (.bool (!r_4)) rfl rfl ?_
   rcases Bool.eq_false_or_eq_true (!r_4) with c_2 | c_2
   ·
    replace hM := hM.1 c_2
    refine HO.past (past_by rfl rfl c_2) rfl ?_
    refine HO.past (past_by rfl rfl c_2) rfl ?_
    refine HO.past (past_by rfl rfl c_2) rfl ?_
    refine HO.past (past_by rfl rfl c_2) rfl ?_
    refine HO.past (past_undef rfl rfl) rfl ?_
    refine HO.past (past_undef rfl rfl) rfl ?_
    refine HO.past (past_undef rfl rfl) rfl ?_
    refine HO.past (past_by rfl rfl c_2) rfl ?_
    refine oV (.bool true) (q_pickK true rfl c_2 rfl) rfl ?_
    refine HO.nil (thenQ_normal (?_))
    refine HW.condT rfl ?_
    refine HW.seq ?_
    refine HW.region ?_
    refine oA (.bool false) rfl rfl ?_
    refine HO.nil (thenQ_normal (?_))
    refine HW.ret (thenQ_ret (?_))
    refine ⟨.inr rfl, .bool false, res1 rfl (rt rfl), ?_⟩
    replace hS : St F_4 (Ow.pool 190 18 erL ps_2 :: Ow.box bq 95 #[.int .i64 q_Now_2, .bool q_On_2, .int .i64 q_At_2, .int .i64 q_First_2, v_2] :: Ow.own 184 20 erO v_2 q_L_2 :: fr) h_6 := hS.perm2 [0, 1, 2] 5 rfl rfl
    exact ⟨F_4, false, ps_2, q_Now_2, q_On_2, q_At_2, q_First_2, q_L_2, v_2, rfl, hK, hS, hL_a_Sources, hM⟩
   ·
    replace hM := hM.2 c_2
    refine HO.val (v := .pointer (some ⟨b_2, 17, none⟩)) (want_by rfl rfl c_2) rfl (q_fieldAddr fa_97_1 rfl rfl) ?_
    refine HO.val (v := .bool a_All) (want_by rfl rfl c_2) rfl (q_load to_4 rfl (Blk.cell (hS.box 3 rfl) rfl)) ?_
    refine HO.val (v := .bool (!a_All)) (want_by rfl rfl c_2) rfl (q_not rfl) ?_
    refine HO.val (v := .bool (!a_All)) (want_by rfl rfl c_2) rfl (q_move rfl) ?_
    rcases Bool.eq_false_or_eq_true (!a_All) with c_3 | c_3
    ·
     replace hM := hM.1 c_3
     refine HO.val (v := vr_1) (want_by rfl rfl c_3) rfl (q_move rfl) ?_
     refine HO.val (v := .int .i64 (r_2.length : Int)) (want_by rfl rfl c_3) rfl (q_len ts_29 (shp hL_1.is) rfl rfl) ?_
     refine HO.val (v := .bool (decide ((r_2.length : Int) = 0))) (want_by rfl rfl c_3) rfl (q_eql rfl rfl) ?_
     refine HO.val (v := .bool (decide ((r_2.length : Int) = 0))) (want_by rfl rfl c_2) rfl (q_pickK true rfl c_3 rfl) ?_
     refine oV (.bool (decide ((r_2.length : Int) = 0))) (q_pickK false rfl c_2 rfl) rfl ?_
     refine HO.nil (thenQ_normal (?_))
     refine HW.cond (decide ((r_2.length : Int) = 0)) rfl (fun c_4 => ?_) (fun c_4 => ?_)
     ·
      replace hM := hM.1 (of_decide_eq_true c_4)
      refine HW.seq ?_
      refine HW.region ?_
      refine oA (.bool false) rfl rfl ?_
      refine HO.nil (thenQ_normal (?_))
      refine HW.ret (thenQ_ret (?_))
      refine ⟨.inr rfl, .bool false, res1 rfl (rt rfl), ?_⟩
      replace hS : St F_4 (Ow.pool 190 18 erL ps_2 :: Ow.box bq 95 #[.int .i64 q_Now_2, .bool q_On_2, .int .i64 q_At_2, .int .i64 q_First_2, v_2] :: Ow.own 184 20 erO v_2 q_L_2 :: fr) h_6 := hS.perm2 [0, 1, 2] 5 rfl rfl
      exact ⟨F_4, false, ps_2, q_Now_2, q_On_2, q_At_2, q_First_2, q_L_2, v_2, rfl, hK, hS, hL_a_Sources, hM⟩
     ·
      replace hM := hM.2 (of_decide_eq_false c_4)
      refine HW.skip (thenQ_normal (?_))
      replace hS : St F_4 (Ow.box bq 95 #[.int .i64 q_Now_2, .bool q_On_2, .int .i64 q_At_2, .int .i64 q_First_2, v_2] :: Ow.own 184 20 erO v_2 q_L_2 :: Ow.pool 190 18 erL ps_2 :: Ow.box b_1 56 (e_api_Tune t).toArray :: Ow.box b_2 97 (c_api_Asked a_Group (.bool a_All) va_Sources).toArray :: fr) h_6 := hS.perm2 [1, 2, 0, 4, 3] 5 rfl rfl
      exact ⟨F_4, rfl, rfl, rfl, rfl, rfl, hK, hS, hL_a_Sources, hL_1, hM⟩
    ·
     replace hM := hM.2 c_3
     refine HO.past (past_by rfl rfl c_3) rfl ?_
     refine HO.past (past_by rfl rfl c_3) rfl ?_
     refine HO.past (past_by rfl rfl c_3) rfl ?_
     refine HO.val (v := .bool false) (want_by rfl rfl c_2) rfl (q_pickK false rfl c_3 rfl) ?_
     refine oV (.bool false) (q_pickK false rfl c_2 rfl) rfl ?_
     refine HO.nil (thenQ_normal (?_))
     refine HW.condF rfl ?_
     refine HW.skip (thenQ_normal (?_))
     replace hS : St F_4 (Ow.box bq 95 #[.int .i64 q_Now_2, .bool q_On_2, .int .i64 q_At_2, .int .i64 q_First_2, v_2] :: Ow.own 184 20 erO v_2 q_L_2 :: Ow.pool 190 18 erL ps_2 :: Ow.box b_1 56 (e_api_Tune t).toArray :: Ow.box b_2 97 (c_api_Asked a_Group (.bool a_All) va_Sources).toArray :: fr) h_6 := hS.perm2 [1, 2, 0, 4, 3] 5 rfl rfl
     exact ⟨F_4, rfl, rfl, rfl, rfl, rfl, hK, hS, hL_a_Sources, hL_1, hM⟩
 ·
  rintro f_1 h_7 ⟨F_5, e0, e6, e7, e8, e9, hK, hS, hL_a_Sources, hL_1, hM⟩
  unfold ref22_Q_Want_j1 at hM
  refine HW.fr [(0, .pointer (some ⟨bq, 0, none⟩)), (6, .pointer (some ⟨b_1, 0, none⟩)), (7, .pointer (some ⟨b_2, 0, none⟩)), (8, .bool false), (9, vr_1)] ⟨e0, e6, e7, e8, e9, trivial⟩ ?_
  refine HW.seq ?_
  refine HW.region ?_
  refine oM (.pointer (some ⟨bq, 0, none⟩)) rfl rfl ?_
  refine oV (.pointer (some ⟨b_2, 0, none⟩)) (q_fieldAddr fa_97_0 rfl rfl) rfl ?_
  refine oV (.agg (eA a_Group).toArray) (q_loadAgg (cs := (eA a_Group)) ta_28 rfl rfl (Blk.cells (k := 17) (hS.box 4 rfl) rfl)) rfl ?_
  replace hS : St F_5 (Ow.box bq 95 #[.int .i64 q_Now_2, .bool q_On_2, .int .i64 q_At_2, .int .i64 q_First_2, v_2] :: Ow.own 184 20 erO v_2 q_L_2 :: Ow.pool 190 18 erL ps_2 :: Ow.box b_1 56 (e_api_Tune t).toArray :: Ow.box b_2 97 (c_api_Asked a_Group (.bool a_All) va_Sources).toArray :: fr) h_7 := hS
  have hZ_1 := hS
  have hkz_1 := (hS.freeze).2
  replace hS := hS.freeze.1
  have hL_2 := hZ_1.lent
  replace hS : St (fun bz_ => F_5 bz_ ∨ (Ow.box bq 95 #[.int .i64 q_Now_2, .bool q_On_2, .int .i64 q_At_2, .int .i64 q_First_2, v_2]).foot bz_) (Ow.own 184 20 erO v_2 q_L_2 :: Ow.pool 190 18 erL ps_2 :: Ow.box b_1 56 (e_api_Tune t).toArray :: Ow.box b_2 97 (c_api_Asked a_Group (.bool a_All) va_Sources).toArray :: fr) h_7 := hS
  have hZ_2 := hS
  have hkz_2 := (hS.freeze).2
  replace hS := hS.freeze.1
  have hL_3 : SliceF (fun bz_ => (fun bz_ => F_5 bz_ ∨ (Ow.box bq 95 #[.int .i64 q_Now_2, .bool q_On_2, .int .i64 q_At_2, .int .i64 q_First_2, v_2]).foot bz_) bz_ ∨ (Ow.own 184 20 erO v_2 q_L_2).foot bz_) h_7 20 erO v_2 q_L_2 := ⟨(hZ_2.own 0 rfl).slice, fun _ b hb => .inr hb⟩
  refine HO.call (want_none) rfl (ec en_119 rfl rfl) (ref22_Q_find_walk (fr := (Ow.box b_1 56 (e_api_Tune t).toArray :: Ow.box b_2 97 (c_api_Asked a_Group (.bool a_All) va_Sources).toArray :: fr)) q_Now_2 q_On_2 q_At_2 q_First_2 q_L_2 a_Group ps_2 bq v_2 hS hL_3 (hL_2.kp hkz_2) hM) ?_
  rintro _ h_8 ⟨F_6, r_5, ps_3, rfl, hk, hS, _, _, hM⟩
  obtain ⟨hS, hk⟩ := hZ_2.back hk hS
  obtain ⟨hS, hk⟩ := hZ_1.back hk hS
  generalize (fun bz_ => (fun bz_ => F_6 bz_ ∧ ¬ (Ow.own 184 20 erO v_2 q_L_2).foot bz_) bz_ ∧ ¬ (Ow.box bq 95 #[.int .i64 q_Now_2, .bool q_On_2, .int .i64 q_At_2, .int .i64 q_First_2, v_2]).foot bz_) = F_7 at hS hk
  replace hK := hK.trans hk
  replace hL_a_Sources := hL_a_Sources.kp hk
  replace hL_1 := hL_1.kp hk
  refine oA (.int .i64 r_5) rfl rfl ?_
  refine HO.nil (thenQ_normal (?_))
  refine HW.seq_mid (fun f h => ∃ (F' : Fz), f 0 = .pointer (some ⟨bq, 0, none⟩) ∧ f 6 = .pointer (some ⟨b_1, 0, none⟩) ∧ f 7 = .pointer (some ⟨b_2, 0, none⟩) ∧ f 8 = .bool false ∧ f 9 = vr_1 ∧ f 10 = .int .i64 r_5 ∧ Kp F h0 F' h ∧ St F' (Ow.box bq 95 #[.int .i64 q_Now_2, .bool q_On_2, .int .i64 q_At_2, .int .i64 q_First_2, v_2] :: Ow.own 184 20 erO v_2 q_L_2 :: Ow.pool 190 18 erL ps_3 :: Ow.box b_1 56 (e_api_Tune t).toArray :: Ow.box b_2 97 (c_api_Asked a_Group (.bool a_All) va_Sources).toArray :: fr) h ∧ (SliceF F' h 17 eA va_Sources a_Sources) ∧ (SliceF F' h 17 eA vr_1 r_2) ∧ ref22_Q_Want_j2 t a_Group a_All Q q_Now_2 q_On_2 q_At_2 q_First_2 q_L_2 r_2 r_5 ps_3) ?_ ?_
  ·
   refine HW.seq ?_
   refine HW.region ?_
   refine oM (.int .i64 r_5) rfl rfl ?_
   refine oV (.bool (decide (r_5 < 0))) (q_lss rfl rfl) rfl ?_
   refine oM (.bool (decide (r_5 < 0))) rfl rfl ?_
   rcases Bool.eq_false_or_eq_true (decide (r_5 < 0)) with c_5 | c_5
   ·
    replace hM := hM.1 (of_decide_eq_true c_5)
    refine HO.val (v := .pointer (some ⟨bq, 0, none⟩)) (want_by rfl rfl c_5) rfl (q_move rfl) ?_
    refine HO.val (v := .pointer (some ⟨bq, 0, none⟩)) (want_by rfl rfl c_5) rfl (q_nilCheck rfl) ?_
    refine HO.val (v := .pointer (some ⟨bq, 4, none⟩)) (want_by rfl rfl c_5) rfl (q_fieldAddr fa_95_4 rfl rfl) ?_
    refine HO.val (v := v_2) (want_by rfl rfl c_5) rfl (q_load to_93 rfl (Blk.cell (hS.box 0 rfl) rfl)) ?_
    refine HO.val (v := .int .i64 (q_L_2.length : Int)) (want_by rfl rfl c_5) rfl (q_len ts_93 (shp (hS.own 1 rfl).slice) rfl rfl) ?_
    refine HO.val (v := .bool (decide (64 ≤ (q_L_2.length : Int)))) (want_by rfl rfl c_5) rfl (q_geq rfl rfl) ?_
    refine oV (.bool (decide (64 ≤ (q_L_2.length : Int)))) (q_pickK true rfl c_5 rfl) rfl ?_
    refine HO.nil (thenQ_normal (?_))
    refine HW.cond (decide (64 ≤ (q_L_2.length : Int))) rfl (fun c_6 => ?_) (fun c_6 => ?_)
    ·
     replace hM := hM.1 (of_decide_eq_true c_6)
     refine HW.seq ?_
     refine HW.region ?_
     refine oA (.bool false) rfl rfl ?_
     refine HO.nil (thenQ_normal (?_))
     refine HW.ret (thenQ_ret (?_))
     refine ⟨.inr rfl, .bool false, res1 rfl (rt rfl), ?_⟩
     replace hS : St F_7 (Ow.pool 190 18 erL ps_3 :: Ow.box bq 95 #[.int .i64 q_Now_2, .bool q_On_2, .int .i64 q_At_2, .int .i64 q_First_2, v_2] :: Ow.own 184 20 erO v_2 q_L_2 :: fr) h_8 := hS.perm2 [2, 0, 1] 5 rfl rfl
     exact ⟨F_7, false, ps_3, q_Now_2, q_On_2, q_At_2, q_First_2, q_L_2, v_2, rfl, hK, hS, hL_a_Sources, hM⟩
    ·
     replace hM := hM.2 (of_decide_eq_false c_6)
     refine HW.skip (thenQ_normal (?_))
     exact ⟨F_7, rfl, rfl, rfl, rfl, rfl, rfl, hK, hS, hL_a_Sources, hL_1, hM⟩
   ·
    replace hM := hM.2 (of_decide_eq_false c_5)
    refine HO.past (past_by rfl rfl c_5) rfl ?_
    refine HO.past (past_by rfl rfl c_5) rfl ?_
    refine HO.past (past_by rfl rfl c_5) rfl ?_
    refine HO.past (past_by rfl rfl c_5) rfl ?_
    refine HO.past (past_by rfl rfl c_5) rfl ?_
    refine HO.past (past_by rfl rfl c_5) rfl ?_
    refine oV (.bool false) (q_pickK false rfl c_5 rfl) rfl ?_
    refine HO.nil (thenQ_normal (?_))
    refine HW.condF rfl ?_
    refine HW.skip (thenQ_normal (?_))
    exact ⟨F_7, rfl, rfl, rfl, rfl, rfl, rfl, hK, hS, hL_a_Sources, hL_1, hM⟩
  ·
   rintro f_2 h_9 ⟨F_8, e0, e6, e7, e8, e9, e10, hK, hS, hL_a_Sources, hL_1, hM⟩
   unfold ref22_Q_Want_j2 at hM
   refine HW.fr [(0, .pointer (some ⟨bq, 0, none⟩)), (6, .pointer (some ⟨b_1, 0, none⟩)), (7, .pointer (some ⟨b_2, 0, none⟩)), (8, .bool false), (9, vr_1), (10, .int .i64 r_5)] ⟨e0, e6, e7, e8, e9, e10, trivial⟩ ?_
   refine HW.seq_mid (fun f h => ∃ (F' : Fz) (q_4_2 : List TrO) (i_1 : Int) (vq_4_2 : Value), f 0 = .pointer (some ⟨bq, 0, none⟩) ∧ f 6 = .pointer (some ⟨b_1, 0, none⟩) ∧ f 7 = .pointer (some ⟨b_2, 0, none⟩) ∧ f 8 = .bool false ∧ f 9 = vr_1 ∧ f 10 = .int .i64 i_1 ∧ Kp F h0 F' h ∧ St F' (Ow.box bq 95 #[.int .i64 q_Now_2, .bool q_On_2, .int .i64 q_At_2, .int .i64 q_First_2, vq_4_2] :: Ow.own 184 20 erO vq_4_2 q_4_2 :: Ow.pool 190 18 erL ps_3 :: Ow.box b_1 56 (e_api_Tune t).toArray :: Ow.box b_2 97 (c_api_Asked a_Group (.bool a_All) va_Sources).toArray :: fr) h ∧ (SliceF F' h 17 eA va_Sources a_Sources) ∧ (SliceF F' h 17 eA vr_1 r_2) ∧ ref22_Q_Want_j3 t a_All Q q_Now_2 q_On_2 q_At_2 q_First_2 r_2 ps_3 q_4_2 i_1) ?_ ?_
   ·
    refine HW.seq ?_
    refine HW.region ?_
    refine oM (.int .i64 r_5) rfl rfl ?_
    refine oV (.bool (decide (r_5 < 0))) (q_lss rfl rfl) rfl ?_
    refine HO.nil (thenQ_normal (?_))
    refine HW.cond (decide (r_5 < 0)) rfl (fun c_7 => ?_) (fun c_7 => ?_)
    ·
     replace hM := hM.1 (of_decide_eq_true c_7)
     refine HW.seq ?_
     refine HW.region ?_
     refine oA (.int .i64 0) rfl rfl ?_
     refine HO.nil (thenQ_normal (?_))
     refine HW.seq_mid (fun f h => ∃ (F' : Fz) (i_2 : Int), f 0 = .pointer (some ⟨bq, 0, none⟩) ∧ f 6 = .pointer (some ⟨b_1, 0, none⟩) ∧ f 7 = .pointer (some ⟨b_2, 0, none⟩) ∧ f 8 = .bool false ∧ f 9 = vr_1 ∧ f 10 = .int .i64 i_2 ∧ Kp F h0 F' h ∧ St F' (Ow.box bq 95 #[.int .i64 q_Now_2, .bool q_On_2, .int .i64 q_At_2, .int .i64 q_First_2, v_2] :: Ow.own 184 20 erO v_2 q_L_2 :: Ow.pool 190 18 erL ps_3 :: Ow.box b_1 56 (e_api_Tune t).toArray :: Ow.box b_2 97 (c_api_Asked a_Group (.bool a_All) va_Sources).toArray :: fr) h ∧ (SliceF F' h 17 eA va_Sources a_Sources) ∧ (SliceF F' h 17 eA vr_1 r_2) ∧ ref22_Q_Want_j4 t a_Group a_All Q q_Now_2 q_On_2 q_At_2 q_First_2 q_L_2 r_2 ps_3 i_2) ?_ ?_
     ·
      refine HW.block ?_
      obtain ⟨I_1, m_1, hI_1, hR_1⟩ := hM
      refine HW.loop (S := Int) (fun i_3 f h => ∃ (F' : Fz), f 0 = .pointer (some ⟨bq, 0, none⟩) ∧ f 6 = .pointer (some ⟨b_1, 0, none⟩) ∧ f 7 = .pointer (some ⟨b_2, 0, none⟩) ∧ f 8 = .bool false ∧ f 9 = vr_1 ∧ f 10 = .int .i64 i_3 ∧ Kp F h0 F' h ∧ St F' (Ow.box bq 95 #[.int .i64 q_Now_2, .bool q_On_2, .int .i64 q_At_2, .int .i64 q_First_2, v_2] :: Ow.own 184 20 erO v_2 q_L_2 :: Ow.pool 190 18 erL ps_3 :: Ow.box b_1 56 (e_api_Tune t).toArray :: Ow.box b_2 97 (c_api_Asked a_Group (.bool a_All) va_Sources).toArray :: fr) h ∧ (SliceF F' h 17 eA va_Sources a_Sources) ∧ (SliceF F' h 17 eA vr_1 r_2) ∧ I_1 i_3) m_1 0 ⟨F_8, rfl, rfl, rfl, rfl, rfl, rfl, hK, hS, hL_a_Sources, hL_1, hI_1⟩ ?_
      rintro i_3 f_3 h_10 ⟨F_9, e0, e6, e7, e8, e9, e10, hK, hS, hL_a_Sources, hL_1, hI0⟩
      obtain ⟨K_1, hKe_1⟩ : ∃ K : Int → Prop, K = fun i_3' => I_1 i_3' ∧ m_1 i_3' < m_1 i_3 := ⟨_, rfl⟩
      have hM : ref22_Q_Want_l1 t a_Group a_All Q q_Now_2 q_On_2 q_At_2 q_First_2 q_L_2 r_2 ps_3 K_1 i_3 := by rw [hKe_1]; exact hR_1 i_3 hI0
      unfold ref22_Q_Want_l1 at hM
      refine HW.fr [(0, .pointer (some ⟨bq, 0, none⟩)), (6, .pointer (some ⟨b_1, 0, none⟩)), (7, .pointer (some ⟨b_2, 0, none⟩)), (8, .bool false), (9, vr_1), (10, .int .i64 i_3)] ⟨e0, e6, e7, e8, e9, e10, trivial⟩ ?_
      refine HW.seq ?_
      refine HW.seq ?_
      refine HW.regionA 21 mixed (fun h => (Blk h bq (.cells #[.int .i64 q_Now_2, .bool q_On_2, .int .i64 q_At_2, .int .i64 q_First_2, v_2] 95 (0, 0))) ∧ (OwnIs h 0 184 20 erO v_2 q_L_2) ∧ (Blk h b_2 (.cells (c_api_Asked a_Group (.bool a_All) va_Sources).toArray 97 (0, 0)))) [] (by kernel_rfl) ?_
      refine HA.val (k := 0) (v := .int .i64 i_3) rfl rfl (by kernel_rfl) (by kernel_rfl) (want_none) rfl (fun _ ⟨c331, c332, c335⟩ => q_move rfl) ?_
      refine HA.val (k := 1) (v := .pointer (some ⟨bq, 0, none⟩)) rfl rfl (by kernel_rfl) (by kernel_rfl) (want_none) rfl (fun _ ⟨c331, c332, c335⟩ => q_move rfl) ?_
      refine HA.val (k := 2) (v := .pointer (some ⟨bq, 0, none⟩)) rfl rfl (by kernel_rfl) (by kernel_rfl) (want_none) rfl (fun _ ⟨c331, c332, c335⟩ => q_nilCheck rfl) ?_
      refine HA.val (k := 3) (v := .pointer (some ⟨bq, 4, none⟩)) rfl rfl (by kernel_rfl) (by kernel_rfl) (want_none) rfl (fun _ ⟨c331, c332, c335⟩ => q_fieldAddr fa_95_4 rfl rfl) ?_
      refine HA.val (k := 4) (v := v_2) rfl rfl (by kernel_rfl) (by kernel_rfl) (want_none) rfl (fun _ ⟨c331, c332, c335⟩ => q_load to_93 rfl (Blk.cell c331 rfl)) ?_
      refine HA.val (k := 5) (v := .int .i64 (q_L_2.length : Int)) rfl rfl (by kernel_rfl) (by kernel_rfl) (want_none) rfl (fun _ ⟨c331, c332, c335⟩ => q_len ts_93 (shp c332.slice) rfl rfl) ?_
      refine HA.val (k := 6) (v := .bool (decide (i_3 < (q_L_2.length : Int)))) rfl rfl (by kernel_rfl) (by kernel_rfl) (want_none) rfl (fun _ ⟨c331, c332, c335⟩ => q_lss rfl rfl) ?_
      refine HA.val (k := 7) (v := .bool (decide (i_3 < (q_L_2.length : Int)))) rfl rfl (by kernel_rfl) (by kernel_rfl) (want_none) rfl (fun _ ⟨c331, c332, c335⟩ => q_move rfl) ?_
      rcases Bool.eq_false_or_eq_true (decide (i_3 < (q_L_2.length : Int))) with c_8 | c_8
      ·
       replace hM := hM.1 (of_decide_eq_true c_8)
       refine HA.val (k := 8) (v := .pointer (some ⟨bq, 0, none⟩)) rfl rfl (by kernel_rfl) (by kernel_rfl) (want_by rfl rfl c_8) rfl (fun _ ⟨c331, c332, c335⟩ => q_move rfl) ?_
       refine HA.val (k := 9) (v := .pointer (some ⟨bq, 0, none⟩)) rfl rfl (by kernel_rfl) (by kernel_rfl) (want_by rfl rfl c_8) rfl (fun _ ⟨c331, c332, c335⟩ => q_nilCheck rfl) ?_
       refine HA.val (k := 10) (v := .pointer (some ⟨bq, 4, none⟩)) rfl rfl (by kernel_rfl) (by kernel_rfl) (want_by rfl rfl c_8) rfl (fun _ ⟨c331, c332, c335⟩ => q_fieldAddr fa_95_4 rfl rfl) ?_
       refine HA.val (k := 11) (v := v_2) rfl rfl (by kernel_rfl) (by kernel_rfl) (want_by rfl rfl c_8) rfl (fun _ ⟨c331, c332, c335⟩ => q_load to_93 rfl (Blk.cell c331 rfl)) ?_
       refine HA.val (k := 12) (v := .int .i64 i_3) rfl rfl (by kernel_rfl) (by kernel_rfl) (want_by rfl rfl c_8) rfl (fun _ ⟨c331, c332, c335⟩ => q_move rfl) ?_
       obtain ⟨ho_1, hM⟩ := hM
       refine HA.val (k := 13) (v := elemPtr 20 v_2 (i_3).toNat) rfl rfl (by kernel_rfl) (by kernel_rfl) (want_by rfl rfl c_8) rfl (fun _ ⟨c331, c332, c335⟩ => q_idx ts_93 c332.slice rfl rfl ho_1) ?_
       refine HA.val (k := 14) (v := fieldPtr 20 v_2 (i_3).toNat 0) rfl rfl (by kernel_rfl) (by kernel_rfl) (want_by rfl rfl c_8) rfl (fun _ ⟨c331, c332, c335⟩ => q_fldElem fa_184_0 c332.slice rfl ho_1) ?_
       refine HA.val (k := 15) (v := .agg (eA ((gi q_L_2 i_3).1)).toArray) rfl rfl (by kernel_rfl) (by kernel_rfl) (want_by rfl rfl c_8) rfl (fun _ ⟨c331, c332, c335⟩ => q_ldFieldAgg (n := 17) (cs := (eA ((gi q_L_2 i_3).1))) ta_28 c332.slice rfl ho_1 (by decide) rfl) ?_
       refine HA.val (k := 16) (v := .pointer (some ⟨b_2, 0, none⟩)) rfl rfl (by kernel_rfl) (by kernel_rfl) (want_by rfl rfl c_8) rfl (fun _ ⟨c331, c332, c335⟩ => q_fieldAddr fa_97_0 rfl rfl) ?_
       refine HA.val (k := 17) (v := .agg (eA a_Group).toArray) rfl rfl (by kernel_rfl) (by kernel_rfl) (want_by rfl rfl c_8) rfl (fun _ ⟨c331, c332, c335⟩ => q_loadAgg (cs := (eA a_Group)) ta_28 rfl rfl (Blk.cells (k := 17) c335 rfl)) ?_
       refine HA.one (k := 18) ⟨⟨(hS.box 0 rfl), (hS.own 1 rfl), (hS.box 4 rfl)⟩, (Go.Wk.at_nil _ _)⟩ (by kernel_rfl) ?_
       refine HS.call rfl (want_by rfl rfl c_8) rfl (ec en_100 rfl rfl) (ref03_Cmp_walk (fr := (Ow.box bq 95 #[.int .i64 q_Now_2, .bool q_On_2, .int .i64 q_At_2, .int .i64 q_First_2, v_2] :: Ow.own 184 20 erO v_2 q_L_2 :: Ow.pool 190 18 erL ps_3 :: Ow.box b_1 56 (e_api_Tune t).toArray :: Ow.box b_2 97 (c_api_Asked a_Group (.bool a_All) va_Sources).toArray :: fr)) ((gi q_L_2 i_3).1) a_Group hS hM) ?_
       rintro _ h_11 ⟨F_10, r_6, rfl, hk, hS, hM⟩
       replace hK := hK.trans hk
       replace hL_a_Sources := hL_a_Sources.kp hk
       replace hL_1 := hL_1.kp hk
       refine HA.val (k := 19) (v := .bool (decide (r_6 < 0))) rfl rfl (by kernel_rfl) (by kernel_rfl) (want_by rfl rfl c_8) rfl (fun _ ⟨c331, c332, c335⟩ => q_lss rfl rfl) ?_
       refine HA.val (k := 20) (v := .bool (decide (r_6 < 0))) rfl rfl (by kernel_rfl) (by kernel_rfl) (want_none) rfl (fun _ ⟨c331, c332, c335⟩ => q_pickK true rfl c_8 rfl) ?_
       refine HA.nil ⟨⟨(hS.box 0 rfl), (hS.own 1 rfl), (hS.box 4 rfl)⟩, (Go.Wk.at_nil _ _)⟩ (by kernel_rfl) (thenQ_normal (?_))
       refine HW.cond (decide (r_6 < 0)) rfl (fun c_9 => ?_) (fun c_9 => ?_)
       ·
        replace hM := hM.1 (of_decide_eq_true c_9)
        refine HW.skip (thenQ_normal (?_))
        refine HW.block ?_
        refine HW.region ?_
        refine oM (.int .i64 i_3) rfl rfl ?_
        obtain ⟨ho_2, hM⟩ := hM
        refine oV (.int .i64 (i_3 + 1)) (q_addN _ rfl rfl rfl ho_2.1 ho_2.2) rfl ?_
        refine oA (.int .i64 (i_3 + 1)) rfl rfl ?_
        refine HO.nil (blockQ_normal (thenQ_normal (?_)))
        rw [hKe_1] at hM
        exact ⟨i_3 + 1, ⟨F_10, rfl, rfl, rfl, rfl, rfl, rfl, hK, hS, hL_a_Sources, hL_1, hM.1⟩, hM.2⟩
       ·
        replace hM := hM.2 (of_decide_eq_false c_9)
        refine HW.exit (thenQ_exit (thenQ_exit (blockQ_exit (thenQ_normal (?_)))))
        exact ⟨F_10, i_3, rfl, rfl, rfl, rfl, rfl, rfl, hK, hS, hL_a_Sources, hL_1, hM⟩
      ·
       replace hM := hM.2 (of_decide_eq_false c_8)
       refine HA.past (k := 8) rfl rfl (by kernel_rfl) (by kernel_rfl) (past_by rfl rfl c_8) rfl ?_
       refine HA.past (k := 9) rfl rfl (by kernel_rfl) (by kernel_rfl) (past_by rfl rfl c_8) rfl ?_
       refine HA.past (k := 10) rfl rfl (by kernel_rfl) (by kernel_rfl) (past_by rfl rfl c_8) rfl ?_
       refine HA.past (k := 11) rfl rfl (by kernel_rfl) (by kernel_rfl) (past_by rfl rfl c_8) rfl ?_
       refine HA.past (k := 12) rfl rfl (by kernel_rfl) (by kernel_rfl) (past_by rfl rfl c_8) rfl ?_
       refine HA.past (k := 13) rfl rfl (by kernel_rfl) (by kernel_rfl) (past_by rfl rfl c_8) rfl ?_
       refine HA.past (k := 14) rfl rfl (by kernel_rfl) (by kernel_rfl) (past_by rfl rfl c_8) rfl ?_
       refine HA.past (k := 15) rfl rfl (by kernel_rfl) (by kernel_rfl) (past_by rfl rfl c_8) rfl ?_
       refine HA.past (k := 16) rfl rfl (by kernel_rfl) (by kernel_rfl) (past_by rfl rfl c_8) rfl ?_
       refine HA.past (k := 17) rfl rfl (by kernel_rfl) (by kernel_rfl) (past_by rfl rfl c_8) rfl ?_
       refine HA.one (k := 18) ⟨⟨(hS.box 0 rfl), (hS.own 1 rfl), (hS.box 4 rfl)⟩, (Go.Wk.at_nil _ _)⟩ (by kernel_rfl) ?_
       refine HS.past rfl (past_by rfl rfl c_8) rfl ?_
       refine HA.past (k := 19) rfl rfl (by kernel_rfl) (by kernel_rfl) (past_by rfl rfl c_8) rfl ?_
       refine HA.val (k := 20) (v := .bool false) rfl rfl (by kernel_rfl) (by kernel_rfl) (want_none) rfl (fun _ ⟨c331, c332, c335⟩ => q_pickK false rfl c_8 rfl) ?_
       refine HA.nil ⟨⟨(hS.box 0 rfl), (hS.own 1 rfl), (hS.box 4 rfl)⟩, (Go.Wk.at_nil _ _)⟩ (by kernel_rfl) (thenQ_normal (?_))
       refine HW.condF rfl ?_
       refine HW.exit (thenQ_exit (thenQ_exit (blockQ_exit (thenQ_normal (?_)))))
       exact ⟨F_9, i_3, rfl, rfl, rfl, rfl, rfl, rfl, hK, hS, hL_a_Sources, hL_1, hM⟩
     ·
      rintro f_4 h_12 ⟨F_11, i_2, e0, e6, e7, e8, e9, e10, hK, hS, hL_a_Sources, hL_1, hM⟩
      unfold ref22_Q_Want_j4 at hM
      refine HW.fr [(0, .pointer (some ⟨bq, 0, none⟩)), (6, .pointer (some ⟨b_1, 0, none⟩)), (7, .pointer (some ⟨b_2, 0, none⟩)), (8, .bool false), (9, vr_1), (10, .int .i64 i_2)] ⟨e0, e6, e7, e8, e9, e10, trivial⟩ ?_
      obtain ⟨ho_3, hM⟩ := hM
      obtain ⟨ho_4, hM⟩ := hM
      obtain ⟨ho_5, hM⟩ := hM
      obtain ⟨ho_6, hM⟩ := hM
      obtain ⟨ho_7, hM⟩ := hM
      obtain ⟨ho_8, hM⟩ := hM
      refine HW.regionA 24 mixed (fun h => (OwnIs h 0 184 20 erO v_2 q_L_2) ∧ (Blk h b_2 (.cells (c_api_Asked a_Group (.bool a_All) va_Sources).toArray 97 (0, 0)))) [(23, fun h => (Blk h bq (.cells #[.int .i64 q_Now_2, .bool q_On_2, .int .i64 q_At_2, .int .i64 q_First_2, v_2] 95 (0, 0))))] (by kernel_rfl) ?_
      refine HA.val (k := 0) (v := .pointer (some ⟨bq, 0, none⟩)) rfl rfl (by kernel_rfl) (by kernel_rfl) (want_none) rfl (fun _ ⟨c227, c230⟩ => q_move rfl) ?_
      refine HA.val (k := 2) (v := .pointer (some ⟨bq, 0, none⟩)) rfl rfl (by kernel_rfl) (by kernel_rfl) (want_none) rfl (fun _ ⟨c227, c230⟩ => q_move rfl) ?_
      refine HA.val (k := 3) (v := .pointer (some ⟨bq, 0, none⟩)) rfl rfl (by kernel_rfl) (by kernel_rfl) (want_none) rfl (fun _ ⟨c227, c230⟩ => q_nilCheck rfl) ?_
      refine HA.val (k := 4) (v := .pointer (some ⟨bq, 4, none⟩)) rfl rfl (by kernel_rfl) (by kernel_rfl) (want_none) rfl (fun _ ⟨c227, c230⟩ => q_fieldAddr fa_95_4 rfl rfl) ?_
      refine Go.Wk.HA.valN (k := 5) (v := v_2) 0 23 (fun h => (Blk h bq (.cells #[.int .i64 q_Now_2, .bool q_On_2, .int .i64 q_At_2, .int .i64 q_First_2, v_2] 95 (0, 0)))) rfl rfl (by kernel_rfl) (by kernel_rfl) (want_none) rfl rfl (by kernel_rfl) (fun _ ⟨c227, c230⟩ c226 => q_load to_93 rfl (Blk.cell c226 rfl)) ?_
      refine HA.val (k := 6) (v := .int .i64 i_2) rfl rfl (by kernel_rfl) (by kernel_rfl) (want_none) rfl (fun _ ⟨c227, c230⟩ => q_move rfl) ?_
      refine HA.val (k := 7) (v := cutV 20 v_2 (0 : Int).toNat (i_2).toNat) rfl rfl (by kernel_rfl) (by kernel_rfl) (want_none) rfl (fun _ ⟨c227, c230⟩ => q_slH ts_93 c227.slice rfl rfl ho_3) ?_
      refine HA.val (k := 9) (v := .pointer (some ⟨b_2, 0, none⟩)) rfl rfl (by kernel_rfl) (by kernel_rfl) (want_none) rfl (fun _ ⟨c227, c230⟩ => q_fieldAddr fa_97_0 rfl rfl) ?_
      refine HA.val (k := 10) (v := .agg (eA a_Group).toArray) rfl rfl (by kernel_rfl) (by kernel_rfl) (want_none) rfl (fun _ ⟨c227, c230⟩ => q_loadAgg (cs := (eA a_Group)) ta_28 rfl rfl (Blk.cells (k := 17) c230 rfl)) ?_
      refine HA.val (k := 11) (v := .agg #[.bool a_Group.1, .int .u8 (b8 a_Group.2 0), .int .u8 (b8 a_Group.2 1), .int .u8 (b8 a_Group.2 2), .int .u8 (b8 a_Group.2 3), .int .u8 (b8 a_Group.2 4), .int .u8 (b8 a_Group.2 5), .int .u8 (b8 a_Group.2 6), .int .u8 (b8 a_Group.2 7), .int .u8 (b8 a_Group.2 8), .int .u8 (b8 a_Group.2 9), .int .u8 (b8 a_Group.2 10), .int .u8 (b8 a_Group.2 11), .int .u8 (b8 a_Group.2 12), .int .u8 (b8 a_Group.2 13), .int .u8 (b8 a_Group.2 14), .int .u8 (b8 a_Group.2 15), .int .i64 0, .int .i64 0, .slice none 0 0]) rfl rfl (by kernel_rfl) (by kernel_rfl) (want_none) rfl (fun _ ⟨c227, c230⟩ => q_build tp_184 (fill_cons (cs' := #[.bool a_Group.1, .int .u8 (b8 a_Group.2 0), .int .u8 (b8 a_Group.2 1), .int .u8 (b8 a_Group.2 2), .int .u8 (b8 a_Group.2 3), .int .u8 (b8 a_Group.2 4), .int .u8 (b8 a_Group.2 5), .int .u8 (b8 a_Group.2 6), .int .u8 (b8 a_Group.2 7), .int .u8 (b8 a_Group.2 8), .int .u8 (b8 a_Group.2 9), .int .u8 (b8 a_Group.2 10), .int .u8 (b8 a_Group.2 11), .int .u8 (b8 a_Group.2 12), .int .u8 (b8 a_Group.2 13), .int .u8 (b8 a_Group.2 14), .int .u8 (b8 a_Group.2 15), .int .i64 0, .int .i64 0, .slice none 0 0]) (vc := (eA a_Group).toArray) rfl rfl rfl (Nat.le_of_ble_eq_true rfl) rfl rfl)) ?_
      refine HA.val (k := 14) (v := .pointer (some ⟨bq, 0, none⟩)) rfl rfl (by kernel_rfl) (by kernel_rfl) (want_none) rfl (fun _ ⟨c227, c230⟩ => q_move rfl) ?_
      refine HA.val (k := 15) (v := .pointer (some ⟨bq, 0, none⟩)) rfl rfl (by kernel_rfl) (by kernel_rfl) (want_none) rfl (fun _ ⟨c227, c230⟩ => q_nilCheck rfl) ?_
      refine HA.val (k := 16) (v := .pointer (some ⟨bq, 4, none⟩)) rfl rfl (by kernel_rfl) (by kernel_rfl) (want_none) rfl (fun _ ⟨c227, c230⟩ => q_fieldAddr fa_95_4 rfl rfl) ?_
      refine Go.Wk.HA.valN (k := 17) (v := v_2) 0 23 (fun h => (Blk h bq (.cells #[.int .i64 q_Now_2, .bool q_On_2, .int .i64 q_At_2, .int .i64 q_First_2, v_2] 95 (0, 0)))) rfl rfl (by kernel_rfl) (by kernel_rfl) (want_none) rfl rfl (by kernel_rfl) (fun _ ⟨c227, c230⟩ c226 => q_load to_93 rfl (Blk.cell c226 rfl)) ?_
      refine HA.val (k := 18) (v := .int .i64 i_2) rfl rfl (by kernel_rfl) (by kernel_rfl) (want_none) rfl (fun _ ⟨c227, c230⟩ => q_move rfl) ?_
      refine HA.val (k := 19) (v := cutV 20 v_2 (i_2).toNat ((q_L_2.length : Int)).toNat) rfl rfl (by kernel_rfl) (by kernel_rfl) (want_none) rfl (fun _ ⟨c227, c230⟩ => q_slL ts_93 c227.slice rfl rfl ho_3) ?_
      refine HA.two (k := 1) (k' := 12) ⟨⟨(hS.own 1 rfl), (hS.box 4 rfl)⟩, (at_now (hS.box 0 rfl) (Go.Wk.at_nil _ _))⟩ (by kernel_rfl) ?_ ?_
      ·
       refine HS.eff rfl (want_none) rfl (st_litEmpty (α := TrO) erO hS tl_93) ?_
       rintro _ h_13 ⟨b_3, rfl, hS, hk⟩
       replace hK := hK.trans hk
       replace hL_a_Sources := hL_a_Sources.kp hk
       replace hL_1 := hL_1.kp hk
       refine HA.two (k := 8) (k' := 12) ⟨⟨(hS.own 2 rfl), (hS.box 5 rfl)⟩, (at_now (hS.box 1 rfl) (Go.Wk.at_nil _ _))⟩ (by kernel_rfl) ?_ ?_
       ·
        refine HS.eff rfl (want_none) rfl (st_append te_93 hS (i := 0) rfl (cutIs (hS.own 2 rfl).slice 0 i_2 ho_4.1 ho_4.2.1 ho_4.2.2) rfl rfl rfl (by intro a _ u hu; simp [erO, encI, encN, encB, encT] at hu; rcases hu with rfl | rfl | rfl | rfl | rfl | rfl | rfl | rfl | rfl | rfl | rfl | rfl | rfl | rfl | rfl | rfl | rfl | rfl | rfl | rfl <;> rfl) ho_5 (by omega)) ?_
        rintro v_3 h_14 ⟨hS, hk⟩
        replace hK := hK.trans hk
        replace hL_a_Sources := hL_a_Sources.kp hk
        replace hL_1 := hL_1.kp hk
        refine HA.one (k := 12) ⟨⟨(hS.own 2 rfl), (hS.box 5 rfl)⟩, (at_now (hS.box 1 rfl) (Go.Wk.at_nil _ _))⟩ (by kernel_rfl) ?_
        refine HS.eff rfl (want_none) rfl (st_lit (enc := erO) (cells := #[.bool a_Group.1, .int .u8 (b8 a_Group.2 0), .int .u8 (b8 a_Group.2 1), .int .u8 (b8 a_Group.2 2), .int .u8 (b8 a_Group.2 3), .int .u8 (b8 a_Group.2 4), .int .u8 (b8 a_Group.2 5), .int .u8 (b8 a_Group.2 6), .int .u8 (b8 a_Group.2 7), .int .u8 (b8 a_Group.2 8), .int .u8 (b8 a_Group.2 9), .int .u8 (b8 a_Group.2 10), .int .u8 (b8 a_Group.2 11), .int .u8 (b8 a_Group.2 12), .int .u8 (b8 a_Group.2 13), .int .u8 (b8 a_Group.2 14), .int .u8 (b8 a_Group.2 15), .int .i64 0, .int .i64 0, .slice none 0 0]) #[.bool false, .int .u8 0, .int .u8 0, .int .u8 0, .int .u8 0, .int .u8 0, .int .u8 0, .int .u8 0, .int .u8 0, .int .u8 0, .int .u8 0, .int .u8 0, .int .u8 0, .int .u8 0, .int .u8 0, .int .u8 0, .int .u8 0, .int .i64 0, .int .i64 0, .slice none 0 0] ([(a_Group, 0, 0, ((none, 0, 0), []))] : List TrO) hS tl_93 (by decide) (by decide) (by kernel_rfl) (by kernel_rfl) rfl (by intro x hx; rfl) rfl) ?_
        rintro _ h_15 ⟨b_4, rfl, hS, hk⟩
        replace hK := hK.trans hk
        replace hL_a_Sources := hL_a_Sources.kp hk
        replace hL_1 := hL_1.kp hk
        refine HA.one (k := 13) ⟨⟨(hS.own 3 rfl), (hS.box 6 rfl)⟩, (at_now (hS.box 2 rfl) (Go.Wk.at_nil _ _))⟩ (by kernel_rfl) ?_
        refine HS.eff rfl (want_none) rfl (st_append te_93 hS (i := 1) rfl (hS.own 0 rfl).slice rfl rfl rfl (by intro a _ u hu; simp [erO, encI, encN, encB, encT] at hu; rcases hu with rfl | rfl | rfl | rfl | rfl | rfl | rfl | rfl | rfl | rfl | rfl | rfl | rfl | rfl | rfl | rfl | rfl | rfl | rfl | rfl <;> rfl) ho_6 (by omega)) ?_
        rintro v_4 h_16 ⟨hS, hk⟩
        replace hK := hK.trans hk
        replace hL_a_Sources := hL_a_Sources.kp hk
        replace hL_1 := hL_1.kp hk
        refine HA.one (k := 20) ⟨⟨(hS.own 3 rfl), (hS.box 6 rfl)⟩, (at_now (hS.box 2 rfl) (Go.Wk.at_nil _ _))⟩ (by kernel_rfl) ?_
        refine HS.eff rfl (want_none) rfl (st_append te_93 hS (i := 1) rfl (cutIs (hS.own 3 rfl).slice i_2 (q_L_2.length : Int) ho_7.1 ho_7.2.1 ho_7.2.2) rfl rfl rfl (by intro a _ u hu; simp [erO, encI, encN, encB, encT] at hu; rcases hu with rfl | rfl | rfl | rfl | rfl | rfl | rfl | rfl | rfl | rfl | rfl | rfl | rfl | rfl | rfl | rfl | rfl | rfl | rfl | rfl <;> rfl) ho_8 (by omega)) ?_
        rintro v_5 h_17 ⟨hS, hk⟩
        replace hK := hK.trans hk
        replace hL_a_Sources := hL_a_Sources.kp hk
        replace hL_1 := hL_1.kp hk
        refine HA.val (k := 21) (v := .pointer (some ⟨bq, 0, none⟩)) rfl rfl (by kernel_rfl) (by kernel_rfl) (want_none) rfl (fun _ ⟨c227, c230⟩ => q_nilCheck rfl) ?_
        refine HA.val (k := 22) (v := .pointer (some ⟨bq, 4, none⟩)) rfl rfl (by kernel_rfl) (by kernel_rfl) (want_none) rfl (fun _ ⟨c227, c230⟩ => q_fieldAddr fa_95_4 rfl rfl) ?_
        refine HA.one (k := 23) ⟨⟨(hS.own 3 rfl), (hS.box 6 rfl)⟩, (at_now (hS.box 2 rfl) (Go.Wk.at_nil _ _))⟩ (by kernel_rfl) ?_
        refine HS.sto rfl (want_none) rfl (st_store (c' := #[.int .i64 q_Now_2, .bool q_On_2, .int .i64 q_At_2, .int .i64 q_First_2, v_5]) hS (i := 2) rfl to_93 rfl rfl (shp (hS.own 1 rfl).slice).cells (shp (hS.own 1 rfl).slice).one (Nat.le_of_ble_eq_true rfl) rfl) ?_
        rintro h_18 ⟨hS, hk⟩
        replace hK := hK.trans hk
        replace hL_a_Sources := hL_a_Sources.kp hk
        replace hL_1 := hL_1.kp hk
        refine HA.nil ⟨⟨(hS.own 3 rfl), (hS.box 6 rfl)⟩, (at_done (by kernel_rfl) (Go.Wk.at_nil _ _))⟩ (by kernel_rfl) (thenQ_normal (?_))
        replace hS : St F_11 (Ow.box bq 95 #[.int .i64 q_Now_2, .bool q_On_2, .int .i64 q_At_2, .int .i64 q_First_2, v_5] :: Ow.own 184 20 erO v_5 (((([] : List TrO) ++ (cut q_L_2 0 i_2)) ++ ([(a_Group, 0, 0, ((none, 0, 0), []))] : List TrO)) ++ (cut q_L_2 i_2 (q_L_2.length : Int))) :: Ow.pool 190 18 erL ps_3 :: Ow.box b_1 56 (e_api_Tune t).toArray :: Ow.box b_2 97 (c_api_Asked a_Group (.bool a_All) va_Sources).toArray :: fr) h_18 := hS.perm2 [2, 1, 4, 5, 6] 7 rfl rfl
        exact ⟨F_11, ((([] : List TrO) ++ (cut q_L_2 0 i_2)) ++ ([(a_Group, 0, 0, ((none, 0, 0), []))] : List TrO)) ++ (cut q_L_2 i_2 (q_L_2.length : Int)), i_2, v_5, rfl, rfl, rfl, rfl, rfl, rfl, hK, hS, hL_a_Sources, hL_1, hM⟩
       ·
        refine HS.eff rfl (want_none) rfl (st_lit (enc := erO) (cells := #[.bool a_Group.1, .int .u8 (b8 a_Group.2 0), .int .u8 (b8 a_Group.2 1), .int .u8 (b8 a_Group.2 2), .int .u8 (b8 a_Group.2 3), .int .u8 (b8 a_Group.2 4), .int .u8 (b8 a_Group.2 5), .int .u8 (b8 a_Group.2 6), .int .u8 (b8 a_Group.2 7), .int .u8 (b8 a_Group.2 8), .int .u8 (b8 a_Group.2 9), .int .u8 (b8 a_Group.2 10), .int .u8 (b8 a_Group.2 11), .int .u8 (b8 a_Group.2 12), .int .u8 (b8 a_Group.2 13), .int .u8 (b8 a_Group.2 14), .int .u8 (b8 a_Group.2 15), .int .i64 0, .int .i64 0, .slice none 0 0]) #[.bool false, .int .u8 0, .int .u8 0, .int .u8 0, .int .u8 0, .int .u8 0, .int .u8 0, .int .u8 0, .int .u8 0, .int .u8 0, .int .u8 0, .int .u8 0, .int .u8 0, .int .u8 0, .int .u8 0, .int .u8 0, .int .u8 0, .int .i64 0, .int .i64 0, .slice none 0 0] ([(a_Group, 0, 0, ((none, 0, 0), []))] : List TrO) hS tl_93 (by decide) (by decide) (by kernel_rfl) (by kernel_rfl) rfl (by intro x hx; rfl) rfl) ?_
        rintro _ h_14 ⟨b_4, rfl, hS, hk⟩
        replace hK := hK.trans hk
        replace hL_a_Sources := hL_a_Sources.kp hk
        replace hL_1 := hL_1.kp hk
        refine HA.one (k := 8) ⟨⟨(hS.own 3 rfl), (hS.box 6 rfl)⟩, (at_now (hS.box 2 rfl) (Go.Wk.at_nil _ _))⟩ (by kernel_rfl) ?_
        refine HS.eff rfl (want_none) rfl (st_append te_93 hS (i := 1) rfl (cutIs (hS.own 3 rfl).slice 0 i_2 ho_4.1 ho_4.2.1 ho_4.2.2) rfl rfl rfl (by intro a _ u hu; simp [erO, encI, encN, encB, encT] at hu; rcases hu with rfl | rfl | rfl | rfl | rfl | rfl | rfl | rfl | rfl | rfl | rfl | rfl | rfl | rfl | rfl | rfl | rfl | rfl | rfl | rfl <;> rfl) ho_5 (by omega)) ?_
        rintro v_3 h_15 ⟨hS, hk⟩
        replace hK := hK.trans hk
        replace hL_a_Sources := hL_a_Sources.kp hk
        replace hL_1 := hL_1.kp hk
        refine HA.one (k := 13) ⟨⟨(hS.own 3 rfl), (hS.box 6 rfl)⟩, (at_now (hS.box 2 rfl) (Go.Wk.at_nil _ _))⟩ (by kernel_rfl) ?_
        refine HS.eff rfl (want_none) rfl (st_append te_93 hS (i := 1) rfl (hS.own 0 rfl).slice rfl rfl rfl (by intro a _ u hu; simp [erO, encI, encN, encB, encT] at hu; rcases hu with rfl | rfl | rfl | rfl | rfl | rfl | rfl | rfl | rfl | rfl | rfl | rfl | rfl | rfl | rfl | rfl | rfl | rfl | rfl | rfl <;> rfl) ho_6 (by omega)) ?_
        rintro v_4 h_16 ⟨hS, hk⟩
        replace hK := hK.trans hk
        replace hL_a_Sources := hL_a_Sources.kp hk
        replace hL_1 := hL_1.kp hk
        refine HA.one (k := 20) ⟨⟨(hS.own 3 rfl), (hS.box 6 rfl)⟩, (at_now (hS.box 2 rfl) (Go.Wk.at_nil _ _))⟩ (by kernel_rfl) ?_
        refine HS.eff rfl (want_none) rfl (st_append te_93 hS (i := 1) rfl (cutIs (hS.own 3 rfl).slice i_2 (q_L_2.length : Int) ho_7.1 ho_7.2.1 ho_7.2.2) rfl rfl rfl (by intro a _ u hu; simp [erO, encI, encN, encB, encT] at hu; rcases hu with rfl | rfl | rfl | rfl | rfl | rfl | rfl | rfl | rfl | rfl | rfl | rfl | rfl | rfl | rfl | rfl | rfl | rfl | rfl | rfl <;> rfl) ho_8 (by omega)) ?_
        rintro v_5 h_17 ⟨hS, hk⟩
        replace hK := hK.trans hk
        replace hL_a_Sources := hL_a_Sources.kp hk
        replace hL_1 := hL_1.kp hk
        refine HA.val (k := 21) (v := .pointer (some ⟨bq, 0, none⟩)) rfl rfl (by kernel_rfl) (by kernel_rfl) (want_none) rfl (fun _ ⟨c227, c230⟩ => q_nilCheck rfl) ?_
        refine HA.val (k := 22) (v := .pointer (some ⟨bq, 4, none⟩)) rfl rfl (by kernel_rfl) (by kernel_rfl) (want_none) rfl (fun _ ⟨c227, c230⟩ => q_fieldAddr fa_95_4 rfl rfl) ?_
        refine HA.one (k := 23) ⟨⟨(hS.own 3 rfl), (hS.box 6 rfl)⟩, (at_now (hS.box 2 rfl) (Go.Wk.at_nil _ _))⟩ (by kernel_rfl) ?_
        refine HS.sto rfl (want_none) rfl (st_store (c' := #[.int .i64 q_Now_2, .bool q_On_2, .int .i64 q_At_2, .int .i64 q_First_2, v_5]) hS (i := 2) rfl to_93 rfl rfl (shp (hS.own 1 rfl).slice).cells (shp (hS.own 1 rfl).slice).one (Nat.le_of_ble_eq_true rfl) rfl) ?_
        rintro h_18 ⟨hS, hk⟩
        replace hK := hK.trans hk
        replace hL_a_Sources := hL_a_Sources.kp hk
        replace hL_1 := hL_1.kp hk
        refine HA.nil ⟨⟨(hS.own 3 rfl), (hS.box 6 rfl)⟩, (at_done (by kernel_rfl) (Go.Wk.at_nil _ _))⟩ (by kernel_rfl) (thenQ_normal (?_))
        replace hS : St F_11 (Ow.box bq 95 #[.int .i64 q_Now_2, .bool q_On_2, .int .i64 q_At_2, .int .i64 q_First_2, v_5] :: Ow.own 184 20 erO v_5 (((([] : List TrO) ++ (cut q_L_2 0 i_2)) ++ ([(a_Group, 0, 0, ((none, 0, 0), []))] : List TrO)) ++ (cut q_L_2 i_2 (q_L_2.length : Int))) :: Ow.pool 190 18 erL ps_3 :: Ow.box b_1 56 (e_api_Tune t).toArray :: Ow.box b_2 97 (c_api_Asked a_Group (.bool a_All) va_Sources).toArray :: fr) h_18 := hS.perm2 [2, 1, 4, 5, 6] 7 rfl rfl
        exact ⟨F_11, ((([] : List TrO) ++ (cut q_L_2 0 i_2)) ++ ([(a_Group, 0, 0, ((none, 0, 0), []))] : List TrO)) ++ (cut q_L_2 i_2 (q_L_2.length : Int)), i_2, v_5, rfl, rfl, rfl, rfl, rfl, rfl, hK, hS, hL_a_Sources, hL_1, hM⟩
      ·
       refine HS.eff rfl (want_none) rfl (st_lit (enc := erO) (cells := #[.bool a_Group.1, .int .u8 (b8 a_Group.2 0), .int .u8 (b8 a_Group.2 1), .int .u8 (b8 a_Group.2 2), .int .u8 (b8 a_Group.2 3), .int .u8 (b8 a_Group.2 4), .int .u8 (b8 a_Group.2 5), .int .u8 (b8 a_Group.2 6), .int .u8 (b8 a_Group.2 7), .int .u8 (b8 a_Group.2 8), .int .u8 (b8 a_Group.2 9), .int .u8 (b8 a_Group.2 10), .int .u8 (b8 a_Group.2 11), .int .u8 (b8 a_Group.2 12), .int .u8 (b8 a_Group.2 13), .int .u8 (b8 a_Group.2 14), .int .u8 (b8 a_Group.2 15), .int .i64 0, .int .i64 0, .slice none 0 0]) #[.bool false, .int .u8 0, .int .u8 0, .int .u8 0, .int .u8 0, .int .u8 0, .int .u8 0, .int .u8 0, .int .u8 0, .int .u8 0, .int .u8 0, .int .u8 0, .int .u8 0, .int .u8 0, .int .u8 0, .int .u8 0, .int .u8 0, .int .i64 0, .int .i64 0, .slice none 0 0] ([(a_Group, 0, 0, ((none, 0, 0), []))] : List TrO) hS tl_93 (by decide) (by decide) (by kernel_rfl) (by kernel_rfl) rfl (by intro x hx; rfl) rfl) ?_
       rintro _ h_13 ⟨b_3, rfl, hS, hk⟩
       replace hK := hK.trans hk
       replace hL_a_Sources := hL_a_Sources.kp hk
       replace hL_1 := hL_1.kp hk
       refine HA.one (k := 1) ⟨⟨(hS.own 2 rfl), (hS.box 5 rfl)⟩, (at_now (hS.box 1 rfl) (Go.Wk.at_nil _ _))⟩ (by kernel_rfl) ?_
       refine HS.eff rfl (want_none) rfl (st_litEmpty (α := TrO) erO hS tl_93) ?_
       rintro _ h_14 ⟨b_4, rfl, hS, hk⟩
       replace hK := hK.trans hk
       replace hL_a_Sources := hL_a_Sources.kp hk
       replace hL_1 := hL_1.kp hk
       refine HA.one (k := 8) ⟨⟨(hS.own 3 rfl), (hS.box 6 rfl)⟩, (at_now (hS.box 2 rfl) (Go.Wk.at_nil _ _))⟩ (by kernel_rfl) ?_
       refine HS.eff rfl (want_none) rfl (st_append te_93 hS (i := 0) rfl (cutIs (hS.own 3 rfl).slice 0 i_2 ho_4.1 ho_4.2.1 ho_4.2.2) rfl rfl rfl (by intro a _ u hu; simp [erO, encI, encN, encB, encT] at hu; rcases hu with rfl | rfl | rfl | rfl | rfl | rfl | rfl | rfl | rfl | rfl | rfl | rfl | rfl | rfl | rfl | rfl | rfl | rfl | rfl | rfl <;> rfl) ho_5 (by omega)) ?_
       rintro v_3 h_15 ⟨hS, hk⟩
       replace hK := hK.trans hk
       replace hL_a_Sources := hL_a_Sources.kp hk
       replace hL_1 := hL_1.kp hk
       refine HA.one (k := 13) ⟨⟨(hS.own 3 rfl), (hS.box 6 rfl)⟩, (at_now (hS.box 2 rfl) (Go.Wk.at_nil _ _))⟩ (by kernel_rfl) ?_
       refine HS.eff rfl (want_none) rfl (st_append te_93 hS (i := 0) rfl (hS.own 1 rfl).slice rfl rfl rfl (by intro a _ u hu; simp [erO, encI, encN, encB, encT] at hu; rcases hu with rfl | rfl | rfl | rfl | rfl | rfl | rfl | rfl | rfl | rfl | rfl | rfl | rfl | rfl | rfl | rfl | rfl | rfl | rfl | rfl <;> rfl) ho_6 (by omega)) ?_
       rintro v_4 h_16 ⟨hS, hk⟩
       replace hK := hK.trans hk
       replace hL_a_Sources := hL_a_Sources.kp hk
       replace hL_1 := hL_1.kp hk
       refine HA.one (k := 20) ⟨⟨(hS.own 3 rfl), (hS.box 6 rfl)⟩, (at_now (hS.box 2 rfl) (Go.Wk.at_nil _ _))⟩ (by kernel_rfl) ?_
       refine HS.eff rfl (want_none) rfl (st_append te_93 hS (i := 0) rfl (cutIs (hS.own 3 rfl).slice i_2 (q_L_2.length : Int) ho_7.1 ho_7.2.1 ho_7.2.2) rfl rfl rfl (by intro a _ u hu; simp [erO, encI, encN, encB, encT] at hu; rcases hu with rfl | rfl | rfl | rfl | rfl | rfl | rfl | rfl | rfl | rfl | rfl | rfl | rfl | rfl | rfl | rfl | rfl | rfl | rfl | rfl <;> rfl) ho_8 (by omega)) ?_
       rintro v_5 h_17 ⟨hS, hk⟩
       replace hK := hK.trans hk
       replace hL_a_Sources := hL_a_Sources.kp hk
       replace hL_1 := hL_1.kp hk
       refine HA.val (k := 21) (v := .pointer (some ⟨bq, 0, none⟩)) rfl rfl (by kernel_rfl) (by kernel_rfl) (want_none) rfl (fun _ ⟨c227, c230⟩ => q_nilCheck rfl) ?_
       refine HA.val (k := 22) (v := .pointer (some ⟨bq, 4, none⟩)) rfl rfl (by kernel_rfl) (by kernel_rfl) (want_none) rfl (fun _ ⟨c227, c230⟩ => q_fieldAddr fa_95_4 rfl rfl) ?_
       refine HA.one (k := 23) ⟨⟨(hS.own 3 rfl), (hS.box 6 rfl)⟩, (at_now (hS.box 2 rfl) (Go.Wk.at_nil _ _))⟩ (by kernel_rfl) ?_
       refine HS.sto rfl (want_none) rfl (st_store (c' := #[.int .i64 q_Now_2, .bool q_On_2, .int .i64 q_At_2, .int .i64 q_First_2, v_5]) hS (i := 2) rfl to_93 rfl rfl (shp (hS.own 0 rfl).slice).cells (shp (hS.own 0 rfl).slice).one (Nat.le_of_ble_eq_true rfl) rfl) ?_
       rintro h_18 ⟨hS, hk⟩
       replace hK := hK.trans hk
       replace hL_a_Sources := hL_a_Sources.kp hk
       replace hL_1 := hL_1.kp hk
       refine HA.nil ⟨⟨(hS.own 3 rfl), (hS.box 6 rfl)⟩, (at_done (by kernel_rfl) (Go.Wk.at_nil _ _))⟩ (by kernel_rfl) (thenQ_normal (?_))
       replace hS : St F_11 (Ow.box bq 95 #[.int .i64 q_Now_2, .bool q_On_2, .int .i64 q_At_2, .int .i64 q_First_2, v_5] :: Ow.own 184 20 erO v_5 (((([] : List TrO) ++ (cut q_L_2 0 i_2)) ++ ([(a_Group, 0, 0, ((none, 0, 0), []))] : List TrO)) ++ (cut q_L_2 i_2 (q_L_2.length : Int))) :: Ow.pool 190 18 erL ps_3 :: Ow.box b_1 56 (e_api_Tune t).toArray :: Ow.box b_2 97 (c_api_Asked a_Group (.bool a_All) va_Sources).toArray :: fr) h_18 := hS.perm2 [2, 0, 4, 5, 6] 7 rfl rfl
       exact ⟨F_11, ((([] : List TrO) ++ (cut q_L_2 0 i_2)) ++ ([(a_Group, 0, 0, ((none, 0, 0), []))] : List TrO)) ++ (cut q_L_2 i_2 (q_L_2.length : Int)), i_2, v_5, rfl, rfl, rfl, rfl, rfl, rfl, hK, hS, hL_a_Sources, hL_1, hM⟩
    ·
     replace hM := hM.2 (of_decide_eq_false c_7)
     refine HW.skip (thenQ_normal (?_))
     exact ⟨F_8, q_L_2, r_5, v_2, rfl, rfl, rfl, rfl, rfl, rfl, hK, hS, hL_a_Sources, hL_1, hM⟩
   ·
    rintro f_5 h_19 ⟨F_12, q_4_2, i_1, vq_4_2, e0, e6, e7, e8, e9, e10, hK, hS, hL_a_Sources, hL_1, hM⟩
    unfold ref22_Q_Want_j3 at hM
    refine HW.fr [(0, .pointer (some ⟨bq, 0, none⟩)), (6, .pointer (some ⟨b_1, 0, none⟩)), (7, .pointer (some ⟨b_2, 0, none⟩)), (8, .bool false), (9, vr_1), (10, .int .i64 i_1)] ⟨e0, e6, e7, e8, e9, e10, trivial⟩ ?_
    refine HW.seq ?_
    refine HW.regionA 12 mixed (fun h => (Blk h bq (.cells #[.int .i64 q_Now_2, .bool q_On_2, .int .i64 q_At_2, .int .i64 q_First_2, vq_4_2] 95 (0, 0)))) [(11, fun h => (OwnIs h 0 184 20 erO vq_4_2 q_4_2))] (by kernel_rfl) ?_
    refine HA.val (k := 0) (v := .pointer (some ⟨bq, 0, none⟩)) rfl rfl (by kernel_rfl) (by kernel_rfl) (want_none) rfl (fun _ c221 => q_move rfl) ?_
    refine HA.val (k := 1) (v := .pointer (some ⟨bq, 0, none⟩)) rfl rfl (by kernel_rfl) (by kernel_rfl) (want_none) rfl (fun _ c221 => q_nilCheck rfl) ?_
    refine HA.val (k := 2) (v := .pointer (some ⟨bq, 4, none⟩)) rfl rfl (by kernel_rfl) (by kernel_rfl) (want_none) rfl (fun _ c221 => q_fieldAddr fa_95_4 rfl rfl) ?_
    refine HA.val (k := 3) (v := vq_4_2) rfl rfl (by kernel_rfl) (by kernel_rfl) (want_none) rfl (fun _ c221 => q_load to_93 rfl (Blk.cell c221 rfl)) ?_
    refine HA.val (k := 4) (v := .int .i64 i_1) rfl rfl (by kernel_rfl) (by kernel_rfl) (want_none) rfl (fun _ c221 => q_move rfl) ?_
    refine HA.val (k := 5) (v := .pointer (some ⟨bq, 0, none⟩)) rfl rfl (by kernel_rfl) (by kernel_rfl) (want_none) rfl (fun _ c221 => q_move rfl) ?_
    refine HA.val (k := 6) (v := .pointer (some ⟨bq, 0, none⟩)) rfl rfl (by kernel_rfl) (by kernel_rfl) (want_none) rfl (fun _ c221 => q_nilCheck rfl) ?_
    refine HA.val (k := 7) (v := .pointer (some ⟨bq, 0, none⟩)) rfl rfl (by kernel_rfl) (by kernel_rfl) (want_none) rfl (fun _ c221 => q_fieldAddr fa_95_0 rfl rfl) ?_
    refine HA.val (k := 8) (v := .int .i64 q_Now_2) rfl rfl (by kernel_rfl) (by kernel_rfl) (want_none) rfl (fun _ c221 => q_load to_3 rfl (Blk.cell c221 rfl)) ?_
    obtain ⟨ho_9, hM⟩ := hM
    refine Go.Wk.HA.valN (k := 9) (v := elemPtr 20 vq_4_2 (i_1).toNat) 0 11 (fun h => (OwnIs h 0 184 20 erO vq_4_2 q_4_2)) rfl rfl (by kernel_rfl) (by kernel_rfl) (want_none) rfl rfl (by kernel_rfl) (fun _ c221 c222 => q_idx ts_93 c222.slice rfl rfl ho_9) ?_
    refine Go.Wk.HA.valN (k := 10) (v := fieldPtr 20 vq_4_2 (i_1).toNat 17) 0 11 (fun h => (OwnIs h 0 184 20 erO vq_4_2 q_4_2)) rfl rfl (by kernel_rfl) (by kernel_rfl) (want_none) rfl rfl (by kernel_rfl) (fun _ c221 c222 => q_fldElem fa_184_1 c222.slice rfl ho_9) ?_
    refine HA.one (k := 11) ⟨(hS.box 0 rfl), (at_now (hS.own 1 rfl) (Go.Wk.at_nil _ _))⟩ (by kernel_rfl) ?_
    refine HS.sto rfl (want_none) rfl (st_storeField (a := (((gi q_4_2 i_1).1), q_Now_2, (gi q_4_2 i_1).2.2.1, ((gi q_4_2 i_1).2.2.2))) (n := (i_1).toNat) (j := 17) hS (i := 1) rfl to_3 rfl (by omega) (by decide) rfl (by rw [← gi_lt ho_9.1 ho_9.2]; rfl) rfl rfl) ?_
    rintro h_20 ⟨hS, hk⟩
    replace hK := hK.trans hk
    replace hL_a_Sources := hL_a_Sources.kp hk
    replace hL_1 := hL_1.kp hk
    refine HA.nil ⟨(hS.box 0 rfl), (at_done (by kernel_rfl) (Go.Wk.at_nil _ _))⟩ (by kernel_rfl) (thenQ_normal (?_))
    refine HW.seq_mid (fun f h => ∃ (F' : Fz) (q_4_3 : List TrO), f 0 = .pointer (some ⟨bq, 0, none⟩) ∧ f 6 = .pointer (some ⟨b_1, 0, none⟩) ∧ f 8 = .bool false ∧ f 9 = vr_1 ∧ f 10 = .int .i64 i_1 ∧ Kp F h0 F' h ∧ St F' (Ow.box bq 95 #[.int .i64 q_Now_2, .bool q_On_2, .int .i64 q_At_2, .int .i64 q_First_2, vq_4_2] :: Ow.own 184 20 erO vq_4_2 q_4_3 :: Ow.pool 190 18 erL ps_3 :: Ow.box b_1 56 (e_api_Tune t).toArray :: fr) h ∧ (SliceF F' h 17 eA va_Sources a_Sources) ∧ (SliceF F' h 17 eA vr_1 r_2) ∧ ref22_Q_Want_j5 t Q q_Now_2 q_On_2 q_At_2 q_First_2 r_2 ps_3 i_1 q_4_3) ?_ ?_
    ·
     refine HW.seq ?_
     refine HW.region ?_
     refine oV (.pointer (some ⟨b_2, 17, none⟩)) (q_fieldAddr fa_97_1 rfl rfl) rfl ?_
     refine oV (.bool a_All) (q_load to_4 rfl (Blk.cell (hS.box 4 rfl) rfl)) rfl ?_
     refine HO.nil (thenQ_normal (?_))
     refine HW.cond a_All rfl (fun c_10 => ?_) (fun c_10 => ?_)
     ·
      replace hM := hM.1 c_10
      refine HW.regionA 10 mixed (fun h => (Blk h bq (.cells #[.int .i64 q_Now_2, .bool q_On_2, .int .i64 q_At_2, .int .i64 q_First_2, vq_4_2] 95 (0, 0))) ∧ (Blk h b_1 (.cells (e_api_Tune t).toArray 56 (0, 0)))) [(9, fun h => (OwnIs h 0 184 20 erO vq_4_2 (q_4_2.set (i_1).toNat (((gi q_4_2 i_1).1), q_Now_2, (gi q_4_2 i_1).2.2.1, ((gi q_4_2 i_1).2.2.2)))))] (by kernel_rfl) ?_
      refine HA.val (k := 0) (v := .pointer (some ⟨bq, 0, none⟩)) rfl rfl (by kernel_rfl) (by kernel_rfl) (want_none) rfl (fun _ ⟨c221, c224⟩ => q_move rfl) ?_
      refine HA.val (k := 1) (v := .pointer (some ⟨bq, 0, none⟩)) rfl rfl (by kernel_rfl) (by kernel_rfl) (want_none) rfl (fun _ ⟨c221, c224⟩ => q_nilCheck rfl) ?_
      refine HA.val (k := 2) (v := .pointer (some ⟨bq, 4, none⟩)) rfl rfl (by kernel_rfl) (by kernel_rfl) (want_none) rfl (fun _ ⟨c221, c224⟩ => q_fieldAddr fa_95_4 rfl rfl) ?_
      refine HA.val (k := 3) (v := vq_4_2) rfl rfl (by kernel_rfl) (by kernel_rfl) (want_none) rfl (fun _ ⟨c221, c224⟩ => q_load to_93 rfl (Blk.cell c221 rfl)) ?_
      refine HA.val (k := 4) (v := .int .i64 i_1) rfl rfl (by kernel_rfl) (by kernel_rfl) (want_none) rfl (fun _ ⟨c221, c224⟩ => q_move rfl) ?_
      refine HA.val (k := 5) (v := .pointer (some ⟨b_1, 4, none⟩)) rfl rfl (by kernel_rfl) (by kernel_rfl) (want_none) rfl (fun _ ⟨c221, c224⟩ => q_fieldAddr fa_56_4 rfl rfl) ?_
      refine HA.val (k := 6) (v := .int .i64 t.2.2.2.2) rfl rfl (by kernel_rfl) (by kernel_rfl) (want_none) rfl (fun _ ⟨c221, c224⟩ => q_load to_3 rfl (Blk.cell c224 rfl)) ?_
      obtain ⟨ho_10, hM⟩ := hM
      refine Go.Wk.HA.valN (k := 7) (v := elemPtr 20 vq_4_2 (i_1).toNat) 0 9 (fun h => (OwnIs h 0 184 20 erO vq_4_2 (q_4_2.set (i_1).toNat (((gi q_4_2 i_1).1), q_Now_2, (gi q_4_2 i_1).2.2.1, ((gi q_4_2 i_1).2.2.2))))) rfl rfl (by kernel_rfl) (by kernel_rfl) (want_none) rfl rfl (by kernel_rfl) (fun _ ⟨c221, c224⟩ c222 => q_idx ts_93 c222.slice rfl rfl ho_10) ?_
      refine Go.Wk.HA.valN (k := 8) (v := fieldPtr 20 vq_4_2 (i_1).toNat 18) 0 9 (fun h => (OwnIs h 0 184 20 erO vq_4_2 (q_4_2.set (i_1).toNat (((gi q_4_2 i_1).1), q_Now_2, (gi q_4_2 i_1).2.2.1, ((gi q_4_2 i_1).2.2.2))))) rfl rfl (by kernel_rfl) (by kernel_rfl) (want_none) rfl rfl (by kernel_rfl) (fun _ ⟨c221, c224⟩ c222 => q_fldElem fa_184_2 c222.slice rfl ho_10) ?_
      refine HA.one (k := 9) ⟨⟨(hS.box 0 rfl), (hS.box 3 rfl)⟩, (at_now (hS.own 1 rfl) (Go.Wk.at_nil _ _))⟩ (by kernel_rfl) ?_
      refine HS.sto rfl (want_none) rfl (st_storeField (a := (((gi (q_4_2.set (i_1).toNat (((gi q_4_2 i_1).1), q_Now_2, (gi q_4_2 i_1).2.2.1, ((gi q_4_2 i_1).2.2.2))) i_1).1), (gi (q_4_2.set (i_1).toNat (((gi q_4_2 i_1).1), q_Now_2, (gi q_4_2 i_1).2.2.1, ((gi q_4_2 i_1).2.2.2))) i_1).2.1, t.2.2.2.2, ((gi (q_4_2.set (i_1).toNat (((gi q_4_2 i_1).1), q_Now_2, (gi q_4_2 i_1).2.2.1, ((gi q_4_2 i_1).2.2.2))) i_1).2.2.2))) (n := (i_1).toNat) (j := 18) hS (i := 1) rfl to_3 rfl (by omega) (by decide) rfl (by rw [← gi_lt ho_10.1 ho_10.2]; rfl) rfl rfl) ?_
      rintro h_21 ⟨hS, hk⟩
      replace hK := hK.trans hk
      replace hL_a_Sources := hL_a_Sources.kp hk
      replace hL_1 := hL_1.kp hk
      refine HA.nil ⟨⟨(hS.box 0 rfl), (hS.box 3 rfl)⟩, (at_done (by kernel_rfl) (Go.Wk.at_nil _ _))⟩ (by kernel_rfl) (thenQ_normal (?_))
      replace hS : St F_12 (Ow.box bq 95 #[.int .i64 q_Now_2, .bool q_On_2, .int .i64 q_At_2, .int .i64 q_First_2, vq_4_2] :: Ow.own 184 20 erO vq_4_2 ((q_4_2.set (i_1).toNat (((gi q_4_2 i_1).1), q_Now_2, (gi q_4_2 i_1).2.2.1, ((gi q_4_2 i_1).2.2.2))).set (i_1).toNat (((gi (q_4_2.set (i_1).toNat (((gi q_4_2 i_1).1), q_Now_2, (gi q_4_2 i_1).2.2.1, ((gi q_4_2 i_1).2.2.2))) i_1).1), (gi (q_4_2.set (i_1).toNat (((gi q_4_2 i_1).1), q_Now_2, (gi q_4_2 i_1).2.2.1, ((gi q_4_2 i_1).2.2.2))) i_1).2.1, t.2.2.2.2, ((gi (q_4_2.set (i_1).toNat (((gi q_4_2 i_1).1), q_Now_2, (gi q_4_2 i_1).2.2.1, ((gi q_4_2 i_1).2.2.2))) i_1).2.2.2))) :: Ow.pool 190 18 erL ps_3 :: Ow.box b_1 56 (e_api_Tune t).toArray :: fr) h_21 := hS.perm2 [0, 1, 2, 3] 5 rfl rfl
      exact ⟨F_12, (q_4_2.set (i_1).toNat (((gi q_4_2 i_1).1), q_Now_2, (gi q_4_2 i_1).2.2.1, ((gi q_4_2 i_1).2.2.2))).set (i_1).toNat (((gi (q_4_2.set (i_1).toNat (((gi q_4_2 i_1).1), q_Now_2, (gi q_4_2 i_1).2.2.1, ((gi q_4_2 i_1).2.2.2))) i_1).1), (gi (q_4_2.set (i_1).toNat (((gi q_4_2 i_1).1), q_Now_2, (gi q_4_2 i_1).2.2.1, ((gi q_4_2 i_1).2.2.2))) i_1).2.1, t.2.2.2.2, ((gi (q_4_2.set (i_1).toNat (((gi q_4_2 i_1).1), q_Now_2, (gi q_4_2 i_1).2.2.1, ((gi q_4_2 i_1).2.2.2))) i_1).2.2.2)), rfl, rfl, rfl, rfl, rfl, hK, hS, hL_a_Sources, hL_1, hM⟩
     ·
      replace hM := hM.2 c_10
      refine HW.skip (thenQ_normal (?_))
      replace hS : St F_12 (Ow.box bq 95 #[.int .i64 q_Now_2, .bool q_On_2, .int .i64 q_At_2, .int .i64 q_First_2, vq_4_2] :: Ow.own 184 20 erO vq_4_2 (q_4_2.set (i_1).toNat (((gi q_4_2 i_1).1), q_Now_2, (gi q_4_2 i_1).2.2.1, ((gi q_4_2 i_1).2.2.2))) :: Ow.pool 190 18 erL ps_3 :: Ow.box b_1 56 (e_api_Tune t).toArray :: fr) h_20 := hS.perm2 [0, 1, 2, 3] 5 rfl rfl
      exact ⟨F_12, q_4_2.set (i_1).toNat (((gi q_4_2 i_1).1), q_Now_2, (gi q_4_2 i_1).2.2.1, ((gi q_4_2 i_1).2.2.2)), rfl, rfl, rfl, rfl, rfl, hK, hS, hL_a_Sources, hL_1, hM⟩
    ·
     rintro f_6 h_22 ⟨F_13, q_4_3, e0, e6, e8, e9, e10, hK, hS, hL_a_Sources, hL_1, hM⟩
     unfold ref22_Q_Want_j5 at hM
     refine HW.fr [(0, .pointer (some ⟨bq, 0, none⟩)), (6, .pointer (some ⟨b_1, 0, none⟩)), (8, .bool false), (9, vr_1), (10, .int .i64 i_1)] ⟨e0, e6, e8, e9, e10, trivial⟩ ?_
     refine HW.seq ?_
     refine HW.seq ?_
     refine HW.region ?_
     refine oA (.int .i64 0) rfl rfl ?_
     refine HO.nil (thenQ_normal (?_))
     refine HW.block ?_
     obtain ⟨I_2, m_2, hI_2, hR_2⟩ := hM
     refine HW.loop (S := List TrO × (List (SV × List TrL)) × Int) (fun s f h => match s with | (q_4_4, ps_4, k_1) => ∃ (F' : Fz), f 0 = .pointer (some ⟨bq, 0, none⟩) ∧ f 6 = .pointer (some ⟨b_1, 0, none⟩) ∧ f 8 = .bool false ∧ f 9 = vr_1 ∧ f 10 = .int .i64 i_1 ∧ f 11 = .int .i64 k_1 ∧ Kp F h0 F' h ∧ St F' (Ow.box bq 95 #[.int .i64 q_Now_2, .bool q_On_2, .int .i64 q_At_2, .int .i64 q_First_2, vq_4_2] :: Ow.own 184 20 erO vq_4_2 q_4_4 :: Ow.pool 190 18 erL ps_4 :: Ow.box b_1 56 (e_api_Tune t).toArray :: fr) h ∧ (SliceF F' h 17 eA va_Sources a_Sources) ∧ (SliceF F' h 17 eA vr_1 r_2) ∧ I_2 (q_4_4, ps_4, k_1)) m_2 (q_4_3, ps_3, 0) ⟨F_13, rfl, rfl, rfl, rfl, rfl, rfl, hK, hS, hL_a_Sources, hL_1, hI_2⟩ ?_
     rintro ⟨q_4_4, ps_4, k_1⟩ f_7 h_23 ⟨F_14, e0, e6, e8, e9, e10, e11, hK, hS, hL_a_Sources, hL_1, hI0⟩
     obtain ⟨K_2, hKe_2⟩ : ∃ K : (List TrO) → (List (SV × List TrL)) → Int → Prop, K = fun q_4_4' ps_4' k_1' => I_2 (q_4_4', ps_4', k_1') ∧ m_2 (q_4_4', ps_4', k_1') < m_2 (q_4_4, ps_4, k_1) := ⟨_, rfl⟩
     have hM : ref22_Q_Want_l2 t Q q_Now_2 q_On_2 q_At_2 q_First_2 r_2 i_1 K_2 q_4_4 ps_4 k_1 := by rw [hKe_2]; exact hR_2 (q_4_4, ps_4, k_1) hI0
     unfold ref22_Q_Want_l2 at hM
     refine HW.fr [(0, .pointer (some ⟨bq, 0, none⟩)), (6, .pointer (some ⟨b_1, 0, none⟩)), (8, .bool false), (9, vr_1), (10, .int .i64 i_1), (11, .int .i64 k_1)] ⟨e0, e6, e8, e9, e10, e11, trivial⟩ ?_
     refine HW.seq ?_
     refine HW.seq ?_
     refine HW.region ?_
     refine oM (.int .i64 k_1) rfl rfl ?_
     refine oM (vr_1) rfl rfl ?_
     refine oV (.int .i64 (r_2.length : Int)) (q_len ts_29 (shp hL_1.is) rfl rfl) rfl ?_
     refine oV (.bool (decide (k_1 < (r_2.length : Int)))) (q_lss rfl rfl) rfl ?_
     refine HO.nil (thenQ_normal (?_))
     refine HW.cond (decide (k_1 < (r_2.length : Int))) rfl (fun c_11 => ?_) (fun c_11 => ?_)
     ·
      replace hM := hM.1 (of_decide_eq_true c_11)
      refine HW.skip (thenQ_normal (?_))
      refine HW.seq ?_
      refine HW.block ?_
      refine HW.regionA 23 mixed (fun h => (SliceIs h 17 eA vr_1 r_2) ∧ (Blk h bq (.cells #[.int .i64 q_Now_2, .bool q_On_2, .int .i64 q_At_2, .int .i64 q_First_2, vq_4_2] 95 (0, 0))) ∧ (Blk h b_1 (.cells (e_api_Tune t).toArray 56 (0, 0)))) [(22, fun h => (OwnIs h 0 184 20 erO vq_4_2 q_4_4))] (by kernel_rfl) ?_
      refine HA.val (k := 0) (v := .pointer (some ⟨bq, 0, none⟩)) rfl rfl (by kernel_rfl) (by kernel_rfl) (want_none) rfl (fun _ ⟨hL_1, c458, c461⟩ => q_move rfl) ?_
      refine HA.val (k := 1) (v := .pointer (some ⟨bq, 0, none⟩)) rfl rfl (by kernel_rfl) (by kernel_rfl) (want_none) rfl (fun _ ⟨hL_1, c458, c461⟩ => q_nilCheck rfl) ?_
      refine HA.val (k := 2) (v := .pointer (some ⟨bq, 4, none⟩)) rfl rfl (by kernel_rfl) (by kernel_rfl) (want_none) rfl (fun _ ⟨hL_1, c458, c461⟩ => q_fieldAddr fa_95_4 rfl rfl) ?_
      refine HA.val (k := 3) (v := vq_4_2) rfl rfl (by kernel_rfl) (by kernel_rfl) (want_none) rfl (fun _ ⟨hL_1, c458, c461⟩ => q_load to_93 rfl (Blk.cell c458 rfl)) ?_
      refine HA.val (k := 4) (v := .int .i64 i_1) rfl rfl (by kernel_rfl) (by kernel_rfl) (want_none) rfl (fun _ ⟨hL_1, c458, c461⟩ => q_move rfl) ?_
      refine HA.val (k := 5) (v := .pointer (some ⟨bq, 0, none⟩)) rfl rfl (by kernel_rfl) (by kernel_rfl) (want_none) rfl (fun _ ⟨hL_1, c458, c461⟩ => q_move rfl) ?_
      refine HA.val (k := 6) (v := .pointer (some ⟨bq, 0, none⟩)) rfl rfl (by kernel_rfl) (by kernel_rfl) (want_none) rfl (fun _ ⟨hL_1, c458, c461⟩ => q_nilCheck rfl) ?_
      refine HA.val (k := 7) (v := .pointer (some ⟨bq, 4, none⟩)) rfl rfl (by kernel_rfl) (by kernel_rfl) (want_none) rfl (fun _ ⟨hL_1, c458, c461⟩ => q_fieldAddr fa_95_4 rfl rfl) ?_
      refine HA.val (k := 8) (v := vq_4_2) rfl rfl (by kernel_rfl) (by kernel_rfl) (want_none) rfl (fun _ ⟨hL_1, c458, c461⟩ => q_load to_93 rfl (Blk.cell c458 rfl)) ?_
      refine HA.val (k := 9) (v := .int .i64 i_1) rfl rfl (by kernel_rfl) (by kernel_rfl) (want_none) rfl (fun _ ⟨hL_1, c458, c461⟩ => q_move rfl) ?_
      obtain ⟨ho_11, hM⟩ := hM
      refine Go.Wk.HA.valN (k := 10) (v := elemPtr 20 vq_4_2 (i_1).toNat) 0 22 (fun h => (OwnIs h 0 184 20 erO vq_4_2 q_4_4)) rfl rfl (by kernel_rfl) (by kernel_rfl) (want_none) rfl rfl (by kernel_rfl) (fun _ ⟨hL_1, c458, c461⟩ c459 => q_idx ts_93 c459.slice rfl rfl ho_11) ?_
      refine Go.Wk.HA.valN (k := 11) (v := fieldPtr 20 vq_4_2 (i_1).toNat 19) 0 22 (fun h => (OwnIs h 0 184 20 erO vq_4_2 q_4_4)) rfl rfl (by kernel_rfl) (by kernel_rfl) (want_none) rfl rfl (by kernel_rfl) (fun _ ⟨hL_1, c458, c461⟩ c459 => q_fldElem fa_184_3 c459.slice rfl ho_11) ?_
      refine Go.Wk.HA.valN (k := 12) (v := svV ((gi q_4_4 i_1).2.2.2).1) 0 22 (fun h => (OwnIs h 0 184 20 erO vq_4_2 q_4_4)) rfl rfl (by kernel_rfl) (by kernel_rfl) (want_none) rfl rfl (by kernel_rfl) (fun _ ⟨hL_1, c458, c461⟩ c459 => q_ldField to_182 c459.slice rfl ho_11 (by decide) rfl) ?_
      refine HA.val (k := 13) (v := vr_1) rfl rfl (by kernel_rfl) (by kernel_rfl) (want_none) rfl (fun _ ⟨hL_1, c458, c461⟩ => q_move rfl) ?_
      refine HA.val (k := 14) (v := .int .i64 k_1) rfl rfl (by kernel_rfl) (by kernel_rfl) (want_none) rfl (fun _ ⟨hL_1, c458, c461⟩ => q_move rfl) ?_
      obtain ⟨ho_12, hM⟩ := hM
      refine HA.val (k := 15) (v := elemPtr 17 vr_1 (k_1).toNat) rfl rfl (by kernel_rfl) (by kernel_rfl) (want_none) rfl (fun _ ⟨hL_1, c458, c461⟩ => q_idx ts_29 hL_1 rfl rfl ho_12) ?_
      refine HA.val (k := 16) (v := .agg (eA (gi r_2 k_1)).toArray) rfl rfl (by kernel_rfl) (by kernel_rfl) (want_none) rfl (fun _ ⟨hL_1, c458, c461⟩ => q_ldElemAgg (cs := (eA (gi r_2 k_1))) ta_28 hL_1 rfl ho_12 rfl) ?_
      refine HA.val (k := 17) (v := .pointer (some ⟨b_1, 4, none⟩)) rfl rfl (by kernel_rfl) (by kernel_rfl) (want_none) rfl (fun _ ⟨hL_1, c458, c461⟩ => q_fieldAddr fa_56_4 rfl rfl) ?_
      refine HA.val (k := 18) (v := .int .i64 t.2.2.2.2) rfl rfl (by kernel_rfl) (by kernel_rfl) (want_none) rfl (fun _ ⟨hL_1, c458, c461⟩ => q_load to_3 rfl (Blk.cell c461 rfl)) ?_
      refine HA.one (k := 19) ⟨⟨hL_1.is, (hS.box 0 rfl), (hS.box 3 rfl)⟩, (at_now (hS.own 1 rfl) (Go.Wk.at_nil _ _))⟩ (by kernel_rfl) ?_
      obtain ⟨ho_13, hM⟩ := hM
      replace hS : St F_14 (Ow.own 190 18 erL (svV ((gi q_4_4 i_1).2.2.2).1) (((gi q_4_4 i_1).2.2.2).2) :: Ow.box bq 95 #[.int .i64 q_Now_2, .bool q_On_2, .int .i64 q_At_2, .int .i64 q_First_2, vq_4_2] :: Ow.own 184 20 erO vq_4_2 q_4_4 :: Ow.pool 190 18 erL (pErase ps_4 (((gi q_4_4 i_1).2.2.2).1, ((gi q_4_4 i_1).2.2.2).2)) :: Ow.box b_1 56 (e_api_Tune t).toArray :: fr) h_23 := hS.poolTake 2 rfl ho_13
      refine HS.call rfl (want_none) rfl (ec en_120 rfl rfl) (ref22_set_walk (fr := (Ow.box bq 95 #[.int .i64 q_Now_2, .bool q_On_2, .int .i64 q_At_2, .int .i64 q_First_2, vq_4_2] :: Ow.own 184 20 erO vq_4_2 q_4_4 :: Ow.pool 190 18 erL (pErase ps_4 (((gi q_4_4 i_1).2.2.2).1, ((gi q_4_4 i_1).2.2.2).2)) :: Ow.box b_1 56 (e_api_Tune t).toArray :: fr)) (((gi q_4_4 i_1).2.2.2).2) (gi r_2 k_1) t.2.2.2.2 (svV ((gi q_4_4 i_1).2.2.2).1) hS hM) ?_
      rintro vr_2 h_24 ⟨F_15, r_7, _, rfl, hk, hS, hM⟩
      replace hK := hK.trans hk
      replace hL_a_Sources := hL_a_Sources.kp hk
      replace hL_1 := hL_1.kp hk
      refine Go.Wk.HA.valN (k := 20) (v := elemPtr 20 vq_4_2 (i_1).toNat) 0 22 (fun h => (OwnIs h 0 184 20 erO vq_4_2 q_4_4)) rfl rfl (by kernel_rfl) (by kernel_rfl) (want_none) rfl rfl (by kernel_rfl) (fun _ ⟨hL_1, c458, c461⟩ c459 => q_idx ts_93 c459.slice rfl rfl ho_11) ?_
      refine Go.Wk.HA.valN (k := 21) (v := fieldPtr 20 vq_4_2 (i_1).toNat 19) 0 22 (fun h => (OwnIs h 0 184 20 erO vq_4_2 q_4_4)) rfl rfl (by kernel_rfl) (by kernel_rfl) (want_none) rfl rfl (by kernel_rfl) (fun _ ⟨hL_1, c458, c461⟩ c459 => q_fldElem fa_184_3 c459.slice rfl ho_11) ?_
      refine HA.one (k := 22) ⟨⟨hL_1.is, (hS.box 1 rfl), (hS.box 4 rfl)⟩, (at_now (hS.own 2 rfl) (Go.Wk.at_nil _ _))⟩ (by kernel_rfl) ?_
      obtain ⟨sv_1, hv_1⟩ := own_sv (hS.own 0 rfl)
      subst hv_1
      replace hM := hM sv_1
      replace hS := St.poolPut (s := sv_1) (l := r_7) hS 2 rfl
      refine HS.sto rfl (want_none) rfl (st_storeField (a := (((gi q_4_4 i_1).1), (gi q_4_4 i_1).2.1, (gi q_4_4 i_1).2.2.1, (sv_1, r_7))) (n := (i_1).toNat) (j := 19) hS (i := 1) rfl to_182 rfl (by omega) (by decide) rfl (by rw [← gi_lt ho_11.1 ho_11.2]; rfl) (svShp _).cells (svShp _).one) ?_
      rintro h_25 ⟨hS, hk⟩
      replace hK := hK.trans hk
      replace hL_a_Sources := hL_a_Sources.kp hk
      replace hL_1 := hL_1.kp hk
      refine HA.nil ⟨⟨hL_1.is, (hS.box 0 rfl), (hS.box 3 rfl)⟩, (at_done (by kernel_rfl) (Go.Wk.at_nil _ _))⟩ (by kernel_rfl) (blockQ_normal (thenQ_normal (?_)))
      refine HW.region ?_
      refine oM (.int .i64 k_1) rfl rfl ?_
      obtain ⟨ho_14, hM⟩ := hM
      refine oV (.int .i64 (k_1 + 1)) (q_addN _ rfl rfl rfl ho_14.1 ho_14.2) rfl ?_
      refine oA (.int .i64 (k_1 + 1)) rfl rfl ?_
      refine HO.nil (thenQ_normal (?_))
      rw [hKe_2] at hM
      exact ⟨(q_4_4.set (i_1).toNat (((gi q_4_4 i_1).1), (gi q_4_4 i_1).2.1, (gi q_4_4 i_1).2.2.1, (sv_1, r_7)), (sv_1, r_7) :: (pErase ps_4 (((gi q_4_4 i_1).2.2.2).1, ((gi q_4_4 i_1).2.2.2).2)), k_1 + 1), ⟨F_15, rfl, rfl, rfl, rfl, rfl, rfl, hK, hS, hL_a_Sources, hL_1, hM.1⟩, hM.2⟩
     ·
      replace hM := hM.2 (of_decide_eq_false c_11)
      refine HW.exit (thenQ_exit (thenQ_exit (blockQ_exit (thenQ_normal (?_)))))
      refine HW.seq ?_
      refine HW.region ?_
      refine oA (.bool true) rfl rfl ?_
      refine HO.nil (thenQ_normal (?_))
      refine HW.ret (?_)
      refine ⟨.inr rfl, .bool true, res1 rfl (rt rfl), ?_⟩
      replace hS : St F_14 (Ow.pool 190 18 erL ps_4 :: Ow.box bq 95 #[.int .i64 q_Now_2, .bool q_On_2, .int .i64 q_At_2, .int .i64 q_First_2, vq_4_2] :: Ow.own 184 20 erO vq_4_2 q_4_4 :: fr) h_23 := hS.perm2 [2, 0, 1] 4 rfl rfl
      exact ⟨F_14, true, ps_4, q_Now_2, q_On_2, q_At_2, q_First_2, q_4_4, vq_4_2, rfl, hK, hS, hL_a_Sources, hM⟩
def query_Queries_Cancel_W (q_now : Int) (q_at_at : List (Str × Int)) (q_first : Int) (q_open : List (TA × (Nat × Nat) × TqL)) (g : TA) (Q : Bool → Int → (List (Str × Int)) → Int → (List (TA × (Nat × Nat) × TqL)) → Prop) : Prop :=
 query_Queries_cancel_W q_now q_at_at q_first q_open g (fun r_2 q_now_2 qm_3 q_first_2 qm_4 => Q r_2 q_now_2 qm_3 q_first_2 qm_4)
theorem query_Queries_Cancel_walk {F : Fz} {fr : List Ow} {h0 : Heap} (q_now : Int) (q_at_at : List (Str × Int)) (q_first : Int) (q_open : List (TA × (Nat × Nat) × TqL)) (g : TA) (bq : Nat) (bq_at : Nat) (rq_at_at : Nat) (rq_open : Nat) (hS : St F (Ow.box bq 167 #[.int .i64 q_now, .pointer (some ⟨bq_at, 0, none⟩), .int .i64 q_first, .map (some rq_open)] :: Ow.box bq_at 222 #[.map (some rq_at_at)] :: Ow.map rq_at_at kT kI q_at_at :: Ow.pm rq_open (fun (x : TA) => .agg (eA x).toArray) pv_query_left th_query_left q_open none :: fr) h0)  {Q : Bool → Int → (List (Str × Int)) → Int → (List (TA × (Nat × Nat) × TqL)) → Prop} (hM : query_Queries_Cancel_W q_now q_at_at q_first q_open g Q) :
  HC Tryz.prog 49 #[.pointer (some ⟨bq, 0, none⟩), .agg (eA g).toArray] h0 fun u h' => ∃ (F' : Fz) (r_1 : Bool) (q_now_1 : Int) (qm_1 : List (Str × Int)) (q_first_1 : Int) (qm_2 : List (TA × (Nat × Nat) × TqL)), u = .bool r_1 ∧ Kp F h0 F' h' ∧ St F' (Ow.box bq 167 #[.int .i64 q_now_1, .pointer (some ⟨bq_at, 0, none⟩), .int .i64 q_first_1, .map (some rq_open)] :: Ow.box bq_at 222 #[.map (some rq_at_at)] :: Ow.map rq_at_at kT kI qm_1 :: Ow.pm rq_open (fun (x : TA) => .agg (eA x).toArray) pv_query_left th_query_left qm_2 none :: fr) h' ∧ Q r_1 q_now_1 qm_1 q_first_1 qm_2 := by
 unfold query_Queries_Cancel_W at hM
 have hK := Kp.refl F h0
 refine HC.of_HW (n := 12) Tryz.func49 rfl rfl (Nat.le_of_ble_eq_true rfl) ?_
 refine HW.seq ?_
 refine HW.region ?_
 refine HO.eff (want_none) rfl (st_box (c := (eA g).toArray) (k' := 17) hS rfl rfl) ?_
 rintro _ h_1 ⟨b_1, rfl, hS, hk⟩
 replace hK := hK.trans hk
 refine oA (.bool false) rfl rfl ?_
 refine HO.nil (thenQ_normal (?_))
 refine HW.seq ?_
 refine HW.region ?_
 refine oM (.pointer (some ⟨bq, 0, none⟩)) rfl rfl ?_
 refine oV (.bool true) (q_neqPnil Tryz.underlying90 rfl rfl rfl) rfl ?_
 refine oM (.bool true) rfl rfl ?_
 refine HO.val (v := .pointer (some ⟨bq, 0, none⟩)) (want_some rfl rfl) rfl (q_move rfl) ?_
 refine HO.val (v := .agg (eA g).toArray) (want_some rfl rfl) rfl (q_loadAgg (cs := (eA g)) ta_28 rfl rfl (Blk.cells (k := 17) (hS.box 0 rfl) rfl)) ?_
 replace hS : St F (Ow.box bq 167 #[.int .i64 q_now, .pointer (some ⟨bq_at, 0, none⟩), .int .i64 q_first, .map (some rq_open)] :: Ow.box bq_at 222 #[.map (some rq_at_at)] :: Ow.map rq_at_at kT kI q_at_at :: Ow.pm rq_open (fun (x : TA) => .agg (eA x).toArray) pv_query_left th_query_left q_open none :: Ow.box b_1 28 (eA g).toArray :: fr) h_1 := hS.perm2 [1, 2, 3, 4, 0] 5 rfl rfl
 refine HO.call (want_some rfl rfl) rfl (ec en_121 rfl rfl) (query_Queries_cancel_walk (fr := (Ow.box b_1 28 (eA g).toArray :: fr)) q_now q_at_at q_first q_open g bq bq_at rq_at_at rq_open hS hM) ?_
 rintro _ h_2 ⟨F_1, r_2, q_now_2, qm_3, q_first_2, qm_4, rfl, hk, hS, hM⟩
 replace hK := hK.trans hk
 refine oV (.bool r_2) (q_pick rfl rfl) rfl ?_
 refine oA (.bool r_2) rfl rfl ?_
 refine HO.nil (thenQ_normal (?_))
 refine HW.ret (?_)
 refine ⟨.inr rfl, .bool r_2, res1 rfl (rt rfl), ?_⟩
 replace hS : St F_1 (Ow.box bq 167 #[.int .i64 q_now_2, .pointer (some ⟨bq_at, 0, none⟩), .int .i64 q_first_2, .map (some rq_open)] :: Ow.box bq_at 222 #[.map (some rq_at_at)] :: Ow.map rq_at_at kT kI qm_3 :: Ow.pm rq_open (fun (x : TA) => .agg (eA x).toArray) pv_query_left th_query_left qm_4 none :: fr) h_2 := hS.perm2 [0, 1, 2, 3] 5 rfl rfl
 exact ⟨F_1, r_2, q_now_2, qm_3, q_first_2, qm_4, rfl, hK, hS, hM⟩
def ref22_Q_Cancel_W (q_Now : Int) (q_On : Bool) (q_At : Int) (q_First : Int) (q_L : List TrO) (g : TA) (ps : List (SV × List TrL)) (Q : Bool → (List (SV × List TrL)) → Int → Bool → Int → Int → (List TrO) → Prop) : Prop :=
 ref22_Q_find_W q_Now q_On q_At q_First q_L g ps (fun r_2 ps_2 => (r_2 < 0 → Q false ps_2 q_Now q_On q_At q_First q_L) ∧ (¬ (r_2 < 0) → ((0 : Int) ≤ r_2 ∧ r_2 ≤ (q_L.length : Int)) ∧ ((I64 (r_2 + 1)) ∧ (((0 : Int) ≤ r_2 + 1 ∧ r_2 + 1 ≤ (q_L.length : Int)) ∧ (((0 : Int) ≤ 0 ∧ 0 ≤ r_2 ∧ r_2 ≤ (q_L.length : Int)) ∧ (((([] : List TrO).length + (cut q_L 0 r_2).length) * 64 ≤ 140737488355328) ∧ (((0 : Int) ≤ r_2 + 1 ∧ r_2 + 1 ≤ (q_L.length : Int) ∧ (q_L.length : Int) ≤ (q_L.length : Int)) ∧ ((((([] : List TrO) ++ (cut q_L 0 r_2)).length + (cut q_L (r_2 + 1) (q_L.length : Int)).length) * 64 ≤ 140737488355328) ∧ (Q true ps_2 q_Now q_On q_At q_First ((([] : List TrO) ++ (cut q_L 0 r_2)) ++ (cut q_L (r_2 + 1) (q_L.length : Int))))))))))))
theorem ref22_Q_Cancel_walk {F : Fz} {fr : List Ow} {h0 : Heap} (q_Now : Int) (q_On : Bool) (q_At : Int) (q_First : Int) (q_L : List TrO) (g : TA) (ps : List (SV × List TrL)) (bq : Nat) (vq_L : Value) (hS : St F (Ow.box bq 95 #[.int .i64 q_Now, .bool q_On, .int .i64 q_At, .int .i64 q_First, vq_L] :: Ow.own 184 20 erO vq_L q_L :: Ow.pool 190 18 erL ps :: fr) h0)  {Q : Bool → (List (SV × List TrL)) → Int → Bool → Int → Int → (List TrO) → Prop} (hM : ref22_Q_Cancel_W q_Now q_On q_At q_First q_L g ps Q) :
  HC Tryz.prog 50 #[.pointer (some ⟨bq, 0, none⟩), .agg (eA g).toArray] h0 fun u h' => ∃ (F' : Fz) (r_1 : Bool) (ps_1 : List (SV × List TrL)) (q_Now_1 : Int) (q_On_1 : Bool) (q_At_1 : Int) (q_First_1 : Int) (q_L_1 : List TrO) (v_1 : Value), u = .bool r_1 ∧ Kp F h0 F' h' ∧ St F' (Ow.pool 190 18 erL ps_1 :: Ow.box bq 95 #[.int .i64 q_Now_1, .bool q_On_1, .int .i64 q_At_1, .int .i64 q_First_1, v_1] :: Ow.own 184 20 erO v_1 q_L_1 :: fr) h' ∧ Q r_1 ps_1 q_Now_1 q_On_1 q_At_1 q_First_1 q_L_1 := by
 unfold ref22_Q_Cancel_W at hM
 have hK := Kp.refl F h0
 refine HC.of_HW (n := 30) Tryz.func50 rfl rfl (Nat.le_of_ble_eq_true rfl) ?_
 refine HW.seq ?_
 refine HW.region ?_
 refine HO.eff (want_none) rfl (st_box (c := (eA g).toArray) (k' := 17) hS rfl rfl) ?_
 rintro _ h_1 ⟨b_1, rfl, hS, hk⟩
 replace hK := hK.trans hk
 refine oA (.bool false) rfl rfl ?_
 refine HO.nil (thenQ_normal (?_))
 refine HW.seq ?_
 refine HW.region ?_
 refine oM (.pointer (some ⟨bq, 0, none⟩)) rfl rfl ?_
 refine oV (.agg (eA g).toArray) (q_loadAgg (cs := (eA g)) ta_28 rfl rfl (Blk.cells (k := 17) (hS.box 0 rfl) rfl)) rfl ?_
 replace hS : St F (Ow.box bq 95 #[.int .i64 q_Now, .bool q_On, .int .i64 q_At, .int .i64 q_First, vq_L] :: Ow.box b_1 28 (eA g).toArray :: Ow.own 184 20 erO vq_L q_L :: Ow.pool 190 18 erL ps :: fr) h_1 := hS.perm2 [1, 0, 2, 3] 4 rfl rfl
 have hZ_1 := hS
 have hkz_1 := (hS.freeze).2
 replace hS := hS.freeze.1
 have hL_1 := hZ_1.lent
 replace hS : St (fun bz_ => F bz_ ∨ (Ow.box bq 95 #[.int .i64 q_Now, .bool q_On, .int .i64 q_At, .int .i64 q_First, vq_L]).foot bz_) (Ow.own 184 20 erO vq_L q_L :: Ow.box b_1 28 (eA g).toArray :: Ow.pool 190 18 erL ps :: fr) h_1 := hS.perm2 [1, 0, 2] 3 rfl rfl
 have hZ_2 := hS
 have hkz_2 := (hS.freeze).2
 replace hS := hS.freeze.1
 have hL_2 : SliceF (fun bz_ => (fun bz_ => F bz_ ∨ (Ow.box bq 95 #[.int .i64 q_Now, .bool q_On, .int .i64 q_At, .int .i64 q_First, vq_L]).foot bz_) bz_ ∨ (Ow.own 184 20 erO vq_L q_L).foot bz_) h_1 20 erO vq_L q_L := ⟨(hZ_2.own 0 rfl).slice, fun _ b hb => .inr hb⟩
 replace hS : St (fun bz_ => (fun bz_ => F bz_ ∨ (Ow.box bq 95 #[.int .i64 q_Now, .bool q_On, .int .i64 q_At, .int .i64 q_First, vq_L]).foot bz_) bz_ ∨ (Ow.own 184 20 erO vq_L q_L).foot bz_) (Ow.pool 190 18 erL ps :: Ow.box b_1 28 (eA g).toArray :: fr) h_1 := hS.perm2 [1, 0] 2 rfl rfl
 refine HO.call (want_none) rfl (ec en_119 rfl rfl) (ref22_Q_find_walk (fr := (Ow.box b_1 28 (eA g).toArray :: fr)) q_Now q_On q_At q_First q_L g ps bq vq_L hS hL_2 (hL_1.kp hkz_2) hM) ?_
 rintro _ h_2 ⟨F_1, r_2, ps_2, rfl, hk, hS, _, _, hM⟩
 obtain ⟨hS, hk⟩ := hZ_2.back hk hS
 obtain ⟨hS, hk⟩ := hZ_1.back hk hS
 generalize (fun bz_ => (fun bz_ => F_1 bz_ ∧ ¬ (Ow.own 184 20 erO vq_L q_L).foot bz_) bz_ ∧ ¬ (Ow.box bq 95 #[.int .i64 q_Now, .bool q_On, .int .i64 q_At, .int .i64 q_First, vq_L]).foot bz_) = F_2 at hS hk
 replace hK := hK.trans hk
 refine oA (.int .i64 r_2) rfl rfl ?_
 refine HO.nil (thenQ_normal (?_))
 refine HW.seq ?_
 refine HW.seq ?_
 refine HW.region ?_
 refine oM (.int .i64 r_2) rfl rfl ?_
 refine oV (.bool (decide (r_2 < 0))) (q_lss rfl rfl) rfl ?_
 refine HO.nil (thenQ_normal (?_))
 refine HW.cond (decide (r_2 < 0)) rfl (fun c_1 => ?_) (fun c_1 => ?_)
 ·
  replace hM := hM.1 (of_decide_eq_true c_1)
  refine HW.seq ?_
  refine HW.region ?_
  refine oA (.bool false) rfl rfl ?_
  refine HO.nil (thenQ_normal (?_))
  refine HW.ret (thenQ_ret (?_))
  refine ⟨.inr rfl, .bool false, res1 rfl (rt rfl), ?_⟩
  replace hS : St F_2 (Ow.pool 190 18 erL ps_2 :: Ow.box bq 95 #[.int .i64 q_Now, .bool q_On, .int .i64 q_At, .int .i64 q_First, vq_L] :: Ow.own 184 20 erO vq_L q_L :: fr) h_2 := hS.perm2 [2, 0, 1] 4 rfl rfl
  exact ⟨F_2, false, ps_2, q_Now, q_On, q_At, q_First, q_L, vq_L, rfl, hK, hS, hM⟩
 ·
  replace hM := hM.2 (of_decide_eq_false c_1)
  refine HW.skip (thenQ_normal (?_))
  refine HW.seq ?_
  refine HW.regionA 20 mixed (fun h => (OwnIs h 0 184 20 erO vq_L q_L)) [(19, fun h => (Blk h bq (.cells #[.int .i64 q_Now, .bool q_On, .int .i64 q_At, .int .i64 q_First, vq_L] 95 (0, 0))))] (by kernel_rfl) ?_
  refine HA.val (k := 0) (v := .pointer (some ⟨bq, 0, none⟩)) rfl rfl (by kernel_rfl) (by kernel_rfl) (want_none) rfl (fun _ c2 => q_move rfl) ?_
  refine HA.val (k := 2) (v := .pointer (some ⟨bq, 0, none⟩)) rfl rfl (by kernel_rfl) (by kernel_rfl) (want_none) rfl (fun _ c2 => q_move rfl) ?_
  refine HA.val (k := 3) (v := .pointer (some ⟨bq, 0, none⟩)) rfl rfl (by kernel_rfl) (by kernel_rfl) (want_none) rfl (fun _ c2 => q_nilCheck rfl) ?_
  refine HA.val (k := 4) (v := .pointer (some ⟨bq, 4, none⟩)) rfl rfl (by kernel_rfl) (by kernel_rfl) (want_none) rfl (fun _ c2 => q_fieldAddr fa_95_4 rfl rfl) ?_
  refine Go.Wk.HA.valN (k := 5) (v := vq_L) 0 19 (fun h => (Blk h bq (.cells #[.int .i64 q_Now, .bool q_On, .int .i64 q_At, .int .i64 q_First, vq_L] 95 (0, 0)))) rfl rfl (by kernel_rfl) (by kernel_rfl) (want_none) rfl rfl (by kernel_rfl) (fun _ c2 c1 => q_load to_93 rfl (Blk.cell c1 rfl)) ?_
  refine HA.val (k := 6) (v := .int .i64 r_2) rfl rfl (by kernel_rfl) (by kernel_rfl) (want_none) rfl (fun _ c2 => q_move rfl) ?_
  obtain ⟨ho_1, hM⟩ := hM
  refine HA.val (k := 7) (v := cutV 20 vq_L (0 : Int).toNat (r_2).toNat) rfl rfl (by kernel_rfl) (by kernel_rfl) (want_none) rfl (fun _ c2 => q_slH ts_93 c2.slice rfl rfl ho_1) ?_
  refine HA.val (k := 9) (v := .pointer (some ⟨bq, 0, none⟩)) rfl rfl (by kernel_rfl) (by kernel_rfl) (want_none) rfl (fun _ c2 => q_move rfl) ?_
  refine HA.val (k := 10) (v := .pointer (some ⟨bq, 0, none⟩)) rfl rfl (by kernel_rfl) (by kernel_rfl) (want_none) rfl (fun _ c2 => q_nilCheck rfl) ?_
  refine HA.val (k := 11) (v := .pointer (some ⟨bq, 4, none⟩)) rfl rfl (by kernel_rfl) (by kernel_rfl) (want_none) rfl (fun _ c2 => q_fieldAddr fa_95_4 rfl rfl) ?_
  refine Go.Wk.HA.valN (k := 12) (v := vq_L) 0 19 (fun h => (Blk h bq (.cells #[.int .i64 q_Now, .bool q_On, .int .i64 q_At, .int .i64 q_First, vq_L] 95 (0, 0)))) rfl rfl (by kernel_rfl) (by kernel_rfl) (want_none) rfl rfl (by kernel_rfl) (fun _ c2 c1 => q_load to_93 rfl (Blk.cell c1 rfl)) ?_
  refine HA.val (k := 13) (v := .int .i64 r_2) rfl rfl (by kernel_rfl) (by kernel_rfl) (want_none) rfl (fun _ c2 => q_move rfl) ?_
  obtain ⟨ho_2, hM⟩ := hM
  refine HA.val (k := 14) (v := .int .i64 (r_2 + 1)) rfl rfl (by kernel_rfl) (by kernel_rfl) (want_none) rfl (fun _ c2 => q_addN _ rfl rfl rfl ho_2.1 ho_2.2) ?_
  obtain ⟨ho_3, hM⟩ := hM
  refine HA.val (k := 15) (v := cutV 20 vq_L (r_2 + 1).toNat ((q_L.length : Int)).toNat) rfl rfl (by kernel_rfl) (by kernel_rfl) (want_none) rfl (fun _ c2 => q_slL ts_93 c2.slice rfl rfl ho_3) ?_
  refine HA.one (k := 1) ⟨(hS.own 1 rfl), (at_now (hS.box 0 rfl) (Go.Wk.at_nil _ _))⟩ (by kernel_rfl) ?_
  refine HS.eff rfl (want_none) rfl (st_litEmpty (α := TrO) erO hS tl_93) ?_
  rintro _ h_3 ⟨b_2, rfl, hS, hk⟩
  replace hK := hK.trans hk
  refine HA.one (k := 8) ⟨(hS.own 2 rfl), (at_now (hS.box 1 rfl) (Go.Wk.at_nil _ _))⟩ (by kernel_rfl) ?_
  obtain ⟨ho_4, hM⟩ := hM
  obtain ⟨ho_5, hM⟩ := hM
  refine HS.eff rfl (want_none) rfl (st_append te_93 hS (i := 0) rfl (cutIs (hS.own 2 rfl).slice 0 r_2 ho_4.1 ho_4.2.1 ho_4.2.2) rfl rfl rfl (by intro a _ u hu; simp [erO, encI, encN, encB, encT] at hu; rcases hu with rfl | rfl | rfl | rfl | rfl | rfl | rfl | rfl | rfl | rfl | rfl | rfl | rfl | rfl | rfl | rfl | rfl | rfl | rfl | rfl <;> rfl) ho_5 (by omega)) ?_
  rintro v_2 h_4 ⟨hS, hk⟩
  replace hK := hK.trans hk
  refine HA.one (k := 16) ⟨(hS.own 2 rfl), (at_now (hS.box 1 rfl) (Go.Wk.at_nil _ _))⟩ (by kernel_rfl) ?_
  obtain ⟨ho_6, hM⟩ := hM
  obtain ⟨ho_7, hM⟩ := hM
  refine HS.eff rfl (want_none) rfl (st_append te_93 hS (i := 0) rfl (cutIs (hS.own 2 rfl).slice (r_2 + 1) (q_L.length : Int) ho_6.1 ho_6.2.1 ho_6.2.2) rfl rfl rfl (by intro a _ u hu; simp [erO, encI, encN, encB, encT] at hu; rcases hu with rfl | rfl | rfl | rfl | rfl | rfl | rfl | rfl | rfl | rfl | rfl | rfl | rfl | rfl | rfl | rfl | rfl | rfl | rfl | rfl <;> rfl) ho_7 (by omega)) ?_
  rintro v_3 h_5 ⟨hS, hk⟩
  replace hK := hK.trans hk
  refine HA.val (k := 17) (v := .pointer (some ⟨bq, 0, none⟩)) rfl rfl (by kernel_rfl) (by kernel_rfl) (want_none) rfl (fun _ c2 => q_nilCheck rfl) ?_
  refine HA.val (k := 18) (v := .pointer (some ⟨bq, 4, none⟩)) rfl rfl (by kernel_rfl) (by kernel_rfl) (want_none) rfl (fun _ c2 => q_fieldAddr fa_95_4 rfl rfl) ?_
  refine HA.one (k := 19) ⟨(hS.own 2 rfl), (at_now (hS.box 1 rfl) (Go.Wk.at_nil _ _))⟩ (by kernel_rfl) ?_
  refine HS.sto rfl (want_none) rfl (st_store (c' := #[.int .i64 q_Now, .bool q_On, .int .i64 q_At, .int .i64 q_First, v_3]) hS (i := 1) rfl to_93 rfl rfl (shp (hS.own 0 rfl).slice).cells (shp (hS.own 0 rfl).slice).one (Nat.le_of_ble_eq_true rfl) rfl) ?_
  rintro h_6 ⟨hS, hk⟩
  replace hK := hK.trans hk
  refine HA.nil ⟨(hS.own 2 rfl), (at_done (by kernel_rfl) (Go.Wk.at_nil _ _))⟩ (by kernel_rfl) (thenQ_normal (?_))
  refine HW.seq ?_
  refine HW.region ?_
  refine oA (.bool true) rfl rfl ?_
  refine HO.nil (thenQ_normal (?_))
  refine HW.ret (?_)
  refine ⟨.inr rfl, .bool true, res1 rfl (rt rfl), ?_⟩
  replace hS : St F_2 (Ow.pool 190 18 erL ps_2 :: Ow.box bq 95 #[.int .i64 q_Now, .bool q_On, .int .i64 q_At, .int .i64 q_First, v_3] :: Ow.own 184 20 erO v_3 ((([] : List TrO) ++ (cut q_L 0 r_2)) ++ (cut q_L (r_2 + 1) (q_L.length : Int))) :: fr) h_6 := hS.perm2 [3, 1, 0] 5 rfl rfl
  exact ⟨F_2, true, ps_2, q_Now, q_On, q_At, q_First, (([] : List TrO) ++ (cut q_L 0 r_2)) ++ (cut q_L (r_2 + 1) (q_L.length : Int)), v_3, rfl, hK, hS, hM⟩
def ref14_Gap_W (t : T_api_Tune) (Q : Int → Prop) : Prop :=
 (I64 (t.2.1.tdiv 4)) ∧ ((1 < (t.2.1.tdiv 4) → Q (t.2.1.tdiv 4)) ∧ (¬ (1 < (t.2.1.tdiv 4)) → Q 1))
theorem ref14_Gap_walk {F : Fz} {fr : List Ow} {h0 : Heap} (t : T_api_Tune) (hS : St F (fr) h0)  {Q : Int → Prop} (hM : ref14_Gap_W t Q) :
  HC Tryz.prog 127 #[.agg (e_api_Tune t).toArray] h0 fun u h' => ∃ (F' : Fz) (r_1 : Int), u = .int .i64 r_1 ∧ Kp F h0 F' h' ∧ St F' (fr) h' ∧ Q r_1 := by
 unfold ref14_Gap_W at hM
 have hK := Kp.refl F h0
 refine HC.of_HW (n := 10) Tryz.func127 rfl rfl (Nat.le_of_ble_eq_true rfl) ?_
 refine HW.seq ?_
 refine HW.region ?_
 refine HO.eff (want_none) rfl (st_box (c := (e_api_Tune t).toArray) (k' := 5) hS rfl rfl) ?_
 rintro _ h_1 ⟨b_1, rfl, hS, hk⟩
 replace hK := hK.trans hk
 refine oA (.int .i64 0) rfl rfl ?_
 refine HO.nil (thenQ_normal (?_))
 refine HW.seq ?_
 refine HW.seq ?_
 refine HW.region ?_
 refine oV (.pointer (some ⟨b_1, 1, none⟩)) (q_fieldAddr fa_56_1 rfl rfl) rfl ?_
 refine oV (.int .i64 t.2.1) (q_load to_3 rfl (Blk.cell (hS.box 0 rfl) rfl)) rfl ?_
 obtain ⟨ho_1, hM⟩ := hM
 refine oV (.int .i64 (t.2.1.tdiv 4)) (q_quoN _ rfl rfl (by decide) rfl ho_1.1 ho_1.2) rfl ?_
 refine oA (.int .i64 (t.2.1.tdiv 4)) rfl rfl ?_
 refine HO.nil (thenQ_normal (?_))
 refine HW.seq ?_
 refine HW.region ?_
 refine oM (.int .i64 (t.2.1.tdiv 4)) rfl rfl ?_
 refine oV (.bool (decide (1 < (t.2.1.tdiv 4)))) (q_gtr rfl rfl) rfl ?_
 refine HO.nil (thenQ_normal (?_))
 refine HW.cond (decide (1 < (t.2.1.tdiv 4))) rfl (fun c_1 => ?_) (fun c_1 => ?_)
 ·
  replace hM := hM.1 (of_decide_eq_true c_1)
  refine HW.seq ?_
  refine HW.region ?_
  refine oM (.int .i64 (t.2.1.tdiv 4)) rfl rfl ?_
  refine oA (.int .i64 (t.2.1.tdiv 4)) rfl rfl ?_
  refine HO.nil (thenQ_normal (?_))
  refine HW.ret (thenQ_ret (?_))
  refine ⟨.inr rfl, .int .i64 (t.2.1.tdiv 4), res1 rfl (rt rfl), ?_⟩
  replace hS : St F (fr) h_1 := hS.perm2 [] 1 rfl rfl
  exact ⟨F, t.2.1.tdiv 4, rfl, hK, hS, hM⟩
 ·
  replace hM := hM.2 (of_decide_eq_false c_1)
  refine HW.skip (thenQ_normal (?_))
  refine HW.seq ?_
  refine HW.region ?_
  refine oA (.int .i64 1) rfl rfl ?_
  refine HO.nil (thenQ_normal (?_))
  refine HW.ret (?_)
  refine ⟨.inr rfl, .int .i64 1, res1 rfl (rt rfl), ?_⟩
  replace hS : St F (fr) h_1 := hS.perm2 [] 1 rfl rfl
  exact ⟨F, 1, rfl, hK, hS, hM⟩
def ref22_asked_l1 (x_G : TA) (x_N : Int) (x_L : List TrL) (Q : Bool → (Ba 16) → Bool → (List TA) → Prop) (K_1 : (List TA) → Int → Prop) (a_18_1 : List TA) (i_1 : Int) : Prop :=
 (i_1 < (x_L.length : Int) → ((0 : Int) ≤ i_1 ∧ i_1 < (x_L.length : Int)) ∧ (((a_18_1.length + ([((gi x_L i_1).1)] : List TA).length) * 17 ≤ 140737488355328) ∧ ((I64 (i_1 + 1)) ∧ (K_1 (a_18_1 ++ ([((gi x_L i_1).1)] : List TA)) (i_1 + 1))))) ∧ (¬ (i_1 < (x_L.length : Int)) → Q x_G.1 x_G.2 (decide (0 < x_N)) a_18_1)
def ref22_asked_W (x_G : TA) (x_At : Int) (x_N : Int) (x_L : List TrL) (Q : Bool → (Ba 16) → Bool → (List TA) → Prop) : Prop :=
 loopW (fun (K_1 : (List TA × Int) → Prop) (s : List TA × Int) => ref22_asked_l1 x_G x_N x_L Q (fun a_18_1 i_1 => K_1 (a_18_1, i_1)) s.1 s.2) ([], 0)
theorem ref22_asked_walk {F : Fz} {fr : List Ow} {h0 : Heap} (x_G : TA) (x_At : Int) (x_N : Int) (x_L : List TrL) (vx_L : Value) (hS : St F (fr) h0) (hL_x_L : SliceF F h0 18 erL vx_L x_L) {Q : Bool → (Ba 16) → Bool → (List TA) → Prop} (hM : ref22_asked_W x_G x_At x_N x_L Q) :
  HC Tryz.prog 128 #[.agg (c_acequiaref22_One x_G (.int .i64 x_At) (.int .i64 x_N) vx_L).toArray] h0 fun u h' => ∃ (F' : Fz) (r_0_1 : Bool) (r_1_1 : Ba 16) (r_17_1 : Bool) (r_18_1 : List TA) (vr_18_1 : Value), u = .agg (c_api_Asked (r_0_1, r_1_1) (.bool r_17_1) vr_18_1).toArray ∧ Kp F h0 F' h' ∧ St F' (Ow.own 28 17 eA vr_18_1 r_18_1 :: fr) h' ∧ (SliceF F' h' 18 erL vx_L x_L) ∧ Q r_0_1 r_1_1 r_17_1 r_18_1 := by
 unfold ref22_asked_W at hM
 have hK := Kp.refl F h0
 refine HC.of_HW (n := 30) Tryz.func128 rfl rfl (Nat.le_of_ble_eq_true rfl) ?_
 refine HW.seq ?_
 refine HW.region ?_
 refine HO.eff (want_none) rfl (st_box (c := (c_acequiaref22_One x_G (.int .i64 x_At) (.int .i64 x_N) vx_L).toArray) (k' := 20) hS rfl rfl) ?_
 rintro _ h_1 ⟨b_1, rfl, hS, hk⟩
 replace hK := hK.trans hk
 replace hL_x_L := hL_x_L.kp hk
 refine HO.eff (want_none) rfl (st_alloc (c := (c_api_Asked (false, (default : Ba 16)) (.bool false) (.slice none 0 0)).toArray) hS tz_97 rfl) ?_
 rintro _ h_2 ⟨b_2, rfl, hS, hk⟩
 replace hK := hK.trans hk
 replace hL_x_L := hL_x_L.kp hk
 refine HO.nil (thenQ_normal (?_))
 refine HW.seq ?_
 refine HW.region ?_
 refine oV (.pointer (some ⟨b_1, 0, none⟩)) (q_fieldAddr fa_184_0 rfl rfl) rfl ?_
 refine oV (.agg (eA x_G).toArray) (q_loadAgg (cs := (eA x_G)) ta_28 rfl rfl (Blk.cells (k := 17) (hS.box 1 rfl) rfl)) rfl ?_
 refine oV (.pointer (some ⟨b_1, 18, none⟩)) (q_fieldAddr fa_184_2 rfl rfl) rfl ?_
 refine oV (.int .i64 x_N) (q_load to_3 rfl (Blk.cell (hS.box 1 rfl) rfl)) rfl ?_
 refine oV (.bool (decide (0 < x_N))) (q_gtr rfl rfl) rfl ?_
 refine oV (.agg (c_api_Asked x_G (.bool (decide (0 < x_N))) (.slice none 0 0)).toArray) (q_build tp_97 (fill_cons (cs' := (c_api_Asked x_G (.bool false) (.slice none 0 0)).toArray) (vc := (eA x_G).toArray) rfl rfl rfl (Nat.le_of_ble_eq_true rfl) rfl (fill_cons (cs' := (c_api_Asked x_G (.bool (decide (0 < x_N))) (.slice none 0 0)).toArray) (vc := #[.bool (decide (0 < x_N))]) rfl rfl rfl (Nat.le_of_ble_eq_true rfl) rfl rfl))) rfl ?_
 refine HO.eff (want_none) rfl (st_alloc (c := (c_api_Asked (false, (default : Ba 16)) (.bool false) (.slice none 0 0)).toArray) hS tz_97 rfl) ?_
 rintro _ h_3 ⟨b_3, rfl, hS, hk⟩
 replace hK := hK.trans hk
 replace hL_x_L := hL_x_L.kp hk
 refine HO.sto (want_none) rfl (st_storeAgg (c' := (c_api_Asked x_G (.bool (decide (0 < x_N))) (.slice none 0 0)).toArray) hS (i := 0) rfl ta_97 rfl rfl rfl (List.forall_mem_cons.2 ⟨rfl, (List.forall_mem_cons.2 ⟨rfl, (List.forall_mem_cons.2 ⟨rfl, (List.forall_mem_cons.2 ⟨rfl, (List.forall_mem_cons.2 ⟨rfl, (List.forall_mem_cons.2 ⟨rfl, (List.forall_mem_cons.2 ⟨rfl, (List.forall_mem_cons.2 ⟨rfl, (List.forall_mem_cons.2 ⟨rfl, (List.forall_mem_cons.2 ⟨rfl, (List.forall_mem_cons.2 ⟨rfl, (List.forall_mem_cons.2 ⟨rfl, (List.forall_mem_cons.2 ⟨rfl, (List.forall_mem_cons.2 ⟨rfl, (List.forall_mem_cons.2 ⟨rfl, (List.forall_mem_cons.2 ⟨rfl, (List.forall_mem_cons.2 ⟨rfl, (List.forall_mem_cons.2 ⟨rfl, (List.forall_mem_cons.2 ⟨rfl, (fun _ h => by cases h)⟩)⟩)⟩)⟩)⟩)⟩)⟩)⟩)⟩)⟩)⟩)⟩)⟩)⟩)⟩)⟩)⟩)⟩)⟩) (Nat.le_of_ble_eq_true rfl) rfl) ?_
 rintro h_4 ⟨hS, hk⟩
 replace hK := hK.trans hk
 replace hL_x_L := hL_x_L.kp hk
 refine HO.nil (thenQ_normal (?_))
 refine HW.seq ?_
 refine HW.seq ?_
 refine HW.region ?_
 refine oA (.int .i64 0) rfl rfl ?_
 refine HO.nil (thenQ_normal (?_))
 refine HW.block ?_
 obtain ⟨I_1, m_1, hI_1, hR_1⟩ := hM
 replace hS := hS.nilOwn 28 17 eA
 replace hS : St F (Ow.box b_1 184 (c_acequiaref22_One x_G (.int .i64 x_At) (.int .i64 x_N) vx_L).toArray :: Ow.box b_2 97 (c_api_Asked (false, (default : Ba 16)) (.bool false) (.slice none 0 0)).toArray :: Ow.box b_3 97 (c_api_Asked x_G (.bool (decide (0 < x_N))) (.slice none 0 0)).toArray :: Ow.own 28 17 eA (.slice none 0 0) ([] : List TA) :: fr) h_4 := hS.perm2 [3, 2, 1, 0] 4 rfl rfl
 refine HW.loop (S := List TA × Int) (fun s f h => match s with | (a_18_1, i_1) => ∃ (F' : Fz) (va_18_1 : Value), f 1 = .pointer (some ⟨b_1, 0, none⟩) ∧ f 2 = .pointer (some ⟨b_2, 0, none⟩) ∧ f 3 = .pointer (some ⟨b_3, 0, none⟩) ∧ f 4 = .int .i64 i_1 ∧ Kp F h0 F' h ∧ St F' (Ow.box b_1 184 (c_acequiaref22_One x_G (.int .i64 x_At) (.int .i64 x_N) vx_L).toArray :: Ow.box b_2 97 (c_api_Asked (false, (default : Ba 16)) (.bool false) (.slice none 0 0)).toArray :: Ow.box b_3 97 (c_api_Asked x_G (.bool (decide (0 < x_N))) va_18_1).toArray :: Ow.own 28 17 eA va_18_1 a_18_1 :: fr) h ∧ (SliceF F' h 18 erL vx_L x_L) ∧ I_1 (a_18_1, i_1)) m_1 ([], 0) ⟨F, .slice none 0 0, rfl, rfl, rfl, rfl, hK, hS, hL_x_L, hI_1⟩ ?_
 rintro ⟨a_18_1, i_1⟩ f_1 h_5 ⟨F_1, va_18_1, e1, e2, e3, e4, hK, hS, hL_x_L, hI0⟩
 obtain ⟨K_1, hKe_1⟩ : ∃ K : (List TA) → Int → Prop, K = fun a_18_1' i_1' => I_1 (a_18_1', i_1') ∧ m_1 (a_18_1', i_1') < m_1 (a_18_1, i_1) := ⟨_, rfl⟩
 have hM : ref22_asked_l1 x_G x_N x_L Q K_1 a_18_1 i_1 := by rw [hKe_1]; exact hR_1 (a_18_1, i_1) hI0
 unfold ref22_asked_l1 at hM
 refine HW.fr [(1, .pointer (some ⟨b_1, 0, none⟩)), (2, .pointer (some ⟨b_2, 0, none⟩)), (3, .pointer (some ⟨b_3, 0, none⟩)), (4, .int .i64 i_1)] ⟨e1, e2, e3, e4, trivial⟩ ?_
 refine HW.seq ?_
 refine HW.seq ?_
 refine HW.region ?_
 refine oM (.int .i64 i_1) rfl rfl ?_
 refine oV (.pointer (some ⟨b_1, 19, none⟩)) (q_fieldAddr fa_184_3 rfl rfl) rfl ?_
 refine oV (vx_L) (q_load to_182 rfl (Blk.cell (hS.box 0 rfl) rfl)) rfl ?_
 refine oV (.int .i64 (x_L.length : Int)) (q_len ts_182 (shp hL_x_L.is) rfl rfl) rfl ?_
 refine oV (.bool (decide (i_1 < (x_L.length : Int)))) (q_lss rfl rfl) rfl ?_
 refine HO.nil (thenQ_normal (?_))
 refine HW.cond (decide (i_1 < (x_L.length : Int))) rfl (fun c_1 => ?_) (fun c_1 => ?_)
 ·
  replace hM := hM.1 (of_decide_eq_true c_1)
  refine HW.skip (thenQ_normal (?_))
  refine HW.seq ?_
  refine HW.block ?_
  refine HW.regionA 12 mixed (fun h => (SliceIs h 18 erL vx_L x_L) ∧ (Blk h b_1 (.cells (c_acequiaref22_One x_G (.int .i64 x_At) (.int .i64 x_N) vx_L).toArray 184 (0, 0)))) [(11, fun h => (Blk h b_3 (.cells (c_api_Asked x_G (.bool (decide (0 < x_N))) va_18_1).toArray 97 (0, 0))))] (by kernel_rfl) ?_
  refine HA.val (k := 0) (v := .pointer (some ⟨b_3, 18, none⟩)) rfl rfl (by kernel_rfl) (by kernel_rfl) (want_none) rfl (fun _ ⟨hL_x_L, c355⟩ => q_fieldAddr fa_97_2 rfl rfl) ?_
  refine Go.Wk.HA.valN (k := 1) (v := va_18_1) 0 11 (fun h => (Blk h b_3 (.cells (c_api_Asked x_G (.bool (decide (0 < x_N))) va_18_1).toArray 97 (0, 0)))) rfl rfl (by kernel_rfl) (by kernel_rfl) (want_none) rfl rfl (by kernel_rfl) (fun _ ⟨hL_x_L, c355⟩ c357 => q_load to_29 rfl (Blk.cell c357 rfl)) ?_
  refine HA.val (k := 2) (v := .pointer (some ⟨b_1, 19, none⟩)) rfl rfl (by kernel_rfl) (by kernel_rfl) (want_none) rfl (fun _ ⟨hL_x_L, c355⟩ => q_fieldAddr fa_184_3 rfl rfl) ?_
  refine HA.val (k := 3) (v := vx_L) rfl rfl (by kernel_rfl) (by kernel_rfl) (want_none) rfl (fun _ ⟨hL_x_L, c355⟩ => q_load to_182 rfl (Blk.cell c355 rfl)) ?_
  refine HA.val (k := 4) (v := .int .i64 i_1) rfl rfl (by kernel_rfl) (by kernel_rfl) (want_none) rfl (fun _ ⟨hL_x_L, c355⟩ => q_move rfl) ?_
  obtain ⟨ho_1, hM⟩ := hM
  refine HA.val (k := 5) (v := elemPtr 18 vx_L (i_1).toNat) rfl rfl (by kernel_rfl) (by kernel_rfl) (want_none) rfl (fun _ ⟨hL_x_L, c355⟩ => q_idx ts_182 hL_x_L rfl rfl ho_1) ?_
  refine HA.val (k := 6) (v := fieldPtr 18 vx_L (i_1).toNat 0) rfl rfl (by kernel_rfl) (by kernel_rfl) (want_none) rfl (fun _ ⟨hL_x_L, c355⟩ => q_fldElem fa_190_0 hL_x_L rfl ho_1) ?_
  refine HA.val (k := 7) (v := .agg (eA ((gi x_L i_1).1)).toArray) rfl rfl (by kernel_rfl) (by kernel_rfl) (want_none) rfl (fun _ ⟨hL_x_L, c355⟩ => q_ldFieldAgg (n := 17) (cs := (eA ((gi x_L i_1).1))) ta_28 hL_x_L rfl ho_1 (by decide) rfl) ?_
  refine HA.one (k := 8) ⟨⟨hL_x_L.is, (hS.box 0 rfl)⟩, (at_now (hS.box 2 rfl) (Go.Wk.at_nil _ _))⟩ (by kernel_rfl) ?_
  refine HS.eff rfl (want_none) rfl (st_lit (enc := eA) (cells := #[.bool (((gi x_L i_1).1).1), .int .u8 (b8 (((gi x_L i_1).1).2) 0), .int .u8 (b8 (((gi x_L i_1).1).2) 1), .int .u8 (b8 (((gi x_L i_1).1).2) 2), .int .u8 (b8 (((gi x_L i_1).1).2) 3), .int .u8 (b8 (((gi x_L i_1).1).2) 4), .int .u8 (b8 (((gi x_L i_1).1).2) 5), .int .u8 (b8 (((gi x_L i_1).1).2) 6), .int .u8 (b8 (((gi x_L i_1).1).2) 7), .int .u8 (b8 (((gi x_L i_1).1).2) 8), .int .u8 (b8 (((gi x_L i_1).1).2) 9), .int .u8 (b8 (((gi x_L i_1).1).2) 10), .int .u8 (b8 (((gi x_L i_1).1).2) 11), .int .u8 (b8 (((gi x_L i_1).1).2) 12), .int .u8 (b8 (((gi x_L i_1).1).2) 13), .int .u8 (b8 (((gi x_L i_1).1).2) 14), .int .u8 (b8 (((gi x_L i_1).1).2) 15)]) #[.bool false, .int .u8 0, .int .u8 0, .int .u8 0, .int .u8 0, .int .u8 0, .int .u8 0, .int .u8 0, .int .u8 0, .int .u8 0, .int .u8 0, .int .u8 0, .int .u8 0, .int .u8 0, .int .u8 0, .int .u8 0, .int .u8 0] ([((gi x_L i_1).1)] : List TA) hS tl_29 (by decide) (by decide) (by kernel_rfl) (by kernel_rfl) rfl (by intro x hx; rfl) rfl) ?_
  rintro _ h_6 ⟨b_4, rfl, hS, hk⟩
  replace hK := hK.trans hk
  replace hL_x_L := hL_x_L.kp hk
  refine HA.one (k := 9) ⟨⟨hL_x_L.is, (hS.box 1 rfl)⟩, (at_now (hS.box 3 rfl) (Go.Wk.at_nil _ _))⟩ (by kernel_rfl) ?_
  obtain ⟨ho_2, hM⟩ := hM
  refine HS.eff rfl (want_none) rfl (st_append te_29 hS (i := 4) rfl (hS.own 0 rfl).slice rfl rfl rfl (by intro a _ u hu; simp [eA, encI, encN, encB, encT] at hu; rcases hu with rfl | rfl | rfl | rfl | rfl | rfl | rfl | rfl | rfl | rfl | rfl | rfl | rfl | rfl | rfl | rfl | rfl <;> rfl) ho_2 (by omega)) ?_
  rintro v_1 h_7 ⟨hS, hk⟩
  replace hK := hK.trans hk
  replace hL_x_L := hL_x_L.kp hk
  refine HA.val (k := 10) (v := .pointer (some ⟨b_3, 18, none⟩)) rfl rfl (by kernel_rfl) (by kernel_rfl) (want_none) rfl (fun _ ⟨hL_x_L, c355⟩ => q_fieldAddr fa_97_2 rfl rfl) ?_
  refine HA.one (k := 11) ⟨⟨hL_x_L.is, (hS.box 1 rfl)⟩, (at_now (hS.box 3 rfl) (Go.Wk.at_nil _ _))⟩ (by kernel_rfl) ?_
  refine HS.sto rfl (want_none) rfl (st_store (c' := (c_api_Asked x_G (.bool (decide (0 < x_N))) v_1).toArray) hS (i := 3) rfl to_29 rfl rfl (shp (hS.own 4 rfl).slice).cells (shp (hS.own 4 rfl).slice).one (Nat.le_of_ble_eq_true rfl) rfl) ?_
  rintro h_8 ⟨hS, hk⟩
  replace hK := hK.trans hk
  replace hL_x_L := hL_x_L.kp hk
  refine HA.nil ⟨⟨hL_x_L.is, (hS.box 1 rfl)⟩, (at_done (by kernel_rfl) (Go.Wk.at_nil _ _))⟩ (by kernel_rfl) (blockQ_normal (thenQ_normal (?_)))
  refine HW.region ?_
  refine oM (.int .i64 i_1) rfl rfl ?_
  obtain ⟨ho_3, hM⟩ := hM
  refine oV (.int .i64 (i_1 + 1)) (q_addN _ rfl rfl rfl ho_3.1 ho_3.2) rfl ?_
  refine oA (.int .i64 (i_1 + 1)) rfl rfl ?_
  refine HO.nil (thenQ_normal (?_))
  replace hS : St F_1 (Ow.box b_1 184 (c_acequiaref22_One x_G (.int .i64 x_At) (.int .i64 x_N) vx_L).toArray :: Ow.box b_2 97 (c_api_Asked (false, (default : Ba 16)) (.bool false) (.slice none 0 0)).toArray :: Ow.box b_3 97 (c_api_Asked x_G (.bool (decide (0 < x_N))) v_1).toArray :: Ow.own 28 17 eA v_1 (a_18_1 ++ ([((gi x_L i_1).1)] : List TA)) :: fr) h_8 := hS.perm2 [1, 2, 3, 4] 5 rfl rfl
  rw [hKe_1] at hM
  exact ⟨(a_18_1 ++ ([((gi x_L i_1).1)] : List TA), i_1 + 1), ⟨F_1, v_1, rfl, rfl, rfl, rfl, hK, hS, hL_x_L, hM.1⟩, hM.2⟩
 ·
  replace hM := hM.2 (of_decide_eq_false c_1)
  refine HW.exit (thenQ_exit (thenQ_exit (blockQ_exit (thenQ_normal (?_)))))
  refine HW.seq ?_
  refine HW.region ?_
  refine oV (.agg (c_api_Asked x_G (.bool (decide (0 < x_N))) va_18_1).toArray) (q_loadAgg (cs := (c_api_Asked x_G (.bool (decide (0 < x_N))) va_18_1)) ta_97 rfl rfl (Blk.cells (k := 19) (hS.box 2 rfl) rfl)) rfl ?_
  refine HO.sto (want_none) rfl (st_storeAgg (c' := (c_api_Asked x_G (.bool (decide (0 < x_N))) va_18_1).toArray) hS (i := 1) rfl ta_97 rfl rfl rfl (List.forall_mem_cons.2 ⟨rfl, (List.forall_mem_cons.2 ⟨rfl, (List.forall_mem_cons.2 ⟨rfl, (List.forall_mem_cons.2 ⟨rfl, (List.forall_mem_cons.2 ⟨rfl, (List.forall_mem_cons.2 ⟨rfl, (List.forall_mem_cons.2 ⟨rfl, (List.forall_mem_cons.2 ⟨rfl, (List.forall_mem_cons.2 ⟨rfl, (List.forall_mem_cons.2 ⟨rfl, (List.forall_mem_cons.2 ⟨rfl, (List.forall_mem_cons.2 ⟨rfl, (List.forall_mem_cons.2 ⟨rfl, (List.forall_mem_cons.2 ⟨rfl, (List.forall_mem_cons.2 ⟨rfl, (List.forall_mem_cons.2 ⟨rfl, (List.forall_mem_cons.2 ⟨rfl, (List.forall_mem_cons.2 ⟨rfl, (List.forall_mem_cons.2 ⟨(shp (hS.own 3 rfl).slice).one, (fun _ h => by cases h)⟩)⟩)⟩)⟩)⟩)⟩)⟩)⟩)⟩)⟩)⟩)⟩)⟩)⟩)⟩)⟩)⟩)⟩)⟩) (Nat.le_of_ble_eq_true rfl) rfl) ?_
  rintro h_9 ⟨hS, hk⟩
  replace hK := hK.trans hk
  replace hL_x_L := hL_x_L.kp hk
  refine HO.nil (thenQ_normal (?_))
  refine HW.ret (?_)
  refine ⟨.inr rfl, .agg (c_api_Asked x_G (.bool (decide (0 < x_N))) va_18_1).toArray, res1 rfl (rca (cs := (c_api_Asked x_G (.bool (decide (0 < x_N))) va_18_1)) ta_97 rfl rfl (Blk.cells (k := 19) (hS.box 1 rfl) rfl)), ?_⟩
  replace hS : St F_1 (Ow.own 28 17 eA va_18_1 a_18_1 :: fr) h_9 := hS.perm2 [3] 4 rfl rfl
  exact ⟨F_1, x_G.1, x_G.2, decide (0 < x_N), a_18_1, va_18_1, rfl, hK, hS, hL_x_L, hM⟩
def ref22_Q_Due_j4 (t : T_api_Tune) (q_Now_2 : Int) (q_L_2 : List TrO) (ps_3 : List (SV × List TrL)) (out_1 : List T_api_Asked) (rest_1 : List TrO) (i_1 : Int) (K_1 : (List (SV × List TrL)) → (List T_api_Asked) → (List TrO) → Int → Prop) (r_0_1 : Bool) (r_1_1 : Ba 16) (r_17_1 : Bool) (r_18_1 : List TA) (vr_18_1 : Value) (y_18_1 : Int) (y_19_1 : List TrL) (b_11 : Bool) : Prop :=
 (b_11 = true → ∀ sv_1 : SV, (((rest_1.length + ([(((gi q_L_2 i_1).1), q_Now_2 + t.2.2.2.1, y_18_1, (sv_1, y_19_1))] : List TrO).length) * 64 ≤ 140737488355328) ∧ ((I64 (i_1 + 1)) ∧ (K_1 ((sv_1, y_19_1) :: ps_3) (out_1 ++ ([((r_0_1, r_1_1), r_17_1, (vr_18_1, r_18_1))] : List T_api_Asked)) (rest_1 ++ ([(((gi q_L_2 i_1).1), q_Now_2 + t.2.2.2.1, y_18_1, (sv_1, y_19_1))] : List TrO)) (i_1 + 1))))) ∧ (b_11 = false → (I64 (i_1 + 1)) ∧ (K_1 ps_3 (out_1 ++ ([((r_0_1, r_1_1), r_17_1, (vr_18_1, r_18_1))] : List T_api_Asked)) rest_1 (i_1 + 1)))
def ref22_Q_Due_l2 (t : T_api_Tune) (q_Now_2 : Int) (q_L_2 : List TrO) (ps_3 : List (SV × List TrL)) (out_1 : List T_api_Asked) (rest_1 : List TrO) (i_1 : Int) (K_1 : (List (SV × List TrL)) → (List T_api_Asked) → (List TrO) → Int → Prop) (r_0_1 : Bool) (r_1_1 : Ba 16) (r_17_1 : Bool) (r_18_1 : List TA) (vr_18_1 : Value) (y_18_1 : Int) (K_2 : (List TrL) → Int → Prop) (y_19_1 : List TrL) (k_1 : Int) : Prop :=
 (PHas ps_3 (((gi q_L_2 i_1).2.2.2).1, ((gi q_L_2 i_1).2.2.2).2)) ∧ ((k_1 < ((((gi q_L_2 i_1).2.2.2).2).length : Int) → ((0 : Int) ≤ k_1 ∧ k_1 < ((((gi q_L_2 i_1).2.2.2).2).length : Int)) ∧ ((1 < ((gi (((gi q_L_2 i_1).2.2.2).2) k_1).2) → (I64 (((gi (((gi q_L_2 i_1).2.2.2).2) k_1).2) - 1)) ∧ (((y_19_1.length + ([(((gi (((gi q_L_2 i_1).2.2.2).2) k_1).1), ((gi (((gi q_L_2 i_1).2.2.2).2) k_1).2) - 1)] : List TrL).length) * 32 ≤ 140737488355328) ∧ ((I64 (k_1 + 1)) ∧ (K_2 (y_19_1 ++ ([(((gi (((gi q_L_2 i_1).2.2.2).2) k_1).1), ((gi (((gi q_L_2 i_1).2.2.2).2) k_1).2) - 1)] : List TrL)) (k_1 + 1))))) ∧ (¬ (1 < ((gi (((gi q_L_2 i_1).2.2.2).2) k_1).2)) → (I64 (k_1 + 1)) ∧ (K_2 y_19_1 (k_1 + 1))))) ∧ (¬ (k_1 < ((((gi q_L_2 i_1).2.2.2).2).length : Int)) → (0 < y_18_1 → ref22_Q_Due_j4 t q_Now_2 q_L_2 ps_3 out_1 rest_1 i_1 K_1 r_0_1 r_1_1 r_17_1 r_18_1 vr_18_1 y_18_1 y_19_1 true) ∧ (¬ (0 < y_18_1) → ref22_Q_Due_j4 t q_Now_2 q_L_2 ps_3 out_1 rest_1 i_1 K_1 r_0_1 r_1_1 r_17_1 r_18_1 vr_18_1 y_18_1 y_19_1 (decide (0 < (y_19_1.length : Int))))))
def ref22_Q_Due_j3 (t : T_api_Tune) (q_Now_2 : Int) (q_L_2 : List TrO) (ps_3 : List (SV × List TrL)) (out_1 : List T_api_Asked) (rest_1 : List TrO) (i_1 : Int) (K_1 : (List (SV × List TrL)) → (List T_api_Asked) → (List TrO) → Int → Prop) (r_0_1 : Bool) (r_1_1 : Ba 16) (r_17_1 : Bool) (r_18_1 : List TA) (vr_18_1 : Value) (y_18_1 : Int) : Prop :=
 loopW (fun (K_2 : (List TrL × Int) → Prop) (s : List TrL × Int) => ref22_Q_Due_l2 t q_Now_2 q_L_2 ps_3 out_1 rest_1 i_1 K_1 r_0_1 r_1_1 r_17_1 r_18_1 vr_18_1 y_18_1 (fun y_19_1 k_1 => K_2 (y_19_1, k_1)) s.1 s.2) ([], 0)
def ref22_Q_Due_l1 (t : T_api_Tune) (Q : Bool → (List T_api_Asked) → (List (SV × List TrL)) → Int → Bool → Int → Int → (List TrO) → Prop) (q_Now_2 : Int) (q_On_2 : Bool) (q_L_2 : List TrO) (general_1 : Bool) (q_2_2 : Int) (q_3_2 : Int) (K_1 : (List (SV × List TrL)) → (List T_api_Asked) → (List TrO) → Int → Prop) (ps_3 : List (SV × List TrL)) (out_1 : List T_api_Asked) (rest_1 : List TrO) (i_1 : Int) : Prop :=
 (i_1 < (q_L_2.length : Int) → ((0 : Int) ≤ i_1 ∧ i_1 < (q_L_2.length : Int)) ∧ ((q_Now_2 < ((gi q_L_2 i_1).2.1) → ((rest_1.length + ([(((gi q_L_2 i_1).1), (gi q_L_2 i_1).2.1, (gi q_L_2 i_1).2.2.1, ((gi q_L_2 i_1).2.2.2))] : List TrO).length) * 64 ≤ 140737488355328) ∧ ((I64 (i_1 + 1)) ∧ (K_1 ps_3 out_1 (rest_1 ++ ([(((gi q_L_2 i_1).1), (gi q_L_2 i_1).2.1, (gi q_L_2 i_1).2.2.1, ((gi q_L_2 i_1).2.2.2))] : List TrO)) (i_1 + 1)))) ∧ (¬ (q_Now_2 < ((gi q_L_2 i_1).2.1)) → (PHas ps_3 (((gi q_L_2 i_1).2.2.2).1, ((gi q_L_2 i_1).2.2.2).2)) ∧ (ref22_asked_W ((gi q_L_2 i_1).1) ((gi q_L_2 i_1).2.1) ((gi q_L_2 i_1).2.2.1) (((gi q_L_2 i_1).2.2.2).2) (fun r_0_1 r_1_1 r_17_1 r_18_1 => ∀ vr_18_1 : Value, (((out_1.length + ([((r_0_1, r_1_1), r_17_1, (vr_18_1, r_18_1))] : List T_api_Asked).length) * 48 ≤ 140737488355328) ∧ ((I64 (q_Now_2 + t.2.2.2.1)) ∧ ((I64 (((gi q_L_2 i_1).2.2.1) - 1)) ∧ (((((gi q_L_2 i_1).2.2.1) - 1) < 0 → ref22_Q_Due_j3 t q_Now_2 q_L_2 ps_3 out_1 rest_1 i_1 K_1 r_0_1 r_1_1 r_17_1 r_18_1 vr_18_1 0) ∧ (¬ ((((gi q_L_2 i_1).2.2.1) - 1) < 0) → ref22_Q_Due_j3 t q_Now_2 q_L_2 ps_3 out_1 rest_1 i_1 K_1 r_0_1 r_1_1 r_17_1 r_18_1 vr_18_1 (((gi q_L_2 i_1).2.2.1) - 1))))))))))) ∧ (¬ (i_1 < (q_L_2.length : Int)) → Q general_1 out_1 ps_3 q_Now_2 q_On_2 q_2_2 q_3_2 rest_1)
def ref22_Q_Due_j2 (t : T_api_Tune) (Q : Bool → (List T_api_Asked) → (List (SV × List TrL)) → Int → Bool → Int → Int → (List TrO) → Prop) (ps_2 : List (SV × List TrL)) (q_Now_2 : Int) (q_On_2 : Bool) (q_L_2 : List TrO) (general_1 : Bool) (q_2_2 : Int) (q_3_2 : Int) : Prop :=
 loopW (fun (K_1 : ((List (SV × List TrL)) × List T_api_Asked × List TrO × Int) → Prop) (s : (List (SV × List TrL)) × List T_api_Asked × List TrO × Int) => ref22_Q_Due_l1 t Q q_Now_2 q_On_2 q_L_2 general_1 q_2_2 q_3_2 (fun ps_3 out_1 rest_1 i_1 => K_1 (ps_3, out_1, rest_1, i_1)) s.1 s.2.1 s.2.2.1 s.2.2.2) (ps_2, [], [], 0)
def ref22_Q_Due_j1 (t : T_api_Tune) (Q : Bool → (List T_api_Asked) → (List (SV × List TrL)) → Int → Bool → Int → Int → (List TrO) → Prop) (ps_2 : List (SV × List TrL)) (q_Now_2 : Int) (q_On_2 : Bool) (q_At_2 : Int) (q_First_2 : Int) (q_L_2 : List TrO) (general_1 : Bool) : Prop :=
 (general_1 = true → (I64 (q_First_2 - 1)) ∧ ((I64 (q_Now_2 + t.2.1)) ∧ ((0 < (q_First_2 - 1) → ref14_Gap_W t (fun r_1 => (I64 (q_Now_2 + r_1)) ∧ (ref22_Q_Due_j2 t Q ps_2 q_Now_2 q_On_2 q_L_2 general_1 (q_Now_2 + r_1) (q_First_2 - 1)))) ∧ (¬ (0 < (q_First_2 - 1)) → ref22_Q_Due_j2 t Q ps_2 q_Now_2 q_On_2 q_L_2 general_1 (q_Now_2 + t.2.1) (q_First_2 - 1))))) ∧ (general_1 = false → ref22_Q_Due_j2 t Q ps_2 q_Now_2 q_On_2 q_L_2 general_1 q_At_2 q_First_2)
def ref22_Q_Due_W (q_Now : Int) (q_On : Bool) (q_At : Int) (q_First : Int) (q_L : List TrO) (now : Int) (t : T_api_Tune) (ps : List (SV × List TrL)) (Q : Bool → (List T_api_Asked) → (List (SV × List TrL)) → Int → Bool → Int → Int → (List TrO) → Prop) : Prop :=
 ref22_Q_Settle_W q_Now q_On q_At q_First q_L now ps (fun ps_2 q_Now_2 q_On_2 q_At_2 q_First_2 q_L_2 => (q_On_2 = true → ref22_Q_Due_j1 t Q ps_2 q_Now_2 q_On_2 q_At_2 q_First_2 q_L_2 (decide (q_At_2 ≤ q_Now_2))) ∧ (q_On_2 = false → ref22_Q_Due_j1 t Q ps_2 q_Now_2 q_On_2 q_At_2 q_First_2 q_L_2 false))
theorem ref22_Q_Due_walk {F : Fz} {fr : List Ow} {h0 : Heap} (q_Now : Int) (q_On : Bool) (q_At : Int) (q_First : Int) (q_L : List TrO) (now : Int) (t : T_api_Tune) (ps : List (SV × List TrL)) (bq : Nat) (vq_L : Value) (hS : St F (Ow.box bq 95 #[.int .i64 q_Now, .bool q_On, .int .i64 q_At, .int .i64 q_First, vq_L] :: Ow.own 184 20 erO vq_L q_L :: Ow.pool 190 18 erL ps :: fr) h0)  {Q : Bool → (List T_api_Asked) → (List (SV × List TrL)) → Int → Bool → Int → Int → (List TrO) → Prop} (hM : ref22_Q_Due_W q_Now q_On q_At q_First q_L now t ps Q) :
  HC Tryz.prog 52 #[.pointer (some ⟨bq, 0, none⟩), .int .i64 now, .agg (e_api_Tune t).toArray] h0 fun u h' => ∃ (F' : Fz) (r0_1 : Bool) (r1_1 : List T_api_Asked) (ps_1 : List (SV × List TrL)) (q_Now_1 : Int) (q_On_1 : Bool) (q_At_1 : Int) (q_First_1 : Int) (q_L_1 : List TrO) (vr1_1 : Value) (v_1 : Value), u = .tuple #[.bool r0_1, vr1_1] ∧ Kp F h0 F' h' ∧ St F' (Ow.own 97 19 e_api_Asked vr1_1 r1_1 :: Ow.pool 190 18 erL ps_1 :: Ow.box bq 95 #[.int .i64 q_Now_1, .bool q_On_1, .int .i64 q_At_1, .int .i64 q_First_1, v_1] :: Ow.own 184 20 erO v_1 q_L_1 :: fr) h' ∧ (NfL nf_api_Asked F' h' r1_1) ∧ Q r0_1 r1_1 ps_1 q_Now_1 q_On_1 q_At_1 q_First_1 q_L_1 := by
 unfold ref22_Q_Due_W at hM
 have hK := Kp.refl F h0
 refine HC.of_HW (n := 170) Tryz.func52 rfl rfl (Nat.le_of_ble_eq_true rfl) ?_
 refine HW.seq ?_
 refine HW.region ?_
 refine HO.eff (want_none) rfl (st_box (c := (e_api_Tune t).toArray) (k' := 5) hS rfl rfl) ?_
 rintro _ h_1 ⟨b_1, rfl, hS, hk⟩
 replace hK := hK.trans hk
 refine oA (.bool false) rfl rfl ?_
 refine oA (.slice none 0 0) rfl rfl ?_
 refine HO.nil (thenQ_normal (?_))
 refine HW.seq ?_
 refine HW.region ?_
 refine oM (.pointer (some ⟨bq, 0, none⟩)) rfl rfl ?_
 refine oM (.int .i64 now) rfl rfl ?_
 replace hS : St F (Ow.box bq 95 #[.int .i64 q_Now, .bool q_On, .int .i64 q_At, .int .i64 q_First, vq_L] :: Ow.own 184 20 erO vq_L q_L :: Ow.pool 190 18 erL ps :: Ow.box b_1 56 (e_api_Tune t).toArray :: fr) h_1 := hS.perm2 [1, 2, 3, 0] 4 rfl rfl
 refine HO.call (want_none) rfl (ec en_112 rfl rfl) (ref22_Q_Settle_walk (fr := (Ow.box b_1 56 (e_api_Tune t).toArray :: fr)) q_Now q_On q_At q_First q_L now ps bq vq_L hS hM) ?_
 rintro _ h_2 ⟨F_1, ps_2, q_Now_2, q_On_2, q_At_2, q_First_2, q_L_2, v_2, rfl, hk, hS, hM⟩
 replace hK := hK.trans hk
 refine HO.nil (thenQ_normal (?_))
 refine HW.seq_mid (fun f h => ∃ (F' : Fz) (general_1 : Bool) (vout_1 : Value) (vrest_1 : Value), f 0 = .pointer (some ⟨bq, 0, none⟩) ∧ f 5 = .pointer (some ⟨b_1, 0, none⟩) ∧ f 6 = .bool false ∧ f 7 = .slice none 0 0 ∧ f 8 = .bool general_1 ∧ f 9 = vout_1 ∧ f 10 = vrest_1 ∧ Kp F h0 F' h ∧ St F' (Ow.box bq 95 #[.int .i64 q_Now_2, .bool q_On_2, .int .i64 q_At_2, .int .i64 q_First_2, v_2] :: Ow.own 184 20 erO v_2 q_L_2 :: Ow.pool 190 18 erL ps_2 :: Ow.box b_1 56 (e_api_Tune t).toArray :: Ow.own 97 19 e_api_Asked vout_1 ([] : List T_api_Asked) :: Ow.own 184 20 erO vrest_1 ([] : List TrO) :: fr) h ∧ (NfL nf_api_Asked F' h ([] : List T_api_Asked)) ∧ ref22_Q_Due_j1 t Q ps_2 q_Now_2 q_On_2 q_At_2 q_First_2 q_L_2 general_1) ?_ ?_
 ·
  refine HW.regionA 20 mixed (fun h => (Blk h bq (.cells #[.int .i64 q_Now_2, .bool q_On_2, .int .i64 q_At_2, .int .i64 q_First_2, v_2] 95 (0, 0)))) [] (by kernel_rfl) ?_
  refine HA.val (k := 0) (v := .pointer (some ⟨bq, 0, none⟩)) rfl rfl (by kernel_rfl) (by kernel_rfl) (want_none) rfl (fun _ c1 => q_move rfl) ?_
  refine HA.val (k := 1) (v := .pointer (some ⟨bq, 0, none⟩)) rfl rfl (by kernel_rfl) (by kernel_rfl) (want_none) rfl (fun _ c1 => q_nilCheck rfl) ?_
  refine HA.val (k := 2) (v := .pointer (some ⟨bq, 1, none⟩)) rfl rfl (by kernel_rfl) (by kernel_rfl) (want_none) rfl (fun _ c1 => q_fieldAddr fa_95_1 rfl rfl) ?_
  refine HA.val (k := 3) (v := .bool q_On_2) rfl rfl (by kernel_rfl) (by kernel_rfl) (want_none) rfl (fun _ c1 => q_load to_4 rfl (Blk.cell c1 rfl)) ?_
  refine HA.val (k := 4) (v := .bool q_On_2) rfl rfl (by kernel_rfl) (by kernel_rfl) (want_none) rfl (fun _ c1 => q_move rfl) ?_
  rcases Bool.eq_false_or_eq_true q_On_2 with c_1 | c_1
  ·
   replace hM := hM.1 c_1
   refine HA.val (k := 5) (v := .pointer (some ⟨bq, 0, none⟩)) rfl rfl (by kernel_rfl) (by kernel_rfl) (want_by rfl rfl c_1) rfl (fun _ c1 => q_move rfl) ?_
   refine HA.val (k := 6) (v := .pointer (some ⟨bq, 0, none⟩)) rfl rfl (by kernel_rfl) (by kernel_rfl) (want_by rfl rfl c_1) rfl (fun _ c1 => q_nilCheck rfl) ?_
   refine HA.val (k := 7) (v := .pointer (some ⟨bq, 2, none⟩)) rfl rfl (by kernel_rfl) (by kernel_rfl) (want_by rfl rfl c_1) rfl (fun _ c1 => q_fieldAddr fa_95_2 rfl rfl) ?_
   refine HA.val (k := 8) (v := .int .i64 q_At_2) rfl rfl (by kernel_rfl) (by kernel_rfl) (want_by rfl rfl c_1) rfl (fun _ c1 => q_load to_3 rfl (Blk.cell c1 rfl)) ?_
   refine HA.val (k := 9) (v := .pointer (some ⟨bq, 0, none⟩)) rfl rfl (by kernel_rfl) (by kernel_rfl) (want_by rfl rfl c_1) rfl (fun _ c1 => q_move rfl) ?_
   refine HA.val (k := 10) (v := .pointer (some ⟨bq, 0, none⟩)) rfl rfl (by kernel_rfl) (by kernel_rfl) (want_by rfl rfl c_1) rfl (fun _ c1 => q_nilCheck rfl) ?_
   refine HA.val (k := 11) (v := .pointer (some ⟨bq, 0, none⟩)) rfl rfl (by kernel_rfl) (by kernel_rfl) (want_by rfl rfl c_1) rfl (fun _ c1 => q_fieldAddr fa_95_0 rfl rfl) ?_
   refine HA.val (k := 12) (v := .int .i64 q_Now_2) rfl rfl (by kernel_rfl) (by kernel_rfl) (want_by rfl rfl c_1) rfl (fun _ c1 => q_load to_3 rfl (Blk.cell c1 rfl)) ?_
   refine HA.val (k := 13) (v := .bool (decide (q_At_2 ≤ q_Now_2))) rfl rfl (by kernel_rfl) (by kernel_rfl) (want_by rfl rfl c_1) rfl (fun _ c1 => q_leq rfl rfl) ?_
   refine HA.val (k := 14) (v := .bool (decide (q_At_2 ≤ q_Now_2))) rfl rfl (by kernel_rfl) (by kernel_rfl) (want_none) rfl (fun _ c1 => q_pickK true rfl c_1 rfl) ?_
   refine HA.val (k := 17) (v := .bool (decide (q_At_2 ≤ q_Now_2))) rfl rfl (by kernel_rfl) (by kernel_rfl) (want_none) rfl (fun _ c1 => q_assign rfl) ?_
   refine HA.two (k := 15) (k' := 16) ⟨(hS.box 1 rfl), (Go.Wk.at_nil _ _)⟩ (by kernel_rfl) ?_ ?_
   ·
    refine HS.eff rfl (want_none) rfl (st_litEmpty (α := T_api_Asked) e_api_Asked hS tl_58) ?_
    rintro _ h_3 ⟨b_2, rfl, hS, hk⟩
    replace hK := hK.trans hk
    have hN_3 : NfL nf_api_Asked F_1 h_3 ([] : List T_api_Asked) := NfL.nil _ _ _
    refine HA.val (k := 18) (v := .slice (some ⟨b_2, 0, none⟩) 0 0) rfl rfl (by kernel_rfl) (by kernel_rfl) (want_none) rfl (fun _ c1 => q_assign rfl) ?_
    refine HA.one (k := 16) ⟨(hS.box 2 rfl), (Go.Wk.at_nil _ _)⟩ (by kernel_rfl) ?_
    refine HS.eff rfl (want_none) rfl (st_litEmpty (α := TrO) erO hS tl_93) ?_
    rintro _ h_4 ⟨b_3, rfl, hS, hk⟩
    replace hK := hK.trans hk
    replace hN_3 := hN_3.kp hk
    refine HA.val (k := 19) (v := .slice (some ⟨b_3, 0, none⟩) 0 0) rfl rfl (by kernel_rfl) (by kernel_rfl) (want_none) rfl (fun _ c1 => q_assign rfl) ?_
    refine HA.nil ⟨(hS.box 3 rfl), (Go.Wk.at_nil _ _)⟩ (by kernel_rfl) (thenQ_normal (?_))
    replace hS : St F_1 (Ow.box bq 95 #[.int .i64 q_Now_2, .bool q_On_2, .int .i64 q_At_2, .int .i64 q_First_2, v_2] :: Ow.own 184 20 erO v_2 q_L_2 :: Ow.pool 190 18 erL ps_2 :: Ow.box b_1 56 (e_api_Tune t).toArray :: Ow.own 97 19 e_api_Asked (.slice (some ⟨b_2, 0, none⟩) 0 0) ([] : List T_api_Asked) :: Ow.own 184 20 erO (.slice (some ⟨b_3, 0, none⟩) 0 0) ([] : List TrO) :: fr) h_4 := hS.perm2 [3, 4, 2, 5, 1, 0] 6 rfl rfl
    exact ⟨F_1, decide (q_At_2 ≤ q_Now_2), .slice (some ⟨b_2, 0, none⟩) 0 0, .slice (some ⟨b_3, 0, none⟩) 0 0, rfl, rfl, rfl, rfl, rfl, rfl, rfl, hK, hS, hN_3, hM⟩
   ·
    refine HS.eff rfl (want_none) rfl (st_litEmpty (α := TrO) erO hS tl_93) ?_
    rintro _ h_3 ⟨b_2, rfl, hS, hk⟩
    replace hK := hK.trans hk
    refine HA.one (k := 15) ⟨(hS.box 2 rfl), (Go.Wk.at_nil _ _)⟩ (by kernel_rfl) ?_
    refine HS.eff rfl (want_none) rfl (st_litEmpty (α := T_api_Asked) e_api_Asked hS tl_58) ?_
    rintro _ h_4 ⟨b_3, rfl, hS, hk⟩
    replace hK := hK.trans hk
    have hN_3 : NfL nf_api_Asked F_1 h_4 ([] : List T_api_Asked) := NfL.nil _ _ _
    refine HA.val (k := 18) (v := .slice (some ⟨b_3, 0, none⟩) 0 0) rfl rfl (by kernel_rfl) (by kernel_rfl) (want_none) rfl (fun _ c1 => q_assign rfl) ?_
    refine HA.val (k := 19) (v := .slice (some ⟨b_2, 0, none⟩) 0 0) rfl rfl (by kernel_rfl) (by kernel_rfl) (want_none) rfl (fun _ c1 => q_assign rfl) ?_
    refine HA.nil ⟨(hS.box 3 rfl), (Go.Wk.at_nil _ _)⟩ (by kernel_rfl) (thenQ_normal (?_))
    replace hS : St F_1 (Ow.box bq 95 #[.int .i64 q_Now_2, .bool q_On_2, .int .i64 q_At_2, .int .i64 q_First_2, v_2] :: Ow.own 184 20 erO v_2 q_L_2 :: Ow.pool 190 18 erL ps_2 :: Ow.box b_1 56 (e_api_Tune t).toArray :: Ow.own 97 19 e_api_Asked (.slice (some ⟨b_3, 0, none⟩) 0 0) ([] : List T_api_Asked) :: Ow.own 184 20 erO (.slice (some ⟨b_2, 0, none⟩) 0 0) ([] : List TrO) :: fr) h_4 := hS.perm2 [3, 4, 2, 5, 0, 1] 6 rfl rfl
    exact ⟨F_1, decide (q_At_2 ≤ q_Now_2), .slice (some ⟨b_3, 0, none⟩) 0 0, .slice (some ⟨b_2, 0, none⟩) 0 0, rfl, rfl, rfl, rfl, rfl, rfl, rfl, hK, hS, hN_3, hM⟩
  ·
   replace hM := hM.2 c_1
   refine HA.past (k := 5) rfl rfl (by kernel_rfl) (by kernel_rfl) (past_by rfl rfl c_1) rfl ?_
   refine HA.past (k := 6) rfl rfl (by kernel_rfl) (by kernel_rfl) (past_by rfl rfl c_1) rfl ?_
   refine HA.past (k := 7) rfl rfl (by kernel_rfl) (by kernel_rfl) (past_by rfl rfl c_1) rfl ?_
   refine HA.past (k := 8) rfl rfl (by kernel_rfl) (by kernel_rfl) (past_by rfl rfl c_1) rfl ?_
   refine HA.past (k := 9) rfl rfl (by kernel_rfl) (by kernel_rfl) (past_by rfl rfl c_1) rfl ?_
   refine HA.past (k := 10) rfl rfl (by kernel_rfl) (by kernel_rfl) (past_by rfl rfl c_1) rfl ?_
   refine HA.past (k := 11) rfl rfl (by kernel_rfl) (by kernel_rfl) (past_by rfl rfl c_1) rfl ?_
   refine HA.past (k := 12) rfl rfl (by kernel_rfl) (by kernel_rfl) (past_by rfl rfl c_1) rfl ?_
   refine HA.past (k := 13) rfl rfl (by kernel_rfl) (by kernel_rfl) (past_by rfl rfl c_1) rfl ?_
   refine HA.val (k := 14) (v := .bool false) rfl rfl (by kernel_rfl) (by kernel_rfl) (want_none) rfl (fun _ c1 => q_pickK false rfl c_1 rfl) ?_
   refine HA.val (k := 17) (v := .bool false) rfl rfl (by kernel_rfl) (by kernel_rfl) (want_none) rfl (fun _ c1 => q_assign rfl) ?_
   refine HA.two (k := 15) (k' := 16) ⟨(hS.box 1 rfl), (Go.Wk.at_nil _ _)⟩ (by kernel_rfl) ?_ ?_
   ·
    refine HS.eff rfl (want_none) rfl (st_litEmpty (α := T_api_Asked) e_api_Asked hS tl_58) ?_
    rintro _ h_5 ⟨b_4, rfl, hS, hk⟩
    replace hK := hK.trans hk
    have hN_4 : NfL nf_api_Asked F_1 h_5 ([] : List T_api_Asked) := NfL.nil _ _ _
    refine HA.val (k := 18) (v := .slice (some ⟨b_4, 0, none⟩) 0 0) rfl rfl (by kernel_rfl) (by kernel_rfl) (want_none) rfl (fun _ c1 => q_assign rfl) ?_
    refine HA.one (k := 16) ⟨(hS.box 2 rfl), (Go.Wk.at_nil _ _)⟩ (by kernel_rfl) ?_
    refine HS.eff rfl (want_none) rfl (st_litEmpty (α := TrO) erO hS tl_93) ?_
    rintro _ h_6 ⟨b_5, rfl, hS, hk⟩
    replace hK := hK.trans hk
    replace hN_4 := hN_4.kp hk
    refine HA.val (k := 19) (v := .slice (some ⟨b_5, 0, none⟩) 0 0) rfl rfl (by kernel_rfl) (by kernel_rfl) (want_none) rfl (fun _ c1 => q_assign rfl) ?_
    refine HA.nil ⟨(hS.box 3 rfl), (Go.Wk.at_nil _ _)⟩ (by kernel_rfl) (thenQ_normal (?_))
    replace hS : St F_1 (Ow.box bq 95 #[.int .i64 q_Now_2, .bool q_On_2, .int .i64 q_At_2, .int .i64 q_First_2, v_2] :: Ow.own 184 20 erO v_2 q_L_2 :: Ow.pool 190 18 erL ps_2 :: Ow.box b_1 56 (e_api_Tune t).toArray :: Ow.own 97 19 e_api_Asked (.slice (some ⟨b_4, 0, none⟩) 0 0) ([] : List T_api_Asked) :: Ow.own 184 20 erO (.slice (some ⟨b_5, 0, none⟩) 0 0) ([] : List TrO) :: fr) h_6 := hS.perm2 [3, 4, 2, 5, 1, 0] 6 rfl rfl
    exact ⟨F_1, false, .slice (some ⟨b_4, 0, none⟩) 0 0, .slice (some ⟨b_5, 0, none⟩) 0 0, rfl, rfl, rfl, rfl, rfl, rfl, rfl, hK, hS, hN_4, hM⟩
   ·
    refine HS.eff rfl (want_none) rfl (st_litEmpty (α := TrO) erO hS tl_93) ?_
    rintro _ h_5 ⟨b_4, rfl, hS, hk⟩
    replace hK := hK.trans hk
    refine HA.one (k := 15) ⟨(hS.box 2 rfl), (Go.Wk.at_nil _ _)⟩ (by kernel_rfl) ?_
    refine HS.eff rfl (want_none) rfl (st_litEmpty (α := T_api_Asked) e_api_Asked hS tl_58) ?_
    rintro _ h_6 ⟨b_5, rfl, hS, hk⟩
    replace hK := hK.trans hk
    have hN_4 : NfL nf_api_Asked F_1 h_6 ([] : List T_api_Asked) := NfL.nil _ _ _
    refine HA.val (k := 18) (v := .slice (some ⟨b_5, 0, none⟩) 0 0) rfl rfl (by kernel_rfl) (by kernel_rfl) (want_none) rfl (fun _ c1 => q_assign rfl) ?_
    refine HA.val (k := 19) (v := .slice (some ⟨b_4, 0, none⟩) 0 0) rfl rfl (by kernel_rfl) (by kernel_rfl) (want_none) rfl (fun _ c1 => q_assign rfl) ?_
    refine HA.nil ⟨(hS.box 3 rfl), (Go.Wk.at_nil _ _)⟩ (by kernel_rfl) (thenQ_normal (?_))
    replace hS : St F_1 (Ow.box bq 95 #[.int .i64 q_Now_2, .bool q_On_2, .int .i64 q_At_2, .int .i64 q_First_2, v_2] :: Ow.own 184 20 erO v_2 q_L_2 :: Ow.pool 190 18 erL ps_2 :: Ow.box b_1 56 (e_api_Tune t).toArray :: Ow.own 97 19 e_api_Asked (.slice (some ⟨b_5, 0, none⟩) 0 0) ([] : List T_api_Asked) :: Ow.own 184 20 erO (.slice (some ⟨b_4, 0, none⟩) 0 0) ([] : List TrO) :: fr) h_6 := hS.perm2 [3, 4, 2, 5, 0, 1] 6 rfl rfl
    exact ⟨F_1, false, .slice (some ⟨b_5, 0, none⟩) 0 0, .slice (some ⟨b_4, 0, none⟩) 0 0, rfl, rfl, rfl, rfl, rfl, rfl, rfl, hK, hS, hN_4, hM⟩
 ·
  rintro f_1 h_7 ⟨F_2, general_1, vout_1, vrest_1, e0, e5, e6, e7, e8, e9, e10, hK, hS, hN_2, hM⟩
  unfold ref22_Q_Due_j1 at hM
  refine HW.fr [(0, .pointer (some ⟨bq, 0, none⟩)), (5, .pointer (some ⟨b_1, 0, none⟩)), (6, .bool false), (7, .slice none 0 0), (8, .bool general_1), (9, vout_1), (10, vrest_1)] ⟨e0, e5, e6, e7, e8, e9, e10, trivial⟩ ?_
  refine HW.seq_mid (fun f h => ∃ (F' : Fz) (q_2_2 : Int) (q_3_2 : Int), f 0 = .pointer (some ⟨bq, 0, none⟩) ∧ f 5 = .pointer (some ⟨b_1, 0, none⟩) ∧ f 6 = .bool false ∧ f 7 = .slice none 0 0 ∧ f 8 = .bool general_1 ∧ f 9 = vout_1 ∧ f 10 = vrest_1 ∧ Kp F h0 F' h ∧ St F' (Ow.box bq 95 #[.int .i64 q_Now_2, .bool q_On_2, .int .i64 q_2_2, .int .i64 q_3_2, v_2] :: Ow.own 184 20 erO v_2 q_L_2 :: Ow.pool 190 18 erL ps_2 :: Ow.box b_1 56 (e_api_Tune t).toArray :: Ow.own 97 19 e_api_Asked vout_1 ([] : List T_api_Asked) :: Ow.own 184 20 erO vrest_1 ([] : List TrO) :: fr) h ∧ (NfL nf_api_Asked F' h ([] : List T_api_Asked)) ∧ ref22_Q_Due_j2 t Q ps_2 q_Now_2 q_On_2 q_L_2 general_1 q_2_2 q_3_2) ?_ ?_
  ·
   refine HW.seq ?_
   refine HW.region ?_
   refine oM (.bool general_1) rfl rfl ?_
   refine HO.nil (thenQ_normal (?_))
   refine HW.cond general_1 rfl (fun c_2 => ?_) (fun c_2 => ?_)
   ·
    replace hM := hM.1 c_2
    refine HW.seq ?_
    refine HW.region ?_
    refine oM (.pointer (some ⟨bq, 0, none⟩)) rfl rfl ?_
    refine oM (.pointer (some ⟨bq, 0, none⟩)) rfl rfl ?_
    refine oV (.pointer (some ⟨bq, 0, none⟩)) (q_nilCheck rfl) rfl ?_
    refine oV (.pointer (some ⟨bq, 3, none⟩)) (q_fieldAddr fa_95_3 rfl rfl) rfl ?_
    refine oV (.int .i64 q_First_2) (q_load to_3 rfl (Blk.cell (hS.box 0 rfl) rfl)) rfl ?_
    obtain ⟨ho_1, hM⟩ := hM
    refine oV (.int .i64 (q_First_2 - 1)) (q_subN _ rfl rfl rfl ho_1.1 ho_1.2) rfl ?_
    refine oV (.pointer (some ⟨bq, 0, none⟩)) (q_nilCheck rfl) rfl ?_
    refine oV (.pointer (some ⟨bq, 3, none⟩)) (q_fieldAddr fa_95_3 rfl rfl) rfl ?_
    refine HO.sto (want_none) rfl (st_store (c' := #[.int .i64 q_Now_2, .bool q_On_2, .int .i64 q_At_2, .int .i64 (q_First_2 - 1), v_2]) hS (i := 0) rfl to_3 rfl rfl rfl rfl (Nat.le_of_ble_eq_true rfl) rfl) ?_
    rintro h_8 ⟨hS, hk⟩
    replace hK := hK.trans hk
    replace hN_2 := hN_2.kp hk
    refine HO.nil (thenQ_normal (?_))
    refine HW.seq ?_
    refine HW.regionA 11 mixed (fun h => (Blk h b_1 (.cells (e_api_Tune t).toArray 56 (0, 0)))) [(10, fun h => (Blk h bq (.cells #[.int .i64 q_Now_2, .bool q_On_2, .int .i64 q_At_2, .int .i64 (q_First_2 - 1), v_2] 95 (0, 0))))] (by kernel_rfl) ?_
    refine HA.val (k := 0) (v := .pointer (some ⟨bq, 0, none⟩)) rfl rfl (by kernel_rfl) (by kernel_rfl) (want_none) rfl (fun _ c214 => q_move rfl) ?_
    refine HA.val (k := 1) (v := .pointer (some ⟨bq, 0, none⟩)) rfl rfl (by kernel_rfl) (by kernel_rfl) (want_none) rfl (fun _ c214 => q_move rfl) ?_
    refine HA.val (k := 2) (v := .pointer (some ⟨bq, 0, none⟩)) rfl rfl (by kernel_rfl) (by kernel_rfl) (want_none) rfl (fun _ c214 => q_nilCheck rfl) ?_
    refine HA.val (k := 3) (v := .pointer (some ⟨bq, 0, none⟩)) rfl rfl (by kernel_rfl) (by kernel_rfl) (want_none) rfl (fun _ c214 => q_fieldAddr fa_95_0 rfl rfl) ?_
    refine Go.Wk.HA.valN (k := 4) (v := .int .i64 q_Now_2) 0 10 (fun h => (Blk h bq (.cells #[.int .i64 q_Now_2, .bool q_On_2, .int .i64 q_At_2, .int .i64 (q_First_2 - 1), v_2] 95 (0, 0)))) rfl rfl (by kernel_rfl) (by kernel_rfl) (want_none) rfl rfl (by kernel_rfl) (fun _ c214 c211 => q_load to_3 rfl (Blk.cell c211 rfl)) ?_
    refine HA.val (k := 5) (v := .pointer (some ⟨b_1, 1, none⟩)) rfl rfl (by kernel_rfl) (by kernel_rfl) (want_none) rfl (fun _ c214 => q_fieldAddr fa_56_1 rfl rfl) ?_
    refine HA.val (k := 6) (v := .int .i64 t.2.1) rfl rfl (by kernel_rfl) (by kernel_rfl) (want_none) rfl (fun _ c214 => q_load to_3 rfl (Blk.cell c214 rfl)) ?_
    obtain ⟨ho_2, hM⟩ := hM
    refine HA.val (k := 7) (v := .int .i64 (q_Now_2 + t.2.1)) rfl rfl (by kernel_rfl) (by kernel_rfl) (want_none) rfl (fun _ c214 => q_addN _ rfl rfl rfl ho_2.1 ho_2.2) ?_
    refine HA.val (k := 8) (v := .pointer (some ⟨bq, 0, none⟩)) rfl rfl (by kernel_rfl) (by kernel_rfl) (want_none) rfl (fun _ c214 => q_nilCheck rfl) ?_
    refine HA.val (k := 9) (v := .pointer (some ⟨bq, 2, none⟩)) rfl rfl (by kernel_rfl) (by kernel_rfl) (want_none) rfl (fun _ c214 => q_fieldAddr fa_95_2 rfl rfl) ?_
    refine HA.one (k := 10) ⟨(hS.box 3 rfl), (at_now (hS.box 0 rfl) (Go.Wk.at_nil _ _))⟩ (by kernel_rfl) ?_
    refine HS.sto rfl (want_none) rfl (st_store (c' := #[.int .i64 q_Now_2, .bool q_On_2, .int .i64 (q_Now_2 + t.2.1), .int .i64 (q_First_2 - 1), v_2]) hS (i := 0) rfl to_3 rfl rfl rfl rfl (Nat.le_of_ble_eq_true rfl) rfl) ?_
    rintro h_9 ⟨hS, hk⟩
    replace hK := hK.trans hk
    replace hN_2 := hN_2.kp hk
    refine HA.nil ⟨(hS.box 3 rfl), (at_done (by kernel_rfl) (Go.Wk.at_nil _ _))⟩ (by kernel_rfl) (thenQ_normal (?_))
    refine HW.seq ?_
    refine HW.region ?_
    refine oM (.pointer (some ⟨bq, 0, none⟩)) rfl rfl ?_
    refine oV (.pointer (some ⟨bq, 0, none⟩)) (q_nilCheck rfl) rfl ?_
    refine oV (.pointer (some ⟨bq, 3, none⟩)) (q_fieldAddr fa_95_3 rfl rfl) rfl ?_
    refine oV (.int .i64 (q_First_2 - 1)) (q_load to_3 rfl (Blk.cell (hS.box 0 rfl) rfl)) rfl ?_
    refine oV (.bool (decide (0 < (q_First_2 - 1)))) (q_gtr rfl rfl) rfl ?_
    refine HO.nil (thenQ_normal (?_))
    refine HW.cond (decide (0 < (q_First_2 - 1))) rfl (fun c_3 => ?_) (fun c_3 => ?_)
    ·
     replace hM := hM.1 (of_decide_eq_true c_3)
     refine HW.regionA 11 mixed (fun h => (Blk h b_1 (.cells (e_api_Tune t).toArray 56 (0, 0)))) [(10, fun h => (Blk h bq (.cells #[.int .i64 q_Now_2, .bool q_On_2, .int .i64 (q_Now_2 + t.2.1), .int .i64 (q_First_2 - 1), v_2] 95 (0, 0))))] (by kernel_rfl) ?_
     refine HA.val (k := 0) (v := .pointer (some ⟨bq, 0, none⟩)) rfl rfl (by kernel_rfl) (by kernel_rfl) (want_none) rfl (fun _ c214 => q_move rfl) ?_
     refine HA.val (k := 1) (v := .pointer (some ⟨bq, 0, none⟩)) rfl rfl (by kernel_rfl) (by kernel_rfl) (want_none) rfl (fun _ c214 => q_move rfl) ?_
     refine HA.val (k := 2) (v := .pointer (some ⟨bq, 0, none⟩)) rfl rfl (by kernel_rfl) (by kernel_rfl) (want_none) rfl (fun _ c214 => q_nilCheck rfl) ?_
     refine HA.val (k := 3) (v := .pointer (some ⟨bq, 0, none⟩)) rfl rfl (by kernel_rfl) (by kernel_rfl) (want_none) rfl (fun _ c214 => q_fieldAddr fa_95_0 rfl rfl) ?_
     refine Go.Wk.HA.valN (k := 4) (v := .int .i64 q_Now_2) 0 10 (fun h => (Blk h bq (.cells #[.int .i64 q_Now_2, .bool q_On_2, .int .i64 (q_Now_2 + t.2.1), .int .i64 (q_First_2 - 1), v_2] 95 (0, 0)))) rfl rfl (by kernel_rfl) (by kernel_rfl) (want_none) rfl rfl (by kernel_rfl) (fun _ c214 c211 => q_load to_3 rfl (Blk.cell c211 rfl)) ?_
     refine HA.val (k := 5) (v := .agg (e_api_Tune t).toArray) rfl rfl (by kernel_rfl) (by kernel_rfl) (want_none) rfl (fun _ c214 => q_loadAgg (cs := (e_api_Tune t)) ta_56 rfl rfl (Blk.cells (k := 5) c214 rfl)) ?_
     refine HA.one (k := 6) ⟨(hS.box 3 rfl), (at_now (hS.box 0 rfl) (Go.Wk.at_nil _ _))⟩ (by kernel_rfl) ?_
     refine HS.call rfl (want_none) rfl (ec en_127 rfl rfl) (ref14_Gap_walk (fr := (Ow.box bq 95 #[.int .i64 q_Now_2, .bool q_On_2, .int .i64 (q_Now_2 + t.2.1), .int .i64 (q_First_2 - 1), v_2] :: Ow.own 184 20 erO v_2 q_L_2 :: Ow.pool 190 18 erL ps_2 :: Ow.box b_1 56 (e_api_Tune t).toArray :: Ow.own 97 19 e_api_Asked vout_1 ([] : List T_api_Asked) :: Ow.own 184 20 erO vrest_1 ([] : List TrO) :: fr)) t hS hM) ?_
     rintro _ h_10 ⟨F_3, r_1, rfl, hk, hS, hM⟩
     replace hK := hK.trans hk
     replace hN_2 := hN_2.kp hk
     obtain ⟨ho_3, hM⟩ := hM
     refine HA.val (k := 7) (v := .int .i64 (q_Now_2 + r_1)) rfl rfl (by kernel_rfl) (by kernel_rfl) (want_none) rfl (fun _ c214 => q_addN _ rfl rfl rfl ho_3.1 ho_3.2) ?_
     refine HA.val (k := 8) (v := .pointer (some ⟨bq, 0, none⟩)) rfl rfl (by kernel_rfl) (by kernel_rfl) (want_none) rfl (fun _ c214 => q_nilCheck rfl) ?_
     refine HA.val (k := 9) (v := .pointer (some ⟨bq, 2, none⟩)) rfl rfl (by kernel_rfl) (by kernel_rfl) (want_none) rfl (fun _ c214 => q_fieldAddr fa_95_2 rfl rfl) ?_
     refine HA.one (k := 10) ⟨(hS.box 3 rfl), (at_now (hS.box 0 rfl) (Go.Wk.at_nil _ _))⟩ (by kernel_rfl) ?_
     refine HS.sto rfl (want_none) rfl (st_store (c' := #[.int .i64 q_Now_2, .bool q_On_2, .int .i64 (q_Now_2 + r_1), .int .i64 (q_First_2 - 1), v_2]) hS (i := 0) rfl to_3 rfl rfl rfl rfl (Nat.le_of_ble_eq_true rfl) rfl) ?_
     rintro h_11 ⟨hS, hk⟩
     replace hK := hK.trans hk
     replace hN_2 := hN_2.kp hk
     refine HA.nil ⟨(hS.box 3 rfl), (at_done (by kernel_rfl) (Go.Wk.at_nil _ _))⟩ (by kernel_rfl) (thenQ_normal (?_))
     exact ⟨F_3, q_Now_2 + r_1, q_First_2 - 1, rfl, rfl, rfl, rfl, rfl, rfl, rfl, hK, hS, hN_2, hM⟩
    ·
     replace hM := hM.2 (of_decide_eq_false c_3)
     refine HW.skip (thenQ_normal (?_))
     exact ⟨F_2, q_Now_2 + t.2.1, q_First_2 - 1, rfl, rfl, rfl, rfl, rfl, rfl, rfl, hK, hS, hN_2, hM⟩
   ·
    replace hM := hM.2 c_2
    refine HW.skip (thenQ_normal (?_))
    exact ⟨F_2, q_At_2, q_First_2, rfl, rfl, rfl, rfl, rfl, rfl, rfl, hK, hS, hN_2, hM⟩
  ·
   rintro f_2 h_12 ⟨F_4, q_2_2, q_3_2, e0, e5, e6, e7, e8, e9, e10, hK, hS, hN_2, hM⟩
   unfold ref22_Q_Due_j2 at hM
   refine HW.fr [(0, .pointer (some ⟨bq, 0, none⟩)), (5, .pointer (some ⟨b_1, 0, none⟩)), (6, .bool false), (7, .slice none 0 0), (8, .bool general_1), (9, vout_1), (10, vrest_1)] ⟨e0, e5, e6, e7, e8, e9, e10, trivial⟩ ?_
   refine HW.seq ?_
   refine HW.seq ?_
   refine HW.region ?_
   refine oA (.int .i64 0) rfl rfl ?_
   refine HO.nil (thenQ_normal (?_))
   refine HW.block ?_
   obtain ⟨I_1, m_1, hI_1, hR_1⟩ := hM
   refine HW.loop (S := (List (SV × List TrL)) × List T_api_Asked × List TrO × Int) (fun s f h => match s with | (ps_3, out_1, rest_1, i_1) => ∃ (F' : Fz) (vout_2 : Value) (vrest_2 : Value), f 0 = .pointer (some ⟨bq, 0, none⟩) ∧ f 5 = .pointer (some ⟨b_1, 0, none⟩) ∧ f 6 = .bool false ∧ f 7 = .slice none 0 0 ∧ f 8 = .bool general_1 ∧ f 9 = vout_2 ∧ f 10 = vrest_2 ∧ f 11 = .int .i64 i_1 ∧ Kp F h0 F' h ∧ St F' (Ow.box bq 95 #[.int .i64 q_Now_2, .bool q_On_2, .int .i64 q_2_2, .int .i64 q_3_2, v_2] :: Ow.own 184 20 erO v_2 q_L_2 :: Ow.pool 190 18 erL ps_3 :: Ow.box b_1 56 (e_api_Tune t).toArray :: Ow.own 97 19 e_api_Asked vout_2 out_1 :: Ow.own 184 20 erO vrest_2 rest_1 :: fr) h ∧ (NfL nf_api_Asked F' h ([] : List T_api_Asked)) ∧ (NfL nf_api_Asked F' h out_1) ∧ I_1 (ps_3, out_1, rest_1, i_1)) m_1 (ps_2, [], [], 0) ⟨F_4, vout_1, vrest_1, rfl, rfl, rfl, rfl, rfl, rfl, rfl, rfl, hK, hS, hN_2, hN_2, hI_1⟩ ?_
   rintro ⟨ps_3, out_1, rest_1, i_1⟩ f_3 h_13 ⟨F_5, vout_2, vrest_2, e0, e5, e6, e7, e8, e9, e10, e11, hK, hS, hN_2, hN_5, hI0⟩
   obtain ⟨K_1, hKe_1⟩ : ∃ K : (List (SV × List TrL)) → (List T_api_Asked) → (List TrO) → Int → Prop, K = fun ps_3' out_1' rest_1' i_1' => I_1 (ps_3', out_1', rest_1', i_1') ∧ m_1 (ps_3', out_1', rest_1', i_1') < m_1 (ps_3, out_1, rest_1, i_1) := ⟨_, rfl⟩
   have hM : ref22_Q_Due_l1 t Q q_Now_2 q_On_2 q_L_2 general_1 q_2_2 q_3_2 K_1 ps_3 out_1 rest_1 i_1 := by rw [hKe_1]; exact hR_1 (ps_3, out_1, rest_1, i_1) hI0
   unfold ref22_Q_Due_l1 at hM
   refine HW.fr [(0, .pointer (some ⟨bq, 0, none⟩)), (5, .pointer (some ⟨b_1, 0, none⟩)), (6, .bool false), (7, .slice none 0 0), (8, .bool general_1), (9, vout_2), (10, vrest_2), (11, .int .i64 i_1)] ⟨e0, e5, e6, e7, e8, e9, e10, e11, trivial⟩ ?_
   refine HW.seq ?_
   refine HW.seq ?_
   refine HW.region ?_
   refine oM (.int .i64 i_1) rfl rfl ?_
   refine oM (.pointer (some ⟨bq, 0, none⟩)) rfl rfl ?_
   refine oV (.pointer (some ⟨bq, 0, none⟩)) (q_nilCheck rfl) rfl ?_
   refine oV (.pointer (some ⟨bq, 4, none⟩)) (q_fieldAddr fa_95_4 rfl rfl) rfl ?_
   refine oV (v_2) (q_load to_93 rfl (Blk.cell (hS.box 0 rfl) rfl)) rfl ?_
   refine oV (.int .i64 (q_L_2.length : Int)) (q_len ts_93 (shp (hS.own 1 rfl).slice) rfl rfl) rfl ?_
   refine oV (.bool (decide (i_1 < (q_L_2.length : Int)))) (q_lss rfl rfl) rfl ?_
   refine HO.nil (thenQ_normal (?_))
   refine HW.cond (decide (i_1 < (q_L_2.length : Int))) rfl (fun c_4 => ?_) (fun c_4 => ?_)
   ·
    replace hM := hM.1 (of_decide_eq_true c_4)
    refine HW.skip (thenQ_normal (?_))
    refine HW.seq ?_
    refine HW.block ?_
    refine HW.seq ?_
    refine HW.region ?_
    refine oM (.pointer (some ⟨bq, 0, none⟩)) rfl rfl ?_
    refine oV (.pointer (some ⟨bq, 0, none⟩)) (q_nilCheck rfl) rfl ?_
    refine oV (.pointer (some ⟨bq, 4, none⟩)) (q_fieldAddr fa_95_4 rfl rfl) rfl ?_
    refine oV (v_2) (q_load to_93 rfl (Blk.cell (hS.box 0 rfl) rfl)) rfl ?_
    refine oM (.int .i64 i_1) rfl rfl ?_
    obtain ⟨ho_4, hM⟩ := hM
    refine oV (elemPtr 20 v_2 (i_1).toNat) (q_idx ts_93 (hS.own 1 rfl).slice rfl rfl ho_4) rfl ?_
    refine oV (.agg (c_acequiaref22_One ((gi q_L_2 i_1).1) (.int .i64 ((gi q_L_2 i_1).2.1)) (.int .i64 ((gi q_L_2 i_1).2.2.1)) (svV ((gi q_L_2 i_1).2.2.2).1)).toArray) (q_ldElemAgg (cs := (c_acequiaref22_One ((gi q_L_2 i_1).1) (.int .i64 ((gi q_L_2 i_1).2.1)) (.int .i64 ((gi q_L_2 i_1).2.2.1)) (svV ((gi q_L_2 i_1).2.2.2).1))) ta_184 (hS.own 1 rfl).slice rfl ho_4 rfl) rfl ?_
    refine HO.eff (want_none) rfl (st_alloc (c := (c_acequiaref22_One (false, (default : Ba 16)) (.int .i64 0) (.int .i64 0) (.slice none 0 0)).toArray) hS tz_184 rfl) ?_
    rintro _ h_14 ⟨b_6, rfl, hS, hk⟩
    replace hK := hK.trans hk
    replace hN_2 := hN_2.kp hk
    replace hN_5 := hN_5.kp hk
    refine HO.sto (want_none) rfl (st_storeAgg (c' := (c_acequiaref22_One ((gi q_L_2 i_1).1) (.int .i64 ((gi q_L_2 i_1).2.1)) (.int .i64 ((gi q_L_2 i_1).2.2.1)) (svV ((gi q_L_2 i_1).2.2.2).1)).toArray) hS (i := 0) rfl ta_184 rfl rfl rfl (List.forall_mem_cons.2 ⟨rfl, (List.forall_mem_cons.2 ⟨rfl, (List.forall_mem_cons.2 ⟨rfl, (List.forall_mem_cons.2 ⟨rfl, (List.forall_mem_cons.2 ⟨rfl, (List.forall_mem_cons.2 ⟨rfl, (List.forall_mem_cons.2 ⟨rfl, (List.forall_mem_cons.2 ⟨rfl, (List.forall_mem_cons.2 ⟨rfl, (List.forall_mem_cons.2 ⟨rfl, (List.forall_mem_cons.2 ⟨rfl, (List.forall_mem_cons.2 ⟨rfl, (List.forall_mem_cons.2 ⟨rfl, (List.forall_mem_cons.2 ⟨rfl, (List.forall_mem_cons.2 ⟨rfl, (List.forall_mem_cons.2 ⟨rfl, (List.forall_mem_cons.2 ⟨rfl, (List.forall_mem_cons.2 ⟨rfl, (List.forall_mem_cons.2 ⟨rfl, (List.forall_mem_cons.2 ⟨(svShp _).one, (fun _ h => by cases h)⟩)⟩)⟩)⟩)⟩)⟩)⟩)⟩)⟩)⟩)⟩)⟩)⟩)⟩)⟩)⟩)⟩)⟩)⟩)⟩) (Nat.le_of_ble_eq_true rfl) rfl) ?_
    rintro h_15 ⟨hS, hk⟩
    replace hK := hK.trans hk
    replace hN_2 := hN_2.kp hk
    replace hN_5 := hN_5.kp hk
    refine HO.nil (thenQ_normal (?_))
    refine HW.seq ?_
    refine HW.seq ?_
    refine HW.regionA 7 mixed (fun h => (NfI nf_api_Asked h ([] : List T_api_Asked)) ∧ (NfI nf_api_Asked h out_1) ∧ (Blk h b_6 (.cells (c_acequiaref22_One ((gi q_L_2 i_1).1) (.int .i64 ((gi q_L_2 i_1).2.1)) (.int .i64 ((gi q_L_2 i_1).2.2.1)) (svV ((gi q_L_2 i_1).2.2.2).1)).toArray 184 (0, 0))) ∧ (Blk h bq (.cells #[.int .i64 q_Now_2, .bool q_On_2, .int .i64 q_2_2, .int .i64 q_3_2, v_2] 95 (0, 0))) ∧ (OwnIs h 0 184 20 erO v_2 q_L_2) ∧ (PoolIs h 190 18 erL ps_3) ∧ (Blk h b_1 (.cells (e_api_Tune t).toArray 56 (0, 0))) ∧ (OwnIs h 0 97 19 e_api_Asked vout_2 out_1) ∧ (OwnIs h 0 184 20 erO vrest_2 rest_1)) [] (by kernel_rfl) ?_
    refine HA.val (k := 0) (v := .pointer (some ⟨b_6, 17, none⟩)) rfl rfl (by kernel_rfl) (by kernel_rfl) (want_none) rfl (fun _ ⟨hN_2, hN_5, c329, c323, c324, c325, c326, c327, c328⟩ => q_fieldAddr fa_184_1 rfl rfl) ?_
    refine HA.val (k := 1) (v := .int .i64 ((gi q_L_2 i_1).2.1)) rfl rfl (by kernel_rfl) (by kernel_rfl) (want_none) rfl (fun _ ⟨hN_2, hN_5, c329, c323, c324, c325, c326, c327, c328⟩ => q_load to_3 rfl (Blk.cell c329 rfl)) ?_
    refine HA.val (k := 2) (v := .pointer (some ⟨bq, 0, none⟩)) rfl rfl (by kernel_rfl) (by kernel_rfl) (want_none) rfl (fun _ ⟨hN_2, hN_5, c329, c323, c324, c325, c326, c327, c328⟩ => q_move rfl) ?_
    refine HA.val (k := 3) (v := .pointer (some ⟨bq, 0, none⟩)) rfl rfl (by kernel_rfl) (by kernel_rfl) (want_none) rfl (fun _ ⟨hN_2, hN_5, c329, c323, c324, c325, c326, c327, c328⟩ => q_nilCheck rfl) ?_
    refine HA.val (k := 4) (v := .pointer (some ⟨bq, 0, none⟩)) rfl rfl (by kernel_rfl) (by kernel_rfl) (want_none) rfl (fun _ ⟨hN_2, hN_5, c329, c323, c324, c325, c326, c327, c328⟩ => q_fieldAddr fa_95_0 rfl rfl) ?_
    refine HA.val (k := 5) (v := .int .i64 q_Now_2) rfl rfl (by kernel_rfl) (by kernel_rfl) (want_none) rfl (fun _ ⟨hN_2, hN_5, c329, c323, c324, c325, c326, c327, c328⟩ => q_load to_3 rfl (Blk.cell c323 rfl)) ?_
    refine HA.val (k := 6) (v := .bool (decide (q_Now_2 < ((gi q_L_2 i_1).2.1)))) rfl rfl (by kernel_rfl) (by kernel_rfl) (want_none) rfl (fun _ ⟨hN_2, hN_5, c329, c323, c324, c325, c326, c327, c328⟩ => q_gtr rfl rfl) ?_
    refine HA.nil ⟨⟨hN_2.is, hN_5.is, (hS.box 0 rfl), (hS.box 1 rfl), (hS.own 2 rfl), (hS.pl 3 rfl), (hS.box 4 rfl), (hS.own 5 rfl), (hS.own 6 rfl)⟩, (Go.Wk.at_nil _ _)⟩ (by kernel_rfl) (thenQ_normal (?_))
    refine HW.cond (decide (q_Now_2 < ((gi q_L_2 i_1).2.1))) rfl (fun c_5 => ?_) (fun c_5 => ?_)
    ·
     replace hM := hM.1 (of_decide_eq_true c_5)
     refine HW.seq ?_
     refine HW.region ?_
     refine oM (vrest_2) rfl rfl ?_
     refine oV (.agg (c_acequiaref22_One ((gi q_L_2 i_1).1) (.int .i64 ((gi q_L_2 i_1).2.1)) (.int .i64 ((gi q_L_2 i_1).2.2.1)) (svV ((gi q_L_2 i_1).2.2.2).1)).toArray) (q_loadAgg (cs := (c_acequiaref22_One ((gi q_L_2 i_1).1) (.int .i64 ((gi q_L_2 i_1).2.1)) (.int .i64 ((gi q_L_2 i_1).2.2.1)) (svV ((gi q_L_2 i_1).2.2.2).1))) ta_184 rfl rfl (Blk.cells (k := 20) (hS.box 0 rfl) rfl)) rfl ?_
     refine HO.eff (want_none) rfl (st_lit (enc := erO) (cells := #[.bool (((gi q_L_2 i_1).1).1), .int .u8 (b8 (((gi q_L_2 i_1).1).2) 0), .int .u8 (b8 (((gi q_L_2 i_1).1).2) 1), .int .u8 (b8 (((gi q_L_2 i_1).1).2) 2), .int .u8 (b8 (((gi q_L_2 i_1).1).2) 3), .int .u8 (b8 (((gi q_L_2 i_1).1).2) 4), .int .u8 (b8 (((gi q_L_2 i_1).1).2) 5), .int .u8 (b8 (((gi q_L_2 i_1).1).2) 6), .int .u8 (b8 (((gi q_L_2 i_1).1).2) 7), .int .u8 (b8 (((gi q_L_2 i_1).1).2) 8), .int .u8 (b8 (((gi q_L_2 i_1).1).2) 9), .int .u8 (b8 (((gi q_L_2 i_1).1).2) 10), .int .u8 (b8 (((gi q_L_2 i_1).1).2) 11), .int .u8 (b8 (((gi q_L_2 i_1).1).2) 12), .int .u8 (b8 (((gi q_L_2 i_1).1).2) 13), .int .u8 (b8 (((gi q_L_2 i_1).1).2) 14), .int .u8 (b8 (((gi q_L_2 i_1).1).2) 15), .int .i64 ((gi q_L_2 i_1).2.1), .int .i64 ((gi q_L_2 i_1).2.2.1), svV ((gi q_L_2 i_1).2.2.2).1]) #[.bool false, .int .u8 0, .int .u8 0, .int .u8 0, .int .u8 0, .int .u8 0, .int .u8 0, .int .u8 0, .int .u8 0, .int .u8 0, .int .u8 0, .int .u8 0, .int .u8 0, .int .u8 0, .int .u8 0, .int .u8 0, .int .u8 0, .int .i64 0, .int .i64 0, .slice none 0 0] ([(((gi q_L_2 i_1).1), (gi q_L_2 i_1).2.1, (gi q_L_2 i_1).2.2.1, ((gi q_L_2 i_1).2.2.2))] : List TrO) hS tl_93 (by decide) (by decide) (by kernel_rfl) (by kernel_rfl) rfl (by intro x hx; rfl) rfl) ?_
     rintro _ h_16 ⟨b_7, rfl, hS, hk⟩
     replace hK := hK.trans hk
     replace hN_2 := hN_2.kp hk
     replace hN_5 := hN_5.kp hk
     obtain ⟨ho_5, hM⟩ := hM
     refine HO.eff (want_none) rfl (st_append te_93 hS (i := 7) rfl (hS.own 0 rfl).slice rfl rfl rfl (by intro a _ u hu; simp [erO, encI, encN, encB, encT] at hu; rcases hu with rfl | rfl | rfl | rfl | rfl | rfl | rfl | rfl | rfl | rfl | rfl | rfl | rfl | rfl | rfl | rfl | rfl | rfl | rfl | rfl <;> rfl) ho_5 (by omega)) ?_
     rintro v_3 h_17 ⟨hS, hk⟩
     replace hK := hK.trans hk
     replace hN_2 := hN_2.kp hk
     replace hN_5 := hN_5.kp hk
     refine oA (v_3) rfl rfl ?_
     refine HO.nil (thenQ_normal (?_))
     refine HW.exit (thenQ_exit (blockQ_exit (thenQ_normal (?_))))
     refine HW.region ?_
     refine oM (.int .i64 i_1) rfl rfl ?_
     obtain ⟨ho_6, hM⟩ := hM
     refine oV (.int .i64 (i_1 + 1)) (q_addN _ rfl rfl rfl ho_6.1 ho_6.2) rfl ?_
     refine oA (.int .i64 (i_1 + 1)) rfl rfl ?_
     refine HO.nil (thenQ_normal (?_))
     replace hS : St F_5 (Ow.box bq 95 #[.int .i64 q_Now_2, .bool q_On_2, .int .i64 q_2_2, .int .i64 q_3_2, v_2] :: Ow.own 184 20 erO v_2 q_L_2 :: Ow.pool 190 18 erL ps_3 :: Ow.box b_1 56 (e_api_Tune t).toArray :: Ow.own 97 19 e_api_Asked vout_2 out_1 :: Ow.own 184 20 erO v_3 (rest_1 ++ ([(((gi q_L_2 i_1).1), (gi q_L_2 i_1).2.1, (gi q_L_2 i_1).2.2.1, ((gi q_L_2 i_1).2.2.2))] : List TrO)) :: fr) h_17 := hS.perm2 [2, 3, 4, 5, 6, 7] 8 rfl rfl
     rw [hKe_1] at hM
     exact ⟨(ps_3, out_1, rest_1 ++ ([(((gi q_L_2 i_1).1), (gi q_L_2 i_1).2.1, (gi q_L_2 i_1).2.2.1, ((gi q_L_2 i_1).2.2.2))] : List TrO), i_1 + 1), ⟨F_5, vout_2, v_3, rfl, rfl, rfl, rfl, rfl, rfl, rfl, rfl, hK, hS, hN_2, hN_5, hM.1⟩, hM.2⟩
    ·
     replace hM := hM.2 (of_decide_eq_false c_5)
     refine HW.skip (thenQ_normal (?_))
     refine HW.seq ?_
     refine HW.region ?_
     refine oM (vout_2) rfl rfl ?_
     refine oV (.agg (c_acequiaref22_One ((gi q_L_2 i_1).1) (.int .i64 ((gi q_L_2 i_1).2.1)) (.int .i64 ((gi q_L_2 i_1).2.2.1)) (svV ((gi q_L_2 i_1).2.2.2).1)).toArray) (q_loadAgg (cs := (c_acequiaref22_One ((gi q_L_2 i_1).1) (.int .i64 ((gi q_L_2 i_1).2.1)) (.int .i64 ((gi q_L_2 i_1).2.2.1)) (svV ((gi q_L_2 i_1).2.2.2).1))) ta_184 rfl rfl (Blk.cells (k := 20) (hS.box 0 rfl) rfl)) rfl ?_
     replace hS : St F_5 (Ow.pool 190 18 erL ps_3 :: Ow.box b_6 184 (c_acequiaref22_One ((gi q_L_2 i_1).1) (.int .i64 ((gi q_L_2 i_1).2.1)) (.int .i64 ((gi q_L_2 i_1).2.2.1)) (svV ((gi q_L_2 i_1).2.2.2).1)).toArray :: Ow.box bq 95 #[.int .i64 q_Now_2, .bool q_On_2, .int .i64 q_2_2, .int .i64 q_3_2, v_2] :: Ow.own 184 20 erO v_2 q_L_2 :: Ow.box b_1 56 (e_api_Tune t).toArray :: Ow.own 97 19 e_api_Asked vout_2 out_1 :: Ow.own 184 20 erO vrest_2 rest_1 :: fr) h_15 := hS.perm2 [3, 0, 1, 2, 4, 5, 6] 7 rfl rfl
     have hZ_1 := hS
     have hkz_1 := (hS.freeze).2
     replace hS := hS.freeze.1
     have hL_1 := hZ_1.lent
     obtain ⟨ho_7, hM⟩ := hM
     refine HO.call (want_none) rfl (ec en_128 rfl rfl) (ref22_asked_walk (fr := (Ow.box b_6 184 (c_acequiaref22_One ((gi q_L_2 i_1).1) (.int .i64 ((gi q_L_2 i_1).2.1)) (.int .i64 ((gi q_L_2 i_1).2.2.1)) (svV ((gi q_L_2 i_1).2.2.2).1)).toArray :: Ow.box bq 95 #[.int .i64 q_Now_2, .bool q_On_2, .int .i64 q_2_2, .int .i64 q_3_2, v_2] :: Ow.own 184 20 erO v_2 q_L_2 :: Ow.box b_1 56 (e_api_Tune t).toArray :: Ow.own 97 19 e_api_Asked vout_2 out_1 :: Ow.own 184 20 erO vrest_2 rest_1 :: fr)) ((gi q_L_2 i_1).1) ((gi q_L_2 i_1).2.1) ((gi q_L_2 i_1).2.2.1) (((gi q_L_2 i_1).2.2.2).2) (svV ((gi q_L_2 i_1).2.2.2).1) hS (RoF.poolSl hL_1 ho_7) hM) ?_
     rintro _ h_18 ⟨F_6, r_0_1, r_1_1, r_17_1, r_18_1, vr_18_1, rfl, hk, hS, _, hM⟩
     obtain ⟨hS, hk⟩ := hZ_1.back hk hS
     generalize (fun bz_ => F_6 bz_ ∧ ¬ (Ow.pool 190 18 erL ps_3).foot bz_) = F_7 at hS hk
     replace hK := hK.trans hk
     replace hN_2 := hN_2.kp hk
     replace hN_5 := hN_5.kp hk
     replace hS : St F_7 (Ow.own 28 17 eA vr_18_1 r_18_1 :: Ow.pool 190 18 erL ps_3 :: Ow.box b_6 184 (c_acequiaref22_One ((gi q_L_2 i_1).1) (.int .i64 ((gi q_L_2 i_1).2.1)) (.int .i64 ((gi q_L_2 i_1).2.2.1)) (svV ((gi q_L_2 i_1).2.2.2).1)).toArray :: Ow.box bq 95 #[.int .i64 q_Now_2, .bool q_On_2, .int .i64 q_2_2, .int .i64 q_3_2, v_2] :: Ow.own 184 20 erO v_2 q_L_2 :: Ow.box b_1 56 (e_api_Tune t).toArray :: Ow.own 97 19 e_api_Asked vout_2 out_1 :: Ow.own 184 20 erO vrest_2 rest_1 :: fr) h_18 := hS.perm2 [1, 0, 2, 3, 4, 5, 6, 7] 8 rfl rfl
     obtain ⟨F_8, hS, hk, hL_2⟩ := hS.freezeOwn
     replace hK := hK.trans hk
     replace hN_2 := hN_2.kp hk
     replace hN_5 := hN_5.kp hk
     replace hM := hM vr_18_1
     refine HO.eff (want_none) rfl (st_lit (enc := e_api_Asked) (cells := #[.bool r_0_1, .int .u8 (b8 r_1_1 0), .int .u8 (b8 r_1_1 1), .int .u8 (b8 r_1_1 2), .int .u8 (b8 r_1_1 3), .int .u8 (b8 r_1_1 4), .int .u8 (b8 r_1_1 5), .int .u8 (b8 r_1_1 6), .int .u8 (b8 r_1_1 7), .int .u8 (b8 r_1_1 8), .int .u8 (b8 r_1_1 9), .int .u8 (b8 r_1_1 10), .int .u8 (b8 r_1_1 11), .int .u8 (b8 r_1_1 12), .int .u8 (b8 r_1_1 13), .int .u8 (b8 r_1_1 14), .int .u8 (b8 r_1_1 15), .bool r_17_1, vr_18_1]) #[.bool false, .int .u8 0, .int .u8 0, .int .u8 0, .int .u8 0, .int .u8 0, .int .u8 0, .int .u8 0, .int .u8 0, .int .u8 0, .int .u8 0, .int .u8 0, .int .u8 0, .int .u8 0, .int .u8 0, .int .u8 0, .int .u8 0, .bool false, .slice none 0 0] ([((r_0_1, r_1_1), r_17_1, (vr_18_1, r_18_1))] : List T_api_Asked) hS tl_58 (by decide) (by decide) (by kernel_rfl) (by kernel_rfl) rfl (by intro x hx; rfl) rfl) ?_
     rintro _ h_19 ⟨b_8, rfl, hS, hk⟩
     replace hK := hK.trans hk
     replace hN_2 := hN_2.kp hk
     replace hN_5 := hN_5.kp hk
     replace hL_2 := hL_2.kp hk
     have hN_6 : NfL nf_api_Asked F_8 h_19 ([((r_0_1, r_1_1), r_17_1, (vr_18_1, r_18_1))] : List T_api_Asked) := (NfL.cons (nfm_api_Asked ((r_0_1, r_1_1), r_17_1, (vr_18_1, r_18_1)) hL_2) (NfL.nil _ _ _))
     obtain ⟨ho_8, hM⟩ := hM
     refine HO.eff (want_none) rfl (st_append te_58 hS (i := 6) rfl (hS.own 0 rfl).slice rfl rfl rfl (fun a_ ha_ => nfo_api_Asked (hN_6.is.all a_ ha_)) ho_8 (by omega)) ?_
     rintro v_4 h_20 ⟨hS, hk⟩
     replace hK := hK.trans hk
     replace hN_2 := hN_2.kp hk
     replace hN_5 := hN_5.kp hk
     replace hL_2 := hL_2.kp hk
     replace hN_6 := hN_6.kp hk
     have hN_7 : NfL nf_api_Asked F_8 h_20 (out_1 ++ ([((r_0_1, r_1_1), r_17_1, (vr_18_1, r_18_1))] : List T_api_Asked)) := NfL.app hN_5 hN_6
     refine oA (v_4) rfl rfl ?_
     refine HO.nil (thenQ_normal (?_))
     refine HW.seq ?_
     refine HW.regionA 15 mixed (fun h => (Blk h b_6 (.cells (c_acequiaref22_One ((gi q_L_2 i_1).1) (.int .i64 ((gi q_L_2 i_1).2.1)) (.int .i64 ((gi q_L_2 i_1).2.2.1)) (svV ((gi q_L_2 i_1).2.2.2).1)).toArray 184 (0, 0))) ∧ (Blk h bq (.cells #[.int .i64 q_Now_2, .bool q_On_2, .int .i64 q_2_2, .int .i64 q_3_2, v_2] 95 (0, 0))) ∧ (Blk h b_1 (.cells (e_api_Tune t).toArray 56 (0, 0)))) [] (by kernel_rfl) ?_
     refine HA.val (k := 0) (v := .pointer (some ⟨b_6, 0, none⟩)) rfl rfl (by kernel_rfl) (by kernel_rfl) (want_none) rfl (fun _ ⟨c329, c323, c326⟩ => q_fieldAddr fa_184_0 rfl rfl) ?_
     refine HA.val (k := 1) (v := .agg (eA ((gi q_L_2 i_1).1)).toArray) rfl rfl (by kernel_rfl) (by kernel_rfl) (want_none) rfl (fun _ ⟨c329, c323, c326⟩ => q_loadAgg (cs := (eA ((gi q_L_2 i_1).1))) ta_28 rfl rfl (Blk.cells (k := 17) c329 rfl)) ?_
     refine HA.val (k := 2) (v := .pointer (some ⟨bq, 0, none⟩)) rfl rfl (by kernel_rfl) (by kernel_rfl) (want_none) rfl (fun _ ⟨c329, c323, c326⟩ => q_move rfl) ?_
     refine HA.val (k := 3) (v := .pointer (some ⟨bq, 0, none⟩)) rfl rfl (by kernel_rfl) (by kernel_rfl) (want_none) rfl (fun _ ⟨c329, c323, c326⟩ => q_nilCheck rfl) ?_
     refine HA.val (k := 4) (v := .pointer (some ⟨bq, 0, none⟩)) rfl rfl (by kernel_rfl) (by kernel_rfl) (want_none) rfl (fun _ ⟨c329, c323, c326⟩ => q_fieldAddr fa_95_0 rfl rfl) ?_
     refine HA.val (k := 5) (v := .int .i64 q_Now_2) rfl rfl (by kernel_rfl) (by kernel_rfl) (want_none) rfl (fun _ ⟨c329, c323, c326⟩ => q_load to_3 rfl (Blk.cell c323 rfl)) ?_
     refine HA.val (k := 6) (v := .pointer (some ⟨b_1, 3, none⟩)) rfl rfl (by kernel_rfl) (by kernel_rfl) (want_none) rfl (fun _ ⟨c329, c323, c326⟩ => q_fieldAddr fa_56_3 rfl rfl) ?_
     refine HA.val (k := 7) (v := .int .i64 t.2.2.2.1) rfl rfl (by kernel_rfl) (by kernel_rfl) (want_none) rfl (fun _ ⟨c329, c323, c326⟩ => q_load to_3 rfl (Blk.cell c326 rfl)) ?_
     obtain ⟨ho_9, hM⟩ := hM
     refine HA.val (k := 8) (v := .int .i64 (q_Now_2 + t.2.2.2.1)) rfl rfl (by kernel_rfl) (by kernel_rfl) (want_none) rfl (fun _ ⟨c329, c323, c326⟩ => q_addN _ rfl rfl rfl ho_9.1 ho_9.2) ?_
     refine HA.val (k := 9) (v := .pointer (some ⟨b_6, 18, none⟩)) rfl rfl (by kernel_rfl) (by kernel_rfl) (want_none) rfl (fun _ ⟨c329, c323, c326⟩ => q_fieldAddr fa_184_2 rfl rfl) ?_
     refine HA.val (k := 10) (v := .int .i64 ((gi q_L_2 i_1).2.2.1)) rfl rfl (by kernel_rfl) (by kernel_rfl) (want_none) rfl (fun _ ⟨c329, c323, c326⟩ => q_load to_3 rfl (Blk.cell c329 rfl)) ?_
     obtain ⟨ho_10, hM⟩ := hM
     refine HA.val (k := 11) (v := .int .i64 (((gi q_L_2 i_1).2.2.1) - 1)) rfl rfl (by kernel_rfl) (by kernel_rfl) (want_none) rfl (fun _ ⟨c329, c323, c326⟩ => q_subN _ rfl rfl rfl ho_10.1 ho_10.2) ?_
     refine HA.val (k := 12) (v := .agg (c_acequiaref22_One ((gi q_L_2 i_1).1) (.int .i64 (q_Now_2 + t.2.2.2.1)) (.int .i64 (((gi q_L_2 i_1).2.2.1) - 1)) (.slice none 0 0)).toArray) rfl rfl (by kernel_rfl) (by kernel_rfl) (want_none) rfl (fun _ ⟨c329, c323, c326⟩ => q_build tp_184 (fill_cons (cs' := (c_acequiaref22_One ((gi q_L_2 i_1).1) (.int .i64 0) (.int .i64 0) (.slice none 0 0)).toArray) (vc := (eA ((gi q_L_2 i_1).1)).toArray) rfl rfl rfl (Nat.le_of_ble_eq_true rfl) rfl (fill_cons (cs' := (c_acequiaref22_One ((gi q_L_2 i_1).1) (.int .i64 (q_Now_2 + t.2.2.2.1)) (.int .i64 0) (.slice none 0 0)).toArray) (vc := #[.int .i64 (q_Now_2 + t.2.2.2.1)]) rfl rfl rfl (Nat.le_of_ble_eq_true rfl) rfl (fill_cons (cs' := (c_acequiaref22_One ((gi q_L_2 i_1).1) (.int .i64 (q_Now_2 + t.2.2.2.1)) (.int .i64 (((gi q_L_2 i_1).2.2.1) - 1)) (.slice none 0 0)).toArray) (vc := #[.int .i64 (((gi q_L_2 i_1).2.2.1) - 1)]) rfl rfl rfl (Nat.le_of_ble_eq_true rfl) rfl rfl)))) ?_
     refine HA.one (k := 13) ⟨⟨(hS.box 2 rfl), (hS.box 3 rfl), (hS.box 5 rfl)⟩, (Go.Wk.at_nil _ _)⟩ (by kernel_rfl) ?_
     refine HS.eff rfl (want_none) rfl (st_alloc (c := (c_acequiaref22_One (false, (default : Ba 16)) (.int .i64 0) (.int .i64 0) (.slice none 0 0)).toArray) hS tz_184 rfl) ?_
     rintro _ h_21 ⟨b_9, rfl, hS, hk⟩
     replace hK := hK.trans hk
     replace hN_2 := hN_2.kp hk
     replace hN_5 := hN_5.kp hk
     replace hL_2 := hL_2.kp hk
     replace hN_6 := hN_6.kp hk
     replace hN_7 := hN_7.kp hk
     refine HA.one (k := 14) ⟨⟨(hS.box 3 rfl), (hS.box 4 rfl), (hS.box 6 rfl)⟩, (Go.Wk.at_nil _ _)⟩ (by kernel_rfl) ?_
     refine HS.sto rfl (want_none) rfl (st_storeAgg (c' := (c_acequiaref22_One ((gi q_L_2 i_1).1) (.int .i64 (q_Now_2 + t.2.2.2.1)) (.int .i64 (((gi q_L_2 i_1).2.2.1) - 1)) (.slice none 0 0)).toArray) hS (i := 0) rfl ta_184 rfl rfl rfl (List.forall_mem_cons.2 ⟨rfl, (List.forall_mem_cons.2 ⟨rfl, (List.forall_mem_cons.2 ⟨rfl, (List.forall_mem_cons.2 ⟨rfl, (List.forall_mem_cons.2 ⟨rfl, (List.forall_mem_cons.2 ⟨rfl, (List.forall_mem_cons.2 ⟨rfl, (List.forall_mem_cons.2 ⟨rfl, (List.forall_mem_cons.2 ⟨rfl, (List.forall_mem_cons.2 ⟨rfl, (List.forall_mem_cons.2 ⟨rfl, (List.forall_mem_cons.2 ⟨rfl, (List.forall_mem_cons.2 ⟨rfl, (List.forall_mem_cons.2 ⟨rfl, (List.forall_mem_cons.2 ⟨rfl, (List.forall_mem_cons.2 ⟨rfl, (List.forall_mem_cons.2 ⟨rfl, (List.forall_mem_cons.2 ⟨rfl, (List.forall_mem_cons.2 ⟨rfl, (List.forall_mem_cons.2 ⟨rfl, (fun _ h => by cases h)⟩)⟩)⟩)⟩)⟩)⟩)⟩)⟩)⟩)⟩)⟩)⟩)⟩)⟩)⟩)⟩)⟩)⟩)⟩)⟩) (Nat.le_of_ble_eq_true rfl) rfl) ?_
     rintro h_22 ⟨hS, hk⟩
     replace hK := hK.trans hk
     replace hN_2 := hN_2.kp hk
     replace hN_5 := hN_5.kp hk
     replace hL_2 := hL_2.kp hk
     replace hN_6 := hN_6.kp hk
     replace hN_7 := hN_7.kp hk
     refine HA.nil ⟨⟨(hS.box 3 rfl), (hS.box 4 rfl), (hS.box 6 rfl)⟩, (Go.Wk.at_nil _ _)⟩ (by kernel_rfl) (thenQ_normal (?_))
     refine HW.seq_mid (fun f h => ∃ (F' : Fz) (y_18_1 : Int), f 0 = .pointer (some ⟨bq, 0, none⟩) ∧ f 5 = .pointer (some ⟨b_1, 0, none⟩) ∧ f 6 = .bool false ∧ f 7 = .slice none 0 0 ∧ f 8 = .bool general_1 ∧ f 9 = v_4 ∧ f 10 = vrest_2 ∧ f 11 = .int .i64 i_1 ∧ f 12 = .pointer (some ⟨b_6, 0, none⟩) ∧ f 13 = .pointer (some ⟨b_9, 0, none⟩) ∧ Kp F h0 F' h ∧ St F' (Ow.box bq 95 #[.int .i64 q_Now_2, .bool q_On_2, .int .i64 q_2_2, .int .i64 q_3_2, v_2] :: Ow.own 184 20 erO v_2 q_L_2 :: Ow.pool 190 18 erL ps_3 :: Ow.box b_1 56 (e_api_Tune t).toArray :: Ow.own 97 19 e_api_Asked v_4 (out_1 ++ ([((r_0_1, r_1_1), r_17_1, (vr_18_1, r_18_1))] : List T_api_Asked)) :: Ow.own 184 20 erO vrest_2 rest_1 :: Ow.box b_6 184 (c_acequiaref22_One ((gi q_L_2 i_1).1) (.int .i64 ((gi q_L_2 i_1).2.1)) (.int .i64 ((gi q_L_2 i_1).2.2.1)) (svV ((gi q_L_2 i_1).2.2.2).1)).toArray :: Ow.box b_9 184 (c_acequiaref22_One ((gi q_L_2 i_1).1) (.int .i64 (q_Now_2 + t.2.2.2.1)) (.int .i64 y_18_1) (.slice none 0 0)).toArray :: fr) h ∧ (NfL nf_api_Asked F' h ([] : List T_api_Asked)) ∧ (NfL nf_api_Asked F' h out_1) ∧ (SliceF F' h 17 eA vr_18_1 r_18_1) ∧ (NfL nf_api_Asked F' h ([((r_0_1, r_1_1), r_17_1, (vr_18_1, r_18_1))] : List T_api_Asked)) ∧ (NfL nf_api_Asked F' h (out_1 ++ ([((r_0_1, r_1_1), r_17_1, (vr_18_1, r_18_1))] : List T_api_Asked))) ∧ ref22_Q_Due_j3 t q_Now_2 q_L_2 ps_3 out_1 rest_1 i_1 K_1 r_0_1 r_1_1 r_17_1 r_18_1 vr_18_1 y_18_1) ?_ ?_
     ·
      refine HW.seq ?_
      refine HW.region ?_
      refine oV (.pointer (some ⟨b_9, 18, none⟩)) (q_fieldAddr fa_184_2 rfl rfl) rfl ?_
      refine oV (.int .i64 (((gi q_L_2 i_1).2.2.1) - 1)) (q_load to_3 rfl (Blk.cell (hS.box 0 rfl) rfl)) rfl ?_
      refine oV (.bool (decide ((((gi q_L_2 i_1).2.2.1) - 1) < 0))) (q_lss rfl rfl) rfl ?_
      refine HO.nil (thenQ_normal (?_))
      refine HW.cond (decide ((((gi q_L_2 i_1).2.2.1) - 1) < 0)) rfl (fun c_6 => ?_) (fun c_6 => ?_)
      ·
       replace hM := hM.1 (of_decide_eq_true c_6)
       refine HW.region ?_
       refine oV (.pointer (some ⟨b_9, 18, none⟩)) (q_fieldAddr fa_184_2 rfl rfl) rfl ?_
       refine HO.sto (want_none) rfl (st_store (c' := (c_acequiaref22_One ((gi q_L_2 i_1).1) (.int .i64 (q_Now_2 + t.2.2.2.1)) (.int .i64 0) (.slice none 0 0)).toArray) hS (i := 0) rfl to_3 rfl rfl rfl rfl (Nat.le_of_ble_eq_true rfl) rfl) ?_
       rintro h_23 ⟨hS, hk⟩
       replace hK := hK.trans hk
       replace hN_2 := hN_2.kp hk
       replace hN_5 := hN_5.kp hk
       replace hL_2 := hL_2.kp hk
       replace hN_6 := hN_6.kp hk
       replace hN_7 := hN_7.kp hk
       refine HO.nil (thenQ_normal (?_))
       replace hS : St F_8 (Ow.box bq 95 #[.int .i64 q_Now_2, .bool q_On_2, .int .i64 q_2_2, .int .i64 q_3_2, v_2] :: Ow.own 184 20 erO v_2 q_L_2 :: Ow.pool 190 18 erL ps_3 :: Ow.box b_1 56 (e_api_Tune t).toArray :: Ow.own 97 19 e_api_Asked v_4 (out_1 ++ ([((r_0_1, r_1_1), r_17_1, (vr_18_1, r_18_1))] : List T_api_Asked)) :: Ow.own 184 20 erO vrest_2 rest_1 :: Ow.box b_6 184 (c_acequiaref22_One ((gi q_L_2 i_1).1) (.int .i64 ((gi q_L_2 i_1).2.1)) (.int .i64 ((gi q_L_2 i_1).2.2.1)) (svV ((gi q_L_2 i_1).2.2.2).1)).toArray :: Ow.box b_9 184 (c_acequiaref22_One ((gi q_L_2 i_1).1) (.int .i64 (q_Now_2 + t.2.2.2.1)) (.int .i64 0) (.slice none 0 0)).toArray :: fr) h_23 := hS.perm2 [4, 5, 2, 6, 7, 8, 3, 0] 9 rfl rfl
       exact ⟨F_8, 0, rfl, rfl, rfl, rfl, rfl, rfl, rfl, rfl, rfl, rfl, hK, hS, hN_2, hN_5, hL_2, hN_6, hN_7, hM⟩
      ·
       replace hM := hM.2 (of_decide_eq_false c_6)
       refine HW.skip (thenQ_normal (?_))
       replace hS : St F_8 (Ow.box bq 95 #[.int .i64 q_Now_2, .bool q_On_2, .int .i64 q_2_2, .int .i64 q_3_2, v_2] :: Ow.own 184 20 erO v_2 q_L_2 :: Ow.pool 190 18 erL ps_3 :: Ow.box b_1 56 (e_api_Tune t).toArray :: Ow.own 97 19 e_api_Asked v_4 (out_1 ++ ([((r_0_1, r_1_1), r_17_1, (vr_18_1, r_18_1))] : List T_api_Asked)) :: Ow.own 184 20 erO vrest_2 rest_1 :: Ow.box b_6 184 (c_acequiaref22_One ((gi q_L_2 i_1).1) (.int .i64 ((gi q_L_2 i_1).2.1)) (.int .i64 ((gi q_L_2 i_1).2.2.1)) (svV ((gi q_L_2 i_1).2.2.2).1)).toArray :: Ow.box b_9 184 (c_acequiaref22_One ((gi q_L_2 i_1).1) (.int .i64 (q_Now_2 + t.2.2.2.1)) (.int .i64 (((gi q_L_2 i_1).2.2.1) - 1)) (.slice none 0 0)).toArray :: fr) h_22 := hS.perm2 [4, 5, 2, 6, 7, 8, 3, 0] 9 rfl rfl
       exact ⟨F_8, ((gi q_L_2 i_1).2.2.1) - 1, rfl, rfl, rfl, rfl, rfl, rfl, rfl, rfl, rfl, rfl, hK, hS, hN_2, hN_5, hL_2, hN_6, hN_7, hM⟩
     ·
      rintro f_4 h_24 ⟨F_9, y_18_1, e0, e5, e6, e7, e8, e9, e10, e11, e12, e13, hK, hS, hN_2, hN_5, hL_2, hN_6, hN_7, hM⟩
      unfold ref22_Q_Due_j3 at hM
      refine HW.fr [(0, .pointer (some ⟨bq, 0, none⟩)), (5, .pointer (some ⟨b_1, 0, none⟩)), (6, .bool false), (7, .slice none 0 0), (8, .bool general_1), (9, v_4), (10, vrest_2), (11, .int .i64 i_1), (12, .pointer (some ⟨b_6, 0, none⟩)), (13, .pointer (some ⟨b_9, 0, none⟩))] ⟨e0, e5, e6, e7, e8, e9, e10, e11, e12, e13, trivial⟩ ?_
      refine HW.seq ?_
      refine HW.seq ?_
      refine HW.region ?_
      refine oA (.int .i64 0) rfl rfl ?_
      refine HO.nil (thenQ_normal (?_))
      refine HW.block ?_
      obtain ⟨I_2, m_2, hI_2, hR_2⟩ := hM
      replace hS := hS.nilOwn 190 18 erL
      replace hS : St F_9 (Ow.box bq 95 #[.int .i64 q_Now_2, .bool q_On_2, .int .i64 q_2_2, .int .i64 q_3_2, v_2] :: Ow.own 184 20 erO v_2 q_L_2 :: Ow.pool 190 18 erL ps_3 :: Ow.box b_1 56 (e_api_Tune t).toArray :: Ow.own 97 19 e_api_Asked v_4 (out_1 ++ ([((r_0_1, r_1_1), r_17_1, (vr_18_1, r_18_1))] : List T_api_Asked)) :: Ow.own 184 20 erO vrest_2 rest_1 :: Ow.box b_6 184 (c_acequiaref22_One ((gi q_L_2 i_1).1) (.int .i64 ((gi q_L_2 i_1).2.1)) (.int .i64 ((gi q_L_2 i_1).2.2.1)) (svV ((gi q_L_2 i_1).2.2.2).1)).toArray :: Ow.box b_9 184 (c_acequiaref22_One ((gi q_L_2 i_1).1) (.int .i64 (q_Now_2 + t.2.2.2.1)) (.int .i64 y_18_1) (.slice none 0 0)).toArray :: Ow.own 190 18 erL (.slice none 0 0) ([] : List TrL) :: fr) h_24 := hS.perm2 [1, 2, 3, 4, 5, 6, 7, 8, 0] 9 rfl rfl
      refine HW.loop (S := List TrL × Int) (fun s f h => match s with | (y_19_1, k_1) => ∃ (F' : Fz) (vy_19_1 : Value), f 0 = .pointer (some ⟨bq, 0, none⟩) ∧ f 5 = .pointer (some ⟨b_1, 0, none⟩) ∧ f 6 = .bool false ∧ f 7 = .slice none 0 0 ∧ f 8 = .bool general_1 ∧ f 9 = v_4 ∧ f 10 = vrest_2 ∧ f 11 = .int .i64 i_1 ∧ f 12 = .pointer (some ⟨b_6, 0, none⟩) ∧ f 13 = .pointer (some ⟨b_9, 0, none⟩) ∧ f 14 = .int .i64 k_1 ∧ Kp F h0 F' h ∧ St F' (Ow.box bq 95 #[.int .i64 q_Now_2, .bool q_On_2, .int .i64 q_2_2, .int .i64 q_3_2, v_2] :: Ow.own 184 20 erO v_2 q_L_2 :: Ow.pool 190 18 erL ps_3 :: Ow.box b_1 56 (e_api_Tune t).toArray :: Ow.own 97 19 e_api_Asked v_4 (out_1 ++ ([((r_0_1, r_1_1), r_17_1, (vr_18_1, r_18_1))] : List T_api_Asked)) :: Ow.own 184 20 erO vrest_2 rest_1 :: Ow.box b_6 184 (c_acequiaref22_One ((gi q_L_2 i_1).1) (.int .i64 ((gi q_L_2 i_1).2.1)) (.int .i64 ((gi q_L_2 i_1).2.2.1)) (svV ((gi q_L_2 i_1).2.2.2).1)).toArray :: Ow.box b_9 184 (c_acequiaref22_One ((gi q_L_2 i_1).1) (.int .i64 (q_Now_2 + t.2.2.2.1)) (.int .i64 y_18_1) vy_19_1).toArray :: Ow.own 190 18 erL vy_19_1 y_19_1 :: fr) h ∧ (NfL nf_api_Asked F' h ([] : List T_api_Asked)) ∧ (NfL nf_api_Asked F' h out_1) ∧ (SliceF F' h 17 eA vr_18_1 r_18_1) ∧ (NfL nf_api_Asked F' h ([((r_0_1, r_1_1), r_17_1, (vr_18_1, r_18_1))] : List T_api_Asked)) ∧ (NfL nf_api_Asked F' h (out_1 ++ ([((r_0_1, r_1_1), r_17_1, (vr_18_1, r_18_1))] : List T_api_Asked))) ∧ I_2 (y_19_1, k_1)) m_2 ([], 0) ⟨F_9, .slice none 0 0, rfl, rfl, rfl, rfl, rfl, rfl, rfl, rfl, rfl, rfl, rfl, hK, hS, hN_2, hN_5, hL_2, hN_6, hN_7, hI_2⟩ ?_
      rintro ⟨y_19_1, k_1⟩ f_5 h_25 ⟨F_10, vy_19_1, e0, e5, e6, e7, e8, e9, e10, e11, e12, e13, e14, hK, hS, hN_2, hN_5, hL_2, hN_6, hN_7, hI0⟩
      obtain ⟨K_2, hKe_2⟩ : ∃ K : (List TrL) → Int → Prop, K = fun y_19_1' k_1' => I_2 (y_19_1', k_1') ∧ m_2 (y_19_1', k_1') < m_2 (y_19_1, k_1) := ⟨_, rfl⟩
      have hM : ref22_Q_Due_l2 t q_Now_2 q_L_2 ps_3 out_1 rest_1 i_1 K_1 r_0_1 r_1_1 r_17_1 r_18_1 vr_18_1 y_18_1 K_2 y_19_1 k_1 := by rw [hKe_2]; exact hR_2 (y_19_1, k_1) hI0
      unfold ref22_Q_Due_l2 at hM
      refine HW.fr [(0, .pointer (some ⟨bq, 0, none⟩)), (5, .pointer (some ⟨b_1, 0, none⟩)), (6, .bool false), (7, .slice none 0 0), (8, .bool general_1), (9, v_4), (10, vrest_2), (11, .int .i64 i_1), (12, .pointer (some ⟨b_6, 0, none⟩)), (13, .pointer (some ⟨b_9, 0, none⟩)), (14, .int .i64 k_1)] ⟨e0, e5, e6, e7, e8, e9, e10, e11, e12, e13, e14, trivial⟩ ?_
      refine HW.seq ?_
      refine HW.seq ?_
      refine HW.region ?_
      refine oM (.int .i64 k_1) rfl rfl ?_
      refine oV (.pointer (some ⟨b_6, 19, none⟩)) (q_fieldAddr fa_184_3 rfl rfl) rfl ?_
      refine oV (svV ((gi q_L_2 i_1).2.2.2).1) (q_load to_182 rfl (Blk.cell (hS.box 6 rfl) rfl)) rfl ?_
      obtain ⟨ho_11, hM⟩ := hM
      refine oV (.int .i64 ((((gi q_L_2 i_1).2.2.2).2).length : Int)) (q_len ts_182 (shp (PoolIs.sl (hS.pl 2 rfl) ho_11)) rfl rfl) rfl ?_
      refine oV (.bool (decide (k_1 < ((((gi q_L_2 i_1).2.2.2).2).length : Int)))) (q_lss rfl rfl) rfl ?_
      refine HO.nil (thenQ_normal (?_))
      refine HW.cond (decide (k_1 < ((((gi q_L_2 i_1).2.2.2).2).length : Int))) rfl (fun c_7 => ?_) (fun c_7 => ?_)
      ·
       replace hM := hM.1 (of_decide_eq_true c_7)
       refine HW.skip (thenQ_normal (?_))
       refine HW.seq ?_
       refine HW.block ?_
       refine HW.seq ?_
       refine HW.region ?_
       refine oV (.pointer (some ⟨b_6, 19, none⟩)) (q_fieldAddr fa_184_3 rfl rfl) rfl ?_
       refine oV (svV ((gi q_L_2 i_1).2.2.2).1) (q_load to_182 rfl (Blk.cell (hS.box 6 rfl) rfl)) rfl ?_
       refine oM (.int .i64 k_1) rfl rfl ?_
       obtain ⟨ho_12, hM⟩ := hM
       refine oV (elemPtr 18 (svV ((gi q_L_2 i_1).2.2.2).1) (k_1).toNat) (q_idx ts_182 (PoolIs.sl (hS.pl 2 rfl) ho_11) rfl rfl ho_12) rfl ?_
       refine oV (fieldPtr 18 (svV ((gi q_L_2 i_1).2.2.2).1) (k_1).toNat 17) (q_fldElem fa_190_1 (PoolIs.sl (hS.pl 2 rfl) ho_11) rfl ho_12) rfl ?_
       refine oV (.int .i64 ((gi (((gi q_L_2 i_1).2.2.2).2) k_1).2)) (q_ldField to_3 (PoolIs.sl (hS.pl 2 rfl) ho_11) rfl ho_12 (by decide) rfl) rfl ?_
       refine oV (.bool (decide (1 < ((gi (((gi q_L_2 i_1).2.2.2).2) k_1).2)))) (q_gtr rfl rfl) rfl ?_
       refine HO.nil (thenQ_normal (?_))
       refine HW.cond (decide (1 < ((gi (((gi q_L_2 i_1).2.2.2).2) k_1).2))) rfl (fun c_8 => ?_) (fun c_8 => ?_)
       ·
        replace hM := hM.1 (of_decide_eq_true c_8)
        refine HW.regionA 20 mixed (fun h => (PoolIs h 190 18 erL ps_3) ∧ (Blk h b_6 (.cells (c_acequiaref22_One ((gi q_L_2 i_1).1) (.int .i64 ((gi q_L_2 i_1).2.1)) (.int .i64 ((gi q_L_2 i_1).2.2.1)) (svV ((gi q_L_2 i_1).2.2.2).1)).toArray 184 (0, 0)))) [(19, fun h => (Blk h b_9 (.cells (c_acequiaref22_One ((gi q_L_2 i_1).1) (.int .i64 (q_Now_2 + t.2.2.2.1)) (.int .i64 y_18_1) vy_19_1).toArray 184 (0, 0))))] (by kernel_rfl) ?_
        refine HA.val (k := 0) (v := .pointer (some ⟨b_9, 19, none⟩)) rfl rfl (by kernel_rfl) (by kernel_rfl) (want_none) rfl (fun _ ⟨c636, c640⟩ => q_fieldAddr fa_184_3 rfl rfl) ?_
        refine Go.Wk.HA.valN (k := 1) (v := vy_19_1) 0 19 (fun h => (Blk h b_9 (.cells (c_acequiaref22_One ((gi q_L_2 i_1).1) (.int .i64 (q_Now_2 + t.2.2.2.1)) (.int .i64 y_18_1) vy_19_1).toArray 184 (0, 0)))) rfl rfl (by kernel_rfl) (by kernel_rfl) (want_none) rfl rfl (by kernel_rfl) (fun _ ⟨c636, c640⟩ c641 => q_load to_182 rfl (Blk.cell c641 rfl)) ?_
        refine HA.val (k := 2) (v := .pointer (some ⟨b_6, 19, none⟩)) rfl rfl (by kernel_rfl) (by kernel_rfl) (want_none) rfl (fun _ ⟨c636, c640⟩ => q_fieldAddr fa_184_3 rfl rfl) ?_
        refine HA.val (k := 3) (v := svV ((gi q_L_2 i_1).2.2.2).1) rfl rfl (by kernel_rfl) (by kernel_rfl) (want_none) rfl (fun _ ⟨c636, c640⟩ => q_load to_182 rfl (Blk.cell c640 rfl)) ?_
        refine HA.val (k := 4) (v := .int .i64 k_1) rfl rfl (by kernel_rfl) (by kernel_rfl) (want_none) rfl (fun _ ⟨c636, c640⟩ => q_move rfl) ?_
        refine HA.val (k := 5) (v := elemPtr 18 (svV ((gi q_L_2 i_1).2.2.2).1) (k_1).toNat) rfl rfl (by kernel_rfl) (by kernel_rfl) (want_none) rfl (fun _ ⟨c636, c640⟩ => q_idx ts_182 (PoolIs.sl c636 ho_11) rfl rfl ho_12) ?_
        refine HA.val (k := 6) (v := fieldPtr 18 (svV ((gi q_L_2 i_1).2.2.2).1) (k_1).toNat 0) rfl rfl (by kernel_rfl) (by kernel_rfl) (want_none) rfl (fun _ ⟨c636, c640⟩ => q_fldElem fa_190_0 (PoolIs.sl c636 ho_11) rfl ho_12) ?_
        refine HA.val (k := 7) (v := .agg (eA ((gi (((gi q_L_2 i_1).2.2.2).2) k_1).1)).toArray) rfl rfl (by kernel_rfl) (by kernel_rfl) (want_none) rfl (fun _ ⟨c636, c640⟩ => q_ldFieldAgg (n := 17) (cs := (eA ((gi (((gi q_L_2 i_1).2.2.2).2) k_1).1))) ta_28 (PoolIs.sl c636 ho_11) rfl ho_12 (by decide) rfl) ?_
        refine HA.val (k := 8) (v := .pointer (some ⟨b_6, 19, none⟩)) rfl rfl (by kernel_rfl) (by kernel_rfl) (want_none) rfl (fun _ ⟨c636, c640⟩ => q_fieldAddr fa_184_3 rfl rfl) ?_
        refine HA.val (k := 9) (v := svV ((gi q_L_2 i_1).2.2.2).1) rfl rfl (by kernel_rfl) (by kernel_rfl) (want_none) rfl (fun _ ⟨c636, c640⟩ => q_load to_182 rfl (Blk.cell c640 rfl)) ?_
        refine HA.val (k := 10) (v := .int .i64 k_1) rfl rfl (by kernel_rfl) (by kernel_rfl) (want_none) rfl (fun _ ⟨c636, c640⟩ => q_move rfl) ?_
        refine HA.val (k := 11) (v := elemPtr 18 (svV ((gi q_L_2 i_1).2.2.2).1) (k_1).toNat) rfl rfl (by kernel_rfl) (by kernel_rfl) (want_none) rfl (fun _ ⟨c636, c640⟩ => q_idx ts_182 (PoolIs.sl c636 ho_11) rfl rfl ho_12) ?_
        refine HA.val (k := 12) (v := fieldPtr 18 (svV ((gi q_L_2 i_1).2.2.2).1) (k_1).toNat 17) rfl rfl (by kernel_rfl) (by kernel_rfl) (want_none) rfl (fun _ ⟨c636, c640⟩ => q_fldElem fa_190_1 (PoolIs.sl c636 ho_11) rfl ho_12) ?_
        refine HA.val (k := 13) (v := .int .i64 ((gi (((gi q_L_2 i_1).2.2.2).2) k_1).2)) rfl rfl (by kernel_rfl) (by kernel_rfl) (want_none) rfl (fun _ ⟨c636, c640⟩ => q_ldField to_3 (PoolIs.sl c636 ho_11) rfl ho_12 (by decide) rfl) ?_
        obtain ⟨ho_13, hM⟩ := hM
        refine HA.val (k := 14) (v := .int .i64 (((gi (((gi q_L_2 i_1).2.2.2).2) k_1).2) - 1)) rfl rfl (by kernel_rfl) (by kernel_rfl) (want_none) rfl (fun _ ⟨c636, c640⟩ => q_subN _ rfl rfl rfl ho_13.1 ho_13.2) ?_
        refine HA.val (k := 15) (v := .agg (erL (((gi (((gi q_L_2 i_1).2.2.2).2) k_1).1), ((gi (((gi q_L_2 i_1).2.2.2).2) k_1).2) - 1)).toArray) rfl rfl (by kernel_rfl) (by kernel_rfl) (want_none) rfl (fun _ ⟨c636, c640⟩ => q_build tp_190 (fill_cons (cs' := (erL (((gi (((gi q_L_2 i_1).2.2.2).2) k_1).1), 0)).toArray) (vc := (eA ((gi (((gi q_L_2 i_1).2.2.2).2) k_1).1)).toArray) rfl rfl rfl (Nat.le_of_ble_eq_true rfl) rfl (fill_cons (cs' := (erL (((gi (((gi q_L_2 i_1).2.2.2).2) k_1).1), ((gi (((gi q_L_2 i_1).2.2.2).2) k_1).2) - 1)).toArray) (vc := #[.int .i64 (((gi (((gi q_L_2 i_1).2.2.2).2) k_1).2) - 1)]) rfl rfl rfl (Nat.le_of_ble_eq_true rfl) rfl rfl))) ?_
        refine HA.one (k := 16) ⟨⟨(hS.pl 2 rfl), (hS.box 6 rfl)⟩, (at_now (hS.box 7 rfl) (Go.Wk.at_nil _ _))⟩ (by kernel_rfl) ?_
        refine HS.eff rfl (want_none) rfl (st_lit (enc := erL) (cells := #[.bool (((gi (((gi q_L_2 i_1).2.2.2).2) k_1).1).1), .int .u8 (b8 (((gi (((gi q_L_2 i_1).2.2.2).2) k_1).1).2) 0), .int .u8 (b8 (((gi (((gi q_L_2 i_1).2.2.2).2) k_1).1).2) 1), .int .u8 (b8 (((gi (((gi q_L_2 i_1).2.2.2).2) k_1).1).2) 2), .int .u8 (b8 (((gi (((gi q_L_2 i_1).2.2.2).2) k_1).1).2) 3), .int .u8 (b8 (((gi (((gi q_L_2 i_1).2.2.2).2) k_1).1).2) 4), .int .u8 (b8 (((gi (((gi q_L_2 i_1).2.2.2).2) k_1).1).2) 5), .int .u8 (b8 (((gi (((gi q_L_2 i_1).2.2.2).2) k_1).1).2) 6), .int .u8 (b8 (((gi (((gi q_L_2 i_1).2.2.2).2) k_1).1).2) 7), .int .u8 (b8 (((gi (((gi q_L_2 i_1).2.2.2).2) k_1).1).2) 8), .int .u8 (b8 (((gi (((gi q_L_2 i_1).2.2.2).2) k_1).1).2) 9), .int .u8 (b8 (((gi (((gi q_L_2 i_1).2.2.2).2) k_1).1).2) 10), .int .u8 (b8 (((gi (((gi q_L_2 i_1).2.2.2).2) k_1).1).2) 11), .int .u8 (b8 (((gi (((gi q_L_2 i_1).2.2.2).2) k_1).1).2) 12), .int .u8 (b8 (((gi (((gi q_L_2 i_1).2.2.2).2) k_1).1).2) 13), .int .u8 (b8 (((gi (((gi q_L_2 i_1).2.2.2).2) k_1).1).2) 14), .int .u8 (b8 (((gi (((gi q_L_2 i_1).2.2.2).2) k_1).1).2) 15), .int .i64 (((gi (((gi q_L_2 i_1).2.2.2).2) k_1).2) - 1)]) #[.bool false, .int .u8 0, .int .u8 0, .int .u8 0, .int .u8 0, .int .u8 0, .int .u8 0, .int .u8 0, .int .u8 0, .int .u8 0, .int .u8 0, .int .u8 0, .int .u8 0, .int .u8 0, .int .u8 0, .int .u8 0, .int .u8 0, .int .i64 0] ([(((gi (((gi q_L_2 i_1).2.2.2).2) k_1).1), ((gi (((gi q_L_2 i_1).2.2.2).2) k_1).2) - 1)] : List TrL) hS tl_182 (by decide) (by decide) (by kernel_rfl) (by kernel_rfl) rfl (by intro x hx; rfl) rfl) ?_
        rintro _ h_26 ⟨b_10, rfl, hS, hk⟩
        replace hK := hK.trans hk
        replace hN_2 := hN_2.kp hk
        replace hN_5 := hN_5.kp hk
        replace hL_2 := hL_2.kp hk
        replace hN_6 := hN_6.kp hk
        replace hN_7 := hN_7.kp hk
        refine HA.one (k := 17) ⟨⟨(hS.pl 3 rfl), (hS.box 7 rfl)⟩, (at_now (hS.box 8 rfl) (Go.Wk.at_nil _ _))⟩ (by kernel_rfl) ?_
        obtain ⟨ho_14, hM⟩ := hM
        refine HS.eff rfl (want_none) rfl (st_append te_182 hS (i := 9) rfl (hS.own 0 rfl).slice rfl rfl rfl (by intro a _ u hu; simp [erL, encI, encN, encB, encT] at hu; rcases hu with rfl | rfl | rfl | rfl | rfl | rfl | rfl | rfl | rfl | rfl | rfl | rfl | rfl | rfl | rfl | rfl | rfl | rfl <;> rfl) ho_14 (by omega)) ?_
        rintro v_5 h_27 ⟨hS, hk⟩
        replace hK := hK.trans hk
        replace hN_2 := hN_2.kp hk
        replace hN_5 := hN_5.kp hk
        replace hL_2 := hL_2.kp hk
        replace hN_6 := hN_6.kp hk
        replace hN_7 := hN_7.kp hk
        refine HA.val (k := 18) (v := .pointer (some ⟨b_9, 19, none⟩)) rfl rfl (by kernel_rfl) (by kernel_rfl) (want_none) rfl (fun _ ⟨c636, c640⟩ => q_fieldAddr fa_184_3 rfl rfl) ?_
        refine HA.one (k := 19) ⟨⟨(hS.pl 3 rfl), (hS.box 7 rfl)⟩, (at_now (hS.box 8 rfl) (Go.Wk.at_nil _ _))⟩ (by kernel_rfl) ?_
        refine HS.sto rfl (want_none) rfl (st_store (c' := (c_acequiaref22_One ((gi q_L_2 i_1).1) (.int .i64 (q_Now_2 + t.2.2.2.1)) (.int .i64 y_18_1) v_5).toArray) hS (i := 8) rfl to_182 rfl rfl (shp (hS.own 9 rfl).slice).cells (shp (hS.own 9 rfl).slice).one (Nat.le_of_ble_eq_true rfl) rfl) ?_
        rintro h_28 ⟨hS, hk⟩
        replace hK := hK.trans hk
        replace hN_2 := hN_2.kp hk
        replace hN_5 := hN_5.kp hk
        replace hL_2 := hL_2.kp hk
        replace hN_6 := hN_6.kp hk
        replace hN_7 := hN_7.kp hk
        refine HA.nil ⟨⟨(hS.pl 3 rfl), (hS.box 7 rfl)⟩, (at_done (by kernel_rfl) (Go.Wk.at_nil _ _))⟩ (by kernel_rfl) (blockQ_normal (thenQ_normal (?_)))
        refine HW.region ?_
        refine oM (.int .i64 k_1) rfl rfl ?_
        obtain ⟨ho_15, hM⟩ := hM
        refine oV (.int .i64 (k_1 + 1)) (q_addN _ rfl rfl rfl ho_15.1 ho_15.2) rfl ?_
        refine oA (.int .i64 (k_1 + 1)) rfl rfl ?_
        refine HO.nil (thenQ_normal (?_))
        replace hS : St F_10 (Ow.box bq 95 #[.int .i64 q_Now_2, .bool q_On_2, .int .i64 q_2_2, .int .i64 q_3_2, v_2] :: Ow.own 184 20 erO v_2 q_L_2 :: Ow.pool 190 18 erL ps_3 :: Ow.box b_1 56 (e_api_Tune t).toArray :: Ow.own 97 19 e_api_Asked v_4 (out_1 ++ ([((r_0_1, r_1_1), r_17_1, (vr_18_1, r_18_1))] : List T_api_Asked)) :: Ow.own 184 20 erO vrest_2 rest_1 :: Ow.box b_6 184 (c_acequiaref22_One ((gi q_L_2 i_1).1) (.int .i64 ((gi q_L_2 i_1).2.1)) (.int .i64 ((gi q_L_2 i_1).2.2.1)) (svV ((gi q_L_2 i_1).2.2.2).1)).toArray :: Ow.box b_9 184 (c_acequiaref22_One ((gi q_L_2 i_1).1) (.int .i64 (q_Now_2 + t.2.2.2.1)) (.int .i64 y_18_1) v_5).toArray :: Ow.own 190 18 erL v_5 (y_19_1 ++ ([(((gi (((gi q_L_2 i_1).2.2.2).2) k_1).1), ((gi (((gi q_L_2 i_1).2.2.2).2) k_1).2) - 1)] : List TrL)) :: fr) h_28 := hS.perm2 [1, 2, 3, 4, 5, 6, 7, 8, 9] 10 rfl rfl
        rw [hKe_2] at hM
        exact ⟨(y_19_1 ++ ([(((gi (((gi q_L_2 i_1).2.2.2).2) k_1).1), ((gi (((gi q_L_2 i_1).2.2.2).2) k_1).2) - 1)] : List TrL), k_1 + 1), ⟨F_10, v_5, rfl, rfl, rfl, rfl, rfl, rfl, rfl, rfl, rfl, rfl, rfl, hK, hS, hN_2, hN_5, hL_2, hN_6, hN_7, hM.1⟩, hM.2⟩
       ·
        replace hM := hM.2 (of_decide_eq_false c_8)
        refine HW.skip (blockQ_normal (thenQ_normal (?_)))
        refine HW.region ?_
        refine oM (.int .i64 k_1) rfl rfl ?_
        obtain ⟨ho_16, hM⟩ := hM
        refine oV (.int .i64 (k_1 + 1)) (q_addN _ rfl rfl rfl ho_16.1 ho_16.2) rfl ?_
        refine oA (.int .i64 (k_1 + 1)) rfl rfl ?_
        refine HO.nil (thenQ_normal (?_))
        rw [hKe_2] at hM
        exact ⟨(y_19_1, k_1 + 1), ⟨F_10, vy_19_1, rfl, rfl, rfl, rfl, rfl, rfl, rfl, rfl, rfl, rfl, rfl, hK, hS, hN_2, hN_5, hL_2, hN_6, hN_7, hM.1⟩, hM.2⟩
      ·
       replace hM := hM.2 (of_decide_eq_false c_7)
       refine HW.exit (thenQ_exit (thenQ_exit (blockQ_exit (thenQ_normal (?_)))))
       refine HW.seq_mid (fun f h => ∃ (F' : Fz) (b_11 : Bool), f 0 = .pointer (some ⟨bq, 0, none⟩) ∧ f 5 = .pointer (some ⟨b_1, 0, none⟩) ∧ f 6 = .bool false ∧ f 7 = .slice none 0 0 ∧ f 8 = .bool general_1 ∧ f 9 = v_4 ∧ f 10 = vrest_2 ∧ f 11 = .int .i64 i_1 ∧ f 13 = .pointer (some ⟨b_9, 0, none⟩) ∧ f 159 = .bool b_11 ∧ Kp F h0 F' h ∧ St F' (Ow.box bq 95 #[.int .i64 q_Now_2, .bool q_On_2, .int .i64 q_2_2, .int .i64 q_3_2, v_2] :: Ow.own 184 20 erO v_2 q_L_2 :: Ow.pool 190 18 erL ps_3 :: Ow.box b_1 56 (e_api_Tune t).toArray :: Ow.own 97 19 e_api_Asked v_4 (out_1 ++ ([((r_0_1, r_1_1), r_17_1, (vr_18_1, r_18_1))] : List T_api_Asked)) :: Ow.own 184 20 erO vrest_2 rest_1 :: Ow.box b_9 184 (c_acequiaref22_One ((gi q_L_2 i_1).1) (.int .i64 (q_Now_2 + t.2.2.2.1)) (.int .i64 y_18_1) vy_19_1).toArray :: Ow.own 190 18 erL vy_19_1 y_19_1 :: fr) h ∧ (NfL nf_api_Asked F' h ([] : List T_api_Asked)) ∧ (NfL nf_api_Asked F' h out_1) ∧ (SliceF F' h 17 eA vr_18_1 r_18_1) ∧ (NfL nf_api_Asked F' h ([((r_0_1, r_1_1), r_17_1, (vr_18_1, r_18_1))] : List T_api_Asked)) ∧ (NfL nf_api_Asked F' h (out_1 ++ ([((r_0_1, r_1_1), r_17_1, (vr_18_1, r_18_1))] : List T_api_Asked))) ∧ ref22_Q_Due_j4 t q_Now_2 q_L_2 ps_3 out_1 rest_1 i_1 K_1 r_0_1 r_1_1 r_17_1 r_18_1 vr_18_1 y_18_1 y_19_1 b_11) ?_ ?_
       ·
        refine HW.region ?_
        refine oV (.pointer (some ⟨b_9, 18, none⟩)) (q_fieldAddr fa_184_2 rfl rfl) rfl ?_
        refine oV (.int .i64 y_18_1) (q_load to_3 rfl (Blk.cell (hS.box 7 rfl) rfl)) rfl ?_
        refine oV (.bool (decide (0 < y_18_1))) (q_gtr rfl rfl) rfl ?_
        refine oM (.bool (decide (0 < y_18_1))) rfl rfl ?_
        rcases Bool.eq_false_or_eq_true (decide (0 < y_18_1)) with c_9 | c_9
        ·
         replace hM := hM.1 (of_decide_eq_true c_9)
         refine HO.past (past_by rfl rfl c_9) rfl ?_
         refine HO.past (past_by rfl rfl c_9) rfl ?_
         refine HO.past (past_by rfl rfl c_9) rfl ?_
         refine HO.past (past_by rfl rfl c_9) rfl ?_
         refine oV (.bool true) (q_pickK true rfl c_9 rfl) rfl ?_
         refine HO.nil (thenQ_normal (?_))
         replace hS : St F_10 (Ow.box bq 95 #[.int .i64 q_Now_2, .bool q_On_2, .int .i64 q_2_2, .int .i64 q_3_2, v_2] :: Ow.own 184 20 erO v_2 q_L_2 :: Ow.pool 190 18 erL ps_3 :: Ow.box b_1 56 (e_api_Tune t).toArray :: Ow.own 97 19 e_api_Asked v_4 (out_1 ++ ([((r_0_1, r_1_1), r_17_1, (vr_18_1, r_18_1))] : List T_api_Asked)) :: Ow.own 184 20 erO vrest_2 rest_1 :: Ow.box b_9 184 (c_acequiaref22_One ((gi q_L_2 i_1).1) (.int .i64 (q_Now_2 + t.2.2.2.1)) (.int .i64 y_18_1) vy_19_1).toArray :: Ow.own 190 18 erL vy_19_1 y_19_1 :: fr) h_25 := hS.perm2 [0, 1, 2, 3, 4, 5, 7, 8] 9 rfl rfl
         exact ⟨F_10, true, rfl, rfl, rfl, rfl, rfl, rfl, rfl, rfl, rfl, rfl, hK, hS, hN_2, hN_5, hL_2, hN_6, hN_7, hM⟩
        ·
         replace hM := hM.2 (of_decide_eq_false c_9)
         refine HO.val (v := .pointer (some ⟨b_9, 19, none⟩)) (want_by rfl rfl c_9) rfl (q_fieldAddr fa_184_3 rfl rfl) ?_
         refine HO.val (v := vy_19_1) (want_by rfl rfl c_9) rfl (q_load to_182 rfl (Blk.cell (hS.box 7 rfl) rfl)) ?_
         refine HO.val (v := .int .i64 (y_19_1.length : Int)) (want_by rfl rfl c_9) rfl (q_len ts_182 (shp (hS.own 8 rfl).slice) rfl rfl) ?_
         refine HO.val (v := .bool (decide (0 < (y_19_1.length : Int)))) (want_by rfl rfl c_9) rfl (q_gtr rfl rfl) ?_
         refine oV (.bool (decide (0 < (y_19_1.length : Int)))) (q_pickK false rfl c_9 rfl) rfl ?_
         refine HO.nil (thenQ_normal (?_))
         replace hS : St F_10 (Ow.box bq 95 #[.int .i64 q_Now_2, .bool q_On_2, .int .i64 q_2_2, .int .i64 q_3_2, v_2] :: Ow.own 184 20 erO v_2 q_L_2 :: Ow.pool 190 18 erL ps_3 :: Ow.box b_1 56 (e_api_Tune t).toArray :: Ow.own 97 19 e_api_Asked v_4 (out_1 ++ ([((r_0_1, r_1_1), r_17_1, (vr_18_1, r_18_1))] : List T_api_Asked)) :: Ow.own 184 20 erO vrest_2 rest_1 :: Ow.box b_9 184 (c_acequiaref22_One ((gi q_L_2 i_1).1) (.int .i64 (q_Now_2 + t.2.2.2.1)) (.int .i64 y_18_1) vy_19_1).toArray :: Ow.own 190 18 erL vy_19_1 y_19_1 :: fr) h_25 := hS.perm2 [0, 1, 2, 3, 4, 5, 7, 8] 9 rfl rfl
         exact ⟨F_10, decide (0 < (y_19_1.length : Int)), rfl, rfl, rfl, rfl, rfl, rfl, rfl, rfl, rfl, rfl, hK, hS, hN_2, hN_5, hL_2, hN_6, hN_7, hM⟩
       ·
        rintro f_6 h_29 ⟨F_11, b_11, e0, e5, e6, e7, e8, e9, e10, e11, e13, e159, hK, hS, hN_2, hN_5, hL_2, hN_6, hN_7, hM⟩
        unfold ref22_Q_Due_j4 at hM
        refine HW.fr [(0, .pointer (some ⟨bq, 0, none⟩)), (5, .pointer (some ⟨b_1, 0, none⟩)), (6, .bool false), (7, .slice none 0 0), (8, .bool general_1), (9, v_4), (10, vrest_2), (11, .int .i64 i_1), (13, .pointer (some ⟨b_9, 0, none⟩)), (159, .bool b_11)] ⟨e0, e5, e6, e7, e8, e9, e10, e11, e13, e159, trivial⟩ ?_
        refine HW.cond b_11 rfl (fun c_10 => ?_) (fun c_10 => ?_)
        ·
         replace hM := hM.1 c_10
         refine HW.region ?_
         refine oM (vrest_2) rfl rfl ?_
         refine oV (.agg (c_acequiaref22_One ((gi q_L_2 i_1).1) (.int .i64 (q_Now_2 + t.2.2.2.1)) (.int .i64 y_18_1) vy_19_1).toArray) (q_loadAgg (cs := (c_acequiaref22_One ((gi q_L_2 i_1).1) (.int .i64 (q_Now_2 + t.2.2.2.1)) (.int .i64 y_18_1) vy_19_1)) ta_184 rfl rfl (Blk.cells (k := 20) (hS.box 6 rfl) rfl)) rfl ?_
         replace hS : St F_11 (Ow.own 190 18 erL vy_19_1 y_19_1 :: Ow.box bq 95 #[.int .i64 q_Now_2, .bool q_On_2, .int .i64 q_2_2, .int .i64 q_3_2, v_2] :: Ow.own 184 20 erO v_2 q_L_2 :: Ow.pool 190 18 erL ps_3 :: Ow.box b_1 56 (e_api_Tune t).toArray :: Ow.own 97 19 e_api_Asked v_4 (out_1 ++ ([((r_0_1, r_1_1), r_17_1, (vr_18_1, r_18_1))] : List T_api_Asked)) :: Ow.own 184 20 erO vrest_2 rest_1 :: Ow.box b_9 184 (c_acequiaref22_One ((gi q_L_2 i_1).1) (.int .i64 (q_Now_2 + t.2.2.2.1)) (.int .i64 y_18_1) vy_19_1).toArray :: fr) h_29 := hS.perm2 [7, 0, 1, 2, 3, 4, 5, 6] 8 rfl rfl
         obtain ⟨sv_1, hv_1⟩ := own_sv (hS.own 0 rfl)
         subst hv_1
         replace hM := hM sv_1
         replace hS := St.poolPut (s := sv_1) (l := y_19_1) hS 2 rfl
         refine HO.eff (want_none) rfl (st_lit (enc := erO) (cells := #[.bool (((gi q_L_2 i_1).1).1), .int .u8 (b8 (((gi q_L_2 i_1).1).2) 0), .int .u8 (b8 (((gi q_L_2 i_1).1).2) 1), .int .u8 (b8 (((gi q_L_2 i_1).1).2) 2), .int .u8 (b8 (((gi q_L_2 i_1).1).2) 3), .int .u8 (b8 (((gi q_L_2 i_1).1).2) 4), .int .u8 (b8 (((gi q_L_2 i_1).1).2) 5), .int .u8 (b8 (((gi q_L_2 i_1).1).2) 6), .int .u8 (b8 (((gi q_L_2 i_1).1).2) 7), .int .u8 (b8 (((gi q_L_2 i_1).1).2) 8), .int .u8 (b8 (((gi q_L_2 i_1).1).2) 9), .int .u8 (b8 (((gi q_L_2 i_1).1).2) 10), .int .u8 (b8 (((gi q_L_2 i_1).1).2) 11), .int .u8 (b8 (((gi q_L_2 i_1).1).2) 12), .int .u8 (b8 (((gi q_L_2 i_1).1).2) 13), .int .u8 (b8 (((gi q_L_2 i_1).1).2) 14), .int .u8 (b8 (((gi q_L_2 i_1).1).2) 15), .int .i64 (q_Now_2 + t.2.2.2.1), .int .i64 y_18_1, svV sv_1]) #[.bool false, .int .u8 0, .int .u8 0, .int .u8 0, .int .u8 0, .int .u8 0, .int .u8 0, .int .u8 0, .int .u8 0, .int .u8 0, .int .u8 0, .int .u8 0, .int .u8 0, .int .u8 0, .int .u8 0, .int .u8 0, .int .u8 0, .int .i64 0, .int .i64 0, .slice none 0 0] ([(((gi q_L_2 i_1).1), q_Now_2 + t.2.2.2.1, y_18_1, (sv_1, y_19_1))] : List TrO) hS tl_93 (by decide) (by decide) (by kernel_rfl) (by kernel_rfl) rfl (by intro x hx; rfl) rfl) ?_
         rintro _ h_30 ⟨b_12, rfl, hS, hk⟩
         replace hK := hK.trans hk
         replace hN_2 := hN_2.kp hk
         replace hN_7 := hN_7.kp hk
         obtain ⟨ho_17, hM⟩ := hM
         refine HO.eff (want_none) rfl (st_append te_93 hS (i := 6) rfl (hS.own 0 rfl).slice rfl rfl rfl (by intro a _ u hu; simp [erO, encI, encN, encB, encT] at hu; rcases hu with rfl | rfl | rfl | rfl | rfl | rfl | rfl | rfl | rfl | rfl | rfl | rfl | rfl | rfl | rfl | rfl | rfl | rfl | rfl | rfl <;> rfl) ho_17 (by omega)) ?_
         rintro v_6 h_31 ⟨hS, hk⟩
         replace hK := hK.trans hk
         replace hN_2 := hN_2.kp hk
         replace hN_7 := hN_7.kp hk
         refine oA (v_6) rfl rfl ?_
         refine HO.nil (blockQ_normal (thenQ_normal (?_)))
         refine HW.region ?_
         refine oM (.int .i64 i_1) rfl rfl ?_
         obtain ⟨ho_18, hM⟩ := hM
         refine oV (.int .i64 (i_1 + 1)) (q_addN _ rfl rfl rfl ho_18.1 ho_18.2) rfl ?_
         refine oA (.int .i64 (i_1 + 1)) rfl rfl ?_
         refine HO.nil (thenQ_normal (?_))
         replace hS : St F_11 (Ow.box bq 95 #[.int .i64 q_Now_2, .bool q_On_2, .int .i64 q_2_2, .int .i64 q_3_2, v_2] :: Ow.own 184 20 erO v_2 q_L_2 :: Ow.pool 190 18 erL ((sv_1, y_19_1) :: ps_3) :: Ow.box b_1 56 (e_api_Tune t).toArray :: Ow.own 97 19 e_api_Asked v_4 (out_1 ++ ([((r_0_1, r_1_1), r_17_1, (vr_18_1, r_18_1))] : List T_api_Asked)) :: Ow.own 184 20 erO v_6 (rest_1 ++ ([(((gi q_L_2 i_1).1), q_Now_2 + t.2.2.2.1, y_18_1, (sv_1, y_19_1))] : List TrO)) :: fr) h_31 := hS.perm2 [1, 2, 3, 4, 5, 6] 8 rfl rfl
         rw [hKe_1] at hM
         exact ⟨((sv_1, y_19_1) :: ps_3, out_1 ++ ([((r_0_1, r_1_1), r_17_1, (vr_18_1, r_18_1))] : List T_api_Asked), rest_1 ++ ([(((gi q_L_2 i_1).1), q_Now_2 + t.2.2.2.1, y_18_1, (sv_1, y_19_1))] : List TrO), i_1 + 1), ⟨F_11, v_4, v_6, rfl, rfl, rfl, rfl, rfl, rfl, rfl, rfl, hK, hS, hN_2, hN_7, hM.1⟩, hM.2⟩
        ·
         replace hM := hM.2 c_10
         refine HW.skip (blockQ_normal (thenQ_normal (?_)))
         refine HW.region ?_
         refine oM (.int .i64 i_1) rfl rfl ?_
         obtain ⟨ho_19, hM⟩ := hM
         refine oV (.int .i64 (i_1 + 1)) (q_addN _ rfl rfl rfl ho_19.1 ho_19.2) rfl ?_
         refine oA (.int .i64 (i_1 + 1)) rfl rfl ?_
         refine HO.nil (thenQ_normal (?_))
         replace hS : St F_11 (Ow.box bq 95 #[.int .i64 q_Now_2, .bool q_On_2, .int .i64 q_2_2, .int .i64 q_3_2, v_2] :: Ow.own 184 20 erO v_2 q_L_2 :: Ow.pool 190 18 erL ps_3 :: Ow.box b_1 56 (e_api_Tune t).toArray :: Ow.own 97 19 e_api_Asked v_4 (out_1 ++ ([((r_0_1, r_1_1), r_17_1, (vr_18_1, r_18_1))] : List T_api_Asked)) :: Ow.own 184 20 erO vrest_2 rest_1 :: fr) h_29 := hS.perm2 [0, 1, 2, 3, 4, 5] 8 rfl rfl
         rw [hKe_1] at hM
         exact ⟨(ps_3, out_1 ++ ([((r_0_1, r_1_1), r_17_1, (vr_18_1, r_18_1))] : List T_api_Asked), rest_1, i_1 + 1), ⟨F_11, v_4, vrest_2, rfl, rfl, rfl, rfl, rfl, rfl, rfl, rfl, hK, hS, hN_2, hN_7, hM.1⟩, hM.2⟩
   ·
    replace hM := hM.2 (of_decide_eq_false c_4)
    refine HW.exit (thenQ_exit (thenQ_exit (blockQ_exit (thenQ_normal (?_)))))
    refine HW.seq ?_
    refine HW.region ?_
    refine oM (.pointer (some ⟨bq, 0, none⟩)) rfl rfl ?_
    refine oM (vrest_2) rfl rfl ?_
    refine oV (.pointer (some ⟨bq, 0, none⟩)) (q_nilCheck rfl) rfl ?_
    refine oV (.pointer (some ⟨bq, 4, none⟩)) (q_fieldAddr fa_95_4 rfl rfl) rfl ?_
    refine HO.sto (want_none) rfl (st_store (c' := #[.int .i64 q_Now_2, .bool q_On_2, .int .i64 q_2_2, .int .i64 q_3_2, vrest_2]) hS (i := 0) rfl to_93 rfl rfl (shp (hS.own 5 rfl).slice).cells (shp (hS.own 5 rfl).slice).one (Nat.le_of_ble_eq_true rfl) rfl) ?_
    rintro h_32 ⟨hS, hk⟩
    replace hK := hK.trans hk
    replace hN_5 := hN_5.kp hk
    refine HO.nil (thenQ_normal (?_))
    refine HW.seq ?_
    refine HW.region ?_
    refine oM (.bool general_1) rfl rfl ?_
    refine oM (vout_2) rfl rfl ?_
    refine oA (.bool general_1) rfl rfl ?_
    refine oA (vout_2) rfl rfl ?_
    refine HO.nil (thenQ_normal (?_))
    refine HW.ret (?_)
    refine ⟨.inr rfl, .tuple #[.bool general_1, vout_2], res2 rfl (rt rfl) (rt rfl), ?_⟩
    replace hS : St F_5 (Ow.own 97 19 e_api_Asked vout_2 out_1 :: Ow.pool 190 18 erL ps_3 :: Ow.box bq 95 #[.int .i64 q_Now_2, .bool q_On_2, .int .i64 q_2_2, .int .i64 q_3_2, vrest_2] :: Ow.own 184 20 erO vrest_2 rest_1 :: fr) h_32 := hS.perm2 [4, 2, 0, 5] 6 rfl rfl
    exact ⟨F_5, general_1, out_1, ps_3, q_Now_2, q_On_2, q_2_2, q_3_2, rest_1, vout_2, vrest_2, rfl, hK, hS, hN_5, hM⟩
def ref18_SameAsked_l2 (a : List T_api_Asked) (b : List T_api_Asked) (Q : Bool → Prop) (i_1 : Int) (K_1 : Int → Prop) (K_2 : Int → Prop) (k_1 : Int) : Prop :=
 ((0 : Int) ≤ i_1 ∧ i_1 < (a.length : Int)) ∧ ((k_1 < ((((gi a i_1).2.2).2).length : Int) → ((0 : Int) ≤ k_1 ∧ k_1 < ((((gi a i_1).2.2).2).length : Int)) ∧ (((0 : Int) ≤ i_1 ∧ i_1 < (b.length : Int)) ∧ (((0 : Int) ≤ k_1 ∧ k_1 < ((((gi b i_1).2.2).2).length : Int)) ∧ ((¬ (((gi (((gi a i_1).2.2).2) k_1) : TA) = (gi (((gi b i_1).2.2).2) k_1)) → Q false) ∧ (((gi (((gi a i_1).2.2).2) k_1) : TA) = (gi (((gi b i_1).2.2).2) k_1) → (I64 (k_1 + 1)) ∧ (K_2 (k_1 + 1))))))) ∧ (¬ (k_1 < ((((gi a i_1).2.2).2).length : Int)) → (I64 (i_1 + 1)) ∧ (K_1 (i_1 + 1))))
def ref18_SameAsked_j1 (a : List T_api_Asked) (b : List T_api_Asked) (Q : Bool → Prop) (i_1 : Int) (K_1 : Int → Prop) (b_1 : Bool) : Prop :=
 (b_1 = true → Q false) ∧ (b_1 = false → loopW (fun (K_2 : Int → Prop) (s : Int) => ref18_SameAsked_l2 a b Q i_1 K_1 K_2 s) 0)
def ref18_SameAsked_l1 (a : List T_api_Asked) (b : List T_api_Asked) (Q : Bool → Prop) (K_1 : Int → Prop) (i_1 : Int) : Prop :=
 (i_1 < (a.length : Int) → ((0 : Int) ≤ i_1 ∧ i_1 < (a.length : Int)) ∧ (((0 : Int) ≤ i_1 ∧ i_1 < (b.length : Int)) ∧ ((¬ ((((gi a i_1).1) : TA) = ((gi b i_1).1)) → ref18_SameAsked_j1 a b Q i_1 K_1 true) ∧ ((((gi a i_1).1) : TA) = ((gi b i_1).1) → ((!(((gi a i_1).2.1) == ((gi b i_1).2.1))) = true → ref18_SameAsked_j1 a b Q i_1 K_1 true) ∧ ((!(((gi a i_1).2.1) == ((gi b i_1).2.1))) = false → ref18_SameAsked_j1 a b Q i_1 K_1 (!decide (((((gi a i_1).2.2).2).length : Int) = ((((gi b i_1).2.2).2).length : Int)))))))) ∧ (¬ (i_1 < (a.length : Int)) → Q true)
def ref18_SameAsked_W (a : List T_api_Asked) (b : List T_api_Asked) (Q : Bool → Prop) : Prop :=
 (¬ ((a.length : Int) = (b.length : Int)) → Q false) ∧ ((a.length : Int) = (b.length : Int) → loopW (fun (K_1 : Int → Prop) (s : Int) => ref18_SameAsked_l1 a b Q K_1 s) 0)
theorem ref18_SameAsked_walk {F : Fz} {fr : List Ow} {h0 : Heap} (a : List T_api_Asked) (b : List T_api_Asked) (va : Value) (vb : Value) (hS : St F (fr) h0) (hN_a : NfL nf_api_Asked F h0 a) (hL_a : SliceF F h0 19 e_api_Asked va a) (hN_b : NfL nf_api_Asked F h0 b) (hL_b : SliceF F h0 19 e_api_Asked vb b) {Q : Bool → Prop} (hM : ref18_SameAsked_W a b Q) :
  HC Tryz.prog 53 #[va, vb] h0 fun u h' => ∃ (F' : Fz) (r_1 : Bool), u = .bool r_1 ∧ Kp F h0 F' h' ∧ St F' (fr) h' ∧ (NfL nf_api_Asked F' h' a) ∧ (SliceF F' h' 19 e_api_Asked va a) ∧ (NfL nf_api_Asked F' h' b) ∧ (SliceF F' h' 19 e_api_Asked vb b) ∧ Q r_1 := by
 unfold ref18_SameAsked_W at hM
 have hK := Kp.refl F h0
 refine HC.of_HW (n := 84) Tryz.func53 rfl rfl (Nat.le_of_ble_eq_true rfl) ?_
 refine HW.seq ?_
 refine HW.region ?_
 refine oA (.bool false) rfl rfl ?_
 refine HO.nil (thenQ_normal (?_))
 refine HW.seq ?_
 refine HW.seq ?_
 refine HW.region ?_
 refine oM (va) rfl rfl ?_
 refine oV (.int .i64 (a.length : Int)) (q_len ts_58 (shp hL_a.is) rfl rfl) rfl ?_
 refine oM (vb) rfl rfl ?_
 refine oV (.int .i64 (b.length : Int)) (q_len ts_58 (shp hL_b.is) rfl rfl) rfl ?_
 refine oV (.bool (!decide ((a.length : Int) = (b.length : Int)))) (q_neq rfl rfl) rfl ?_
 refine HO.nil (thenQ_normal (?_))
 refine HW.cond (!decide ((a.length : Int) = (b.length : Int))) rfl (fun c_1 => ?_) (fun c_1 => ?_)
 ·
  replace hM := hM.1 (nd_true c_1)
  refine HW.seq ?_
  refine HW.region ?_
  refine oA (.bool false) rfl rfl ?_
  refine HO.nil (thenQ_normal (?_))
  refine HW.ret (thenQ_ret (?_))
  refine ⟨.inr rfl, .bool false, res1 rfl (rt rfl), ?_⟩
  exact ⟨F, false, rfl, hK, hS, hN_a, hL_a, hN_b, hL_b, hM⟩
 ·
  replace hM := hM.2 (nd_false c_1)
  refine HW.skip (thenQ_normal (?_))
  refine HW.seq ?_
  refine HW.seq ?_
  refine HW.region ?_
  refine oA (.int .i64 0) rfl rfl ?_
  refine HO.nil (thenQ_normal (?_))
  refine HW.block ?_
  obtain ⟨I_1, m_1, hI_1, hR_1⟩ := hM
  refine HW.loop (S := Int) (fun i_1 f h => ∃ (F' : Fz), f 0 = va ∧ f 1 = vb ∧ f 4 = .bool false ∧ f 5 = .int .i64 i_1 ∧ Kp F h0 F' h ∧ St F' (fr) h ∧ (NfL nf_api_Asked F' h a) ∧ (SliceF F' h 19 e_api_Asked va a) ∧ (NfL nf_api_Asked F' h b) ∧ (SliceF F' h 19 e_api_Asked vb b) ∧ I_1 i_1) m_1 0 ⟨F, rfl, rfl, rfl, rfl, hK, hS, hN_a, hL_a, hN_b, hL_b, hI_1⟩ ?_
  rintro i_1 f_1 h_1 ⟨F_1, e0, e1, e4, e5, hK, hS, hN_a, hL_a, hN_b, hL_b, hI0⟩
  obtain ⟨K_1, hKe_1⟩ : ∃ K : Int → Prop, K = fun i_1' => I_1 i_1' ∧ m_1 i_1' < m_1 i_1 := ⟨_, rfl⟩
  have hM : ref18_SameAsked_l1 a b Q K_1 i_1 := by rw [hKe_1]; exact hR_1 i_1 hI0
  unfold ref18_SameAsked_l1 at hM
  refine HW.fr [(0, va), (1, vb), (4, .bool false), (5, .int .i64 i_1)] ⟨e0, e1, e4, e5, trivial⟩ ?_
  refine HW.seq ?_
  refine HW.seq ?_
  refine HW.region ?_
  refine oM (.int .i64 i_1) rfl rfl ?_
  refine oM (va) rfl rfl ?_
  refine oV (.int .i64 (a.length : Int)) (q_len ts_58 (shp hL_a.is) rfl rfl) rfl ?_
  refine oV (.bool (decide (i_1 < (a.length : Int)))) (q_lss rfl rfl) rfl ?_
  refine HO.nil (thenQ_normal (?_))
  refine HW.cond (decide (i_1 < (a.length : Int))) rfl (fun c_2 => ?_) (fun c_2 => ?_)
  ·
   replace hM := hM.1 (of_decide_eq_true c_2)
   refine HW.skip (thenQ_normal (?_))
   refine HW.seq ?_
   refine HW.block ?_
   refine HW.seq ?_
   refine HW.seq_mid (fun f h => ∃ (F' : Fz) (b_1 : Bool), f 0 = va ∧ f 1 = vb ∧ f 4 = .bool false ∧ f 5 = .int .i64 i_1 ∧ f 56 = .bool b_1 ∧ Kp F h0 F' h ∧ St F' (fr) h ∧ (NfL nf_api_Asked F' h a) ∧ (SliceF F' h 19 e_api_Asked va a) ∧ (NfL nf_api_Asked F' h b) ∧ (SliceF F' h 19 e_api_Asked vb b) ∧ ref18_SameAsked_j1 a b Q i_1 K_1 b_1) ?_ ?_
   ·
    refine HW.regionA 39 mixed (fun h => (NfI nf_api_Asked h a) ∧ (SliceIs h 19 e_api_Asked va a) ∧ (NfI nf_api_Asked h b) ∧ (SliceIs h 19 e_api_Asked vb b)) [] (by kernel_rfl) ?_
    refine HA.val (k := 0) (v := va) rfl rfl (by kernel_rfl) (by kernel_rfl) (want_none) rfl (fun _ ⟨hN_a, hL_a, hN_b, hL_b⟩ => q_move rfl) ?_
    refine HA.val (k := 1) (v := .int .i64 i_1) rfl rfl (by kernel_rfl) (by kernel_rfl) (want_none) rfl (fun _ ⟨hN_a, hL_a, hN_b, hL_b⟩ => q_move rfl) ?_
    obtain ⟨ho_1, hM⟩ := hM
    refine HA.val (k := 2) (v := elemPtr 19 va (i_1).toNat) rfl rfl (by kernel_rfl) (by kernel_rfl) (want_none) rfl (fun _ ⟨hN_a, hL_a, hN_b, hL_b⟩ => q_idx ts_58 hL_a rfl rfl ho_1) ?_
    refine HA.val (k := 3) (v := fieldPtr 19 va (i_1).toNat 0) rfl rfl (by kernel_rfl) (by kernel_rfl) (want_none) rfl (fun _ ⟨hN_a, hL_a, hN_b, hL_b⟩ => q_fldElem fa_97_0 hL_a rfl ho_1) ?_
    refine HA.val (k := 4) (v := .agg (eA ((gi a i_1).1)).toArray) rfl rfl (by kernel_rfl) (by kernel_rfl) (want_none) rfl (fun _ ⟨hN_a, hL_a, hN_b, hL_b⟩ => q_ldFieldAgg (n := 17) (cs := (eA ((gi a i_1).1))) ta_28 hL_a rfl ho_1 (by decide) rfl) ?_
    refine HA.val (k := 5) (v := vb) rfl rfl (by kernel_rfl) (by kernel_rfl) (want_none) rfl (fun _ ⟨hN_a, hL_a, hN_b, hL_b⟩ => q_move rfl) ?_
    refine HA.val (k := 6) (v := .int .i64 i_1) rfl rfl (by kernel_rfl) (by kernel_rfl) (want_none) rfl (fun _ ⟨hN_a, hL_a, hN_b, hL_b⟩ => q_move rfl) ?_
    obtain ⟨ho_2, hM⟩ := hM
    refine HA.val (k := 7) (v := elemPtr 19 vb (i_1).toNat) rfl rfl (by kernel_rfl) (by kernel_rfl) (want_none) rfl (fun _ ⟨hN_a, hL_a, hN_b, hL_b⟩ => q_idx ts_58 hL_b rfl rfl ho_2) ?_
    refine HA.val (k := 8) (v := fieldPtr 19 vb (i_1).toNat 0) rfl rfl (by kernel_rfl) (by kernel_rfl) (want_none) rfl (fun _ ⟨hN_a, hL_a, hN_b, hL_b⟩ => q_fldElem fa_97_0 hL_b rfl ho_2) ?_
    refine HA.val (k := 9) (v := .agg (eA ((gi b i_1).1)).toArray) rfl rfl (by kernel_rfl) (by kernel_rfl) (want_none) rfl (fun _ ⟨hN_a, hL_a, hN_b, hL_b⟩ => q_ldFieldAgg (n := 17) (cs := (eA ((gi b i_1).1))) ta_28 hL_b rfl ho_2 (by decide) rfl) ?_
    refine HA.val (k := 10) (v := .bool (!decide ((((gi a i_1).1) : TA) = ((gi b i_1).1)))) rfl rfl (by kernel_rfl) (by kernel_rfl) (want_none) rfl (fun _ ⟨hN_a, hL_a, hN_b, hL_b⟩ => q_neqAgg (a := ((gi a i_1).1)) (b := ((gi b i_1).1)) (fun a b w => teq_28 9997 a b w) (by kernel_rfl) rfl rfl rfl rfl) ?_
    refine HA.val (k := 11) (v := .bool (!decide ((((gi a i_1).1) : TA) = ((gi b i_1).1)))) rfl rfl (by kernel_rfl) (by kernel_rfl) (want_none) rfl (fun _ ⟨hN_a, hL_a, hN_b, hL_b⟩ => q_move rfl) ?_
    rcases Bool.eq_false_or_eq_true (!decide ((((gi a i_1).1) : TA) = ((gi b i_1).1))) with c_3 | c_3
    ·
     replace hM := hM.1 (nd_true c_3)
     refine HA.past (k := 12) rfl rfl (by kernel_rfl) (by kernel_rfl) (past_by rfl rfl c_3) rfl ?_
     refine HA.past (k := 13) rfl rfl (by kernel_rfl) (by kernel_rfl) (past_by rfl rfl c_3) rfl ?_
     refine HA.past (k := 14) rfl rfl (by kernel_rfl) (by kernel_rfl) (past_by rfl rfl c_3) rfl ?_
     refine HA.past (k := 15) rfl rfl (by kernel_rfl) (by kernel_rfl) (past_by rfl rfl c_3) rfl ?_
     refine HA.past (k := 16) rfl rfl (by kernel_rfl) (by kernel_rfl) (past_by rfl rfl c_3) rfl ?_
     refine HA.past (k := 17) rfl rfl (by kernel_rfl) (by kernel_rfl) (past_by rfl rfl c_3) rfl ?_
     refine HA.past (k := 18) rfl rfl (by kernel_rfl) (by kernel_rfl) (past_by rfl rfl c_3) rfl ?_
     refine HA.past (k := 19) rfl rfl (by kernel_rfl) (by kernel_rfl) (past_by rfl rfl c_3) rfl ?_
     refine HA.past (k := 20) rfl rfl (by kernel_rfl) (by kernel_rfl) (past_by rfl rfl c_3) rfl ?_
     refine HA.past (k := 21) rfl rfl (by kernel_rfl) (by kernel_rfl) (past_by rfl rfl c_3) rfl ?_
     refine HA.past (k := 22) rfl rfl (by kernel_rfl) (by kernel_rfl) (past_by rfl rfl c_3) rfl ?_
     refine HA.val (k := 23) (v := .bool true) rfl rfl (by kernel_rfl) (by kernel_rfl) (want_none) rfl (fun _ ⟨hN_a, hL_a, hN_b, hL_b⟩ => q_pickK true rfl c_3 rfl) ?_
     refine HA.val (k := 24) (v := .bool true) rfl rfl (by kernel_rfl) (by kernel_rfl) (want_none) rfl (fun _ ⟨hN_a, hL_a, hN_b, hL_b⟩ => q_move rfl) ?_
     refine HA.past (k := 25) rfl rfl (by kernel_rfl) (by kernel_rfl) (past_some rfl rfl) rfl ?_
     refine HA.past (k := 26) rfl rfl (by kernel_rfl) (by kernel_rfl) (past_some rfl rfl) rfl ?_
     refine HA.past (k := 27) rfl rfl (by kernel_rfl) (by kernel_rfl) (past_some rfl rfl) rfl ?_
     refine HA.past (k := 28) rfl rfl (by kernel_rfl) (by kernel_rfl) (past_some rfl rfl) rfl ?_
     refine HA.past (k := 29) rfl rfl (by kernel_rfl) (by kernel_rfl) (past_some rfl rfl) rfl ?_
     refine HA.past (k := 30) rfl rfl (by kernel_rfl) (by kernel_rfl) (past_some rfl rfl) rfl ?_
     refine HA.past (k := 31) rfl rfl (by kernel_rfl) (by kernel_rfl) (past_some rfl rfl) rfl ?_
     refine HA.past (k := 32) rfl rfl (by kernel_rfl) (by kernel_rfl) (past_some rfl rfl) rfl ?_
     refine HA.past (k := 33) rfl rfl (by kernel_rfl) (by kernel_rfl) (past_some rfl rfl) rfl ?_
     refine HA.past (k := 34) rfl rfl (by kernel_rfl) (by kernel_rfl) (past_some rfl rfl) rfl ?_
     refine HA.past (k := 35) rfl rfl (by kernel_rfl) (by kernel_rfl) (past_some rfl rfl) rfl ?_
     refine HA.past (k := 36) rfl rfl (by kernel_rfl) (by kernel_rfl) (past_some rfl rfl) rfl ?_
     refine HA.past (k := 37) rfl rfl (by kernel_rfl) (by kernel_rfl) (past_some rfl rfl) rfl ?_
     refine HA.val (k := 38) (v := .bool true) rfl rfl (by kernel_rfl) (by kernel_rfl) (want_none) rfl (fun _ ⟨hN_a, hL_a, hN_b, hL_b⟩ => q_pick rfl rfl) ?_
     refine HA.nil ⟨⟨hN_a.is, hL_a.is, hN_b.is, hL_b.is⟩, (Go.Wk.at_nil _ _)⟩ (by kernel_rfl) (thenQ_normal (?_))
     exact ⟨F_1, true, rfl, rfl, rfl, rfl, rfl, hK, hS, hN_a, hL_a, hN_b, hL_b, hM⟩
    ·
     replace hM := hM.2 (nd_false c_3)
     refine HA.val (k := 12) (v := va) rfl rfl (by kernel_rfl) (by kernel_rfl) (want_by rfl rfl c_3) rfl (fun _ ⟨hN_a, hL_a, hN_b, hL_b⟩ => q_move rfl) ?_
     refine HA.val (k := 13) (v := .int .i64 i_1) rfl rfl (by kernel_rfl) (by kernel_rfl) (want_by rfl rfl c_3) rfl (fun _ ⟨hN_a, hL_a, hN_b, hL_b⟩ => q_move rfl) ?_
     refine HA.val (k := 14) (v := elemPtr 19 va (i_1).toNat) rfl rfl (by kernel_rfl) (by kernel_rfl) (want_by rfl rfl c_3) rfl (fun _ ⟨hN_a, hL_a, hN_b, hL_b⟩ => q_idx ts_58 hL_a rfl rfl ho_1) ?_
     refine HA.val (k := 15) (v := fieldPtr 19 va (i_1).toNat 17) rfl rfl (by kernel_rfl) (by kernel_rfl) (want_by rfl rfl c_3) rfl (fun _ ⟨hN_a, hL_a, hN_b, hL_b⟩ => q_fldElem fa_97_1 hL_a rfl ho_1) ?_
     refine HA.val (k := 16) (v := .bool ((gi a i_1).2.1)) rfl rfl (by kernel_rfl) (by kernel_rfl) (want_by rfl rfl c_3) rfl (fun _ ⟨hN_a, hL_a, hN_b, hL_b⟩ => q_ldField to_4 hL_a rfl ho_1 (by decide) rfl) ?_
     refine HA.val (k := 17) (v := vb) rfl rfl (by kernel_rfl) (by kernel_rfl) (want_by rfl rfl c_3) rfl (fun _ ⟨hN_a, hL_a, hN_b, hL_b⟩ => q_move rfl) ?_
     refine HA.val (k := 18) (v := .int .i64 i_1) rfl rfl (by kernel_rfl) (by kernel_rfl) (want_by rfl rfl c_3) rfl (fun _ ⟨hN_a, hL_a, hN_b, hL_b⟩ => q_move rfl) ?_
     refine HA.val (k := 19) (v := elemPtr 19 vb (i_1).toNat) rfl rfl (by kernel_rfl) (by kernel_rfl) (want_by rfl rfl c_3) rfl (fun _ ⟨hN_a, hL_a, hN_b, hL_b⟩ => q_idx ts_58 hL_b rfl rfl ho_2) ?_
     refine HA.val (k := 20) (v := fieldPtr 19 vb (i_1).toNat 17) rfl rfl (by kernel_rfl) (by kernel_rfl) (want_by rfl rfl c_3) rfl (fun _ ⟨hN_a, hL_a, hN_b, hL_b⟩ => q_fldElem fa_97_1 hL_b rfl ho_2) ?_
     refine HA.val (k := 21) (v := .bool ((gi b i_1).2.1)) rfl rfl (by kernel_rfl) (by kernel_rfl) (want_by rfl rfl c_3) rfl (fun _ ⟨hN_a, hL_a, hN_b, hL_b⟩ => q_ldField to_4 hL_b rfl ho_2 (by decide) rfl) ?_
     refine HA.val (k := 22) (v := .bool (!(((gi a i_1).2.1) == ((gi b i_1).2.1)))) rfl rfl (by kernel_rfl) (by kernel_rfl) (want_by rfl rfl c_3) rfl (fun _ ⟨hN_a, hL_a, hN_b, hL_b⟩ => q_neqB Tryz.underlying4 rfl rfl) ?_
     refine HA.val (k := 23) (v := .bool (!(((gi a i_1).2.1) == ((gi b i_1).2.1)))) rfl rfl (by kernel_rfl) (by kernel_rfl) (want_none) rfl (fun _ ⟨hN_a, hL_a, hN_b, hL_b⟩ => q_pickK false rfl c_3 rfl) ?_
     refine HA.val (k := 24) (v := .bool (!(((gi a i_1).2.1) == ((gi b i_1).2.1)))) rfl rfl (by kernel_rfl) (by kernel_rfl) (want_none) rfl (fun _ ⟨hN_a, hL_a, hN_b, hL_b⟩ => q_move rfl) ?_
     rcases Bool.eq_false_or_eq_true (!(((gi a i_1).2.1) == ((gi b i_1).2.1))) with c_4 | c_4
     ·
      replace hM := hM.1 c_4
      refine HA.past (k := 25) rfl rfl (by kernel_rfl) (by kernel_rfl) (past_by rfl rfl c_4) rfl ?_
      refine HA.past (k := 26) rfl rfl (by kernel_rfl) (by kernel_rfl) (past_by rfl rfl c_4) rfl ?_
      refine HA.past (k := 27) rfl rfl (by kernel_rfl) (by kernel_rfl) (past_by rfl rfl c_4) rfl ?_
      refine HA.past (k := 28) rfl rfl (by kernel_rfl) (by kernel_rfl) (past_by rfl rfl c_4) rfl ?_
      refine HA.past (k := 29) rfl rfl (by kernel_rfl) (by kernel_rfl) (past_by rfl rfl c_4) rfl ?_
      refine HA.past (k := 30) rfl rfl (by kernel_rfl) (by kernel_rfl) (past_by rfl rfl c_4) rfl ?_
      refine HA.past (k := 31) rfl rfl (by kernel_rfl) (by kernel_rfl) (past_by rfl rfl c_4) rfl ?_
      refine HA.past (k := 32) rfl rfl (by kernel_rfl) (by kernel_rfl) (past_by rfl rfl c_4) rfl ?_
      refine HA.past (k := 33) rfl rfl (by kernel_rfl) (by kernel_rfl) (past_by rfl rfl c_4) rfl ?_
      refine HA.past (k := 34) rfl rfl (by kernel_rfl) (by kernel_rfl) (past_by rfl rfl c_4) rfl ?_
      refine HA.past (k := 35) rfl rfl (by kernel_rfl) (by kernel_rfl) (past_by rfl rfl c_4) rfl ?_
      refine HA.past (k := 36) rfl rfl (by kernel_rfl) (by kernel_rfl) (past_by rfl rfl c_4) rfl ?_
      refine HA.past (k := 37) rfl rfl (by kernel_rfl) (by kernel_rfl) (past_by rfl rfl c_4) rfl ?_
      refine HA.val (k := 38) (v := .bool true) rfl rfl (by kernel_rfl) (by kernel_rfl) (want_none) rfl (fun _ ⟨hN_a, hL_a, hN_b, hL_b⟩ => q_pickK true rfl c_4 rfl) ?_
      refine HA.nil ⟨⟨hN_a.is, hL_a.is, hN_b.is, hL_b.is⟩, (Go.Wk.at_nil _ _)⟩ (by kernel_rfl) (thenQ_normal (?_))
      exact ⟨F_1, true, rfl, rfl, rfl, rfl, rfl, hK, hS, hN_a, hL_a, hN_b, hL_b, hM⟩
     ·
      replace hM := hM.2 c_4
      refine HA.val (k := 25) (v := va) rfl rfl (by kernel_rfl) (by kernel_rfl) (want_by rfl rfl c_4) rfl (fun _ ⟨hN_a, hL_a, hN_b, hL_b⟩ => q_move rfl) ?_
      refine HA.val (k := 26) (v := .int .i64 i_1) rfl rfl (by kernel_rfl) (by kernel_rfl) (want_by rfl rfl c_4) rfl (fun _ ⟨hN_a, hL_a, hN_b, hL_b⟩ => q_move rfl) ?_
      refine HA.val (k := 27) (v := elemPtr 19 va (i_1).toNat) rfl rfl (by kernel_rfl) (by kernel_rfl) (want_by rfl rfl c_4) rfl (fun _ ⟨hN_a, hL_a, hN_b, hL_b⟩ => q_idx ts_58 hL_a rfl rfl ho_1) ?_
      refine HA.val (k := 28) (v := fieldPtr 19 va (i_1).toNat 18) rfl rfl (by kernel_rfl) (by kernel_rfl) (want_by rfl rfl c_4) rfl (fun _ ⟨hN_a, hL_a, hN_b, hL_b⟩ => q_fldElem fa_97_2 hL_a rfl ho_1) ?_
      refine HA.val (k := 29) (v := ((gi a i_1).2.2).1) rfl rfl (by kernel_rfl) (by kernel_rfl) (want_by rfl rfl c_4) rfl (fun _ ⟨hN_a, hL_a, hN_b, hL_b⟩ => q_ldField to_29 hL_a rfl ho_1 (by decide) rfl) ?_
      refine HA.val (k := 30) (v := .int .i64 ((((gi a i_1).2.2).2).length : Int)) rfl rfl (by kernel_rfl) (by kernel_rfl) (want_by rfl rfl c_4) rfl (fun _ ⟨hN_a, hL_a, hN_b, hL_b⟩ => q_len ts_29 (shp (nfi_api_Asked_18 (NfI.at hN_a ho_1))) rfl rfl) ?_
      refine HA.val (k := 31) (v := vb) rfl rfl (by kernel_rfl) (by kernel_rfl) (want_by rfl rfl c_4) rfl (fun _ ⟨hN_a, hL_a, hN_b, hL_b⟩ => q_move rfl) ?_
      refine HA.val (k := 32) (v := .int .i64 i_1) rfl rfl (by kernel_rfl) (by kernel_rfl) (want_by rfl rfl c_4) rfl (fun _ ⟨hN_a, hL_a, hN_b, hL_b⟩ => q_move rfl) ?_
      refine HA.val (k := 33) (v := elemPtr 19 vb (i_1).toNat) rfl rfl (by kernel_rfl) (by kernel_rfl) (want_by rfl rfl c_4) rfl (fun _ ⟨hN_a, hL_a, hN_b, hL_b⟩ => q_idx ts_58 hL_b rfl rfl ho_2) ?_
      refine HA.val (k := 34) (v := fieldPtr 19 vb (i_1).toNat 18) rfl rfl (by kernel_rfl) (by kernel_rfl) (want_by rfl rfl c_4) rfl (fun _ ⟨hN_a, hL_a, hN_b, hL_b⟩ => q_fldElem fa_97_2 hL_b rfl ho_2) ?_
      refine HA.val (k := 35) (v := ((gi b i_1).2.2).1) rfl rfl (by kernel_rfl) (by kernel_rfl) (want_by rfl rfl c_4) rfl (fun _ ⟨hN_a, hL_a, hN_b, hL_b⟩ => q_ldField to_29 hL_b rfl ho_2 (by decide) rfl) ?_
      refine HA.val (k := 36) (v := .int .i64 ((((gi b i_1).2.2).2).length : Int)) rfl rfl (by kernel_rfl) (by kernel_rfl) (want_by rfl rfl c_4) rfl (fun _ ⟨hN_a, hL_a, hN_b, hL_b⟩ => q_len ts_29 (shp (nfi_api_Asked_18 (NfI.at hN_b ho_2))) rfl rfl) ?_
      refine HA.val (k := 37) (v := .bool (!decide (((((gi a i_1).2.2).2).length : Int) = ((((gi b i_1).2.2).2).length : Int)))) rfl rfl (by kernel_rfl) (by kernel_rfl) (want_by rfl rfl c_4) rfl (fun _ ⟨hN_a, hL_a, hN_b, hL_b⟩ => q_neq rfl rfl) ?_
      refine HA.val (k := 38) (v := .bool (!decide (((((gi a i_1).2.2).2).length : Int) = ((((gi b i_1).2.2).2).length : Int)))) rfl rfl (by kernel_rfl) (by kernel_rfl) (want_none) rfl (fun _ ⟨hN_a, hL_a, hN_b, hL_b⟩ => q_pickK false rfl c_4 rfl) ?_
      refine HA.nil ⟨⟨hN_a.is, hL_a.is, hN_b.is, hL_b.is⟩, (Go.Wk.at_nil _ _)⟩ (by kernel_rfl) (thenQ_normal (?_))
      exact ⟨F_1, !decide (((((gi a i_1).2.2).2).length : Int) = ((((gi b i_1).2.2).2).length : Int)), rfl, rfl, rfl, rfl, rfl, hK, hS, hN_a, hL_a, hN_b, hL_b, hM⟩
   ·
    rintro f_2 h_2 ⟨F_2, b_1, e0, e1, e4, e5, e56, hK, hS, hN_a, hL_a, hN_b, hL_b, hM⟩
    unfold ref18_SameAsked_j1 at hM
    refine HW.fr [(0, va), (1, vb), (4, .bool false), (5, .int .i64 i_1), (56, .bool b_1)] ⟨e0, e1, e4, e5, e56, trivial⟩ ?_
    refine HW.cond b_1 rfl (fun c_5 => ?_) (fun c_5 => ?_)
    ·
     replace hM := hM.1 c_5
     refine HW.seq ?_
     refine HW.region ?_
     refine oA (.bool false) rfl rfl ?_
     refine HO.nil (thenQ_normal (?_))
     refine HW.ret (thenQ_ret (blockQ_ret (thenQ_ret (thenQ_ret (blockQ_ret (thenQ_ret (?_)))))))
     refine ⟨.inr rfl, .bool false, res1 rfl (rt rfl), ?_⟩
     exact ⟨F_2, false, rfl, hK, hS, hN_a, hL_a, hN_b, hL_b, hM⟩
    ·
     replace hM := hM.2 c_5
     refine HW.skip (thenQ_normal (?_))
     refine HW.seq ?_
     refine HW.region ?_
     refine oA (.int .i64 0) rfl rfl ?_
     refine HO.nil (thenQ_normal (?_))
     refine HW.block ?_
     obtain ⟨I_2, m_2, hI_2, hR_2⟩ := hM
     refine HW.loop (S := Int) (fun k_1 f h => ∃ (F' : Fz), f 0 = va ∧ f 1 = vb ∧ f 4 = .bool false ∧ f 5 = .int .i64 i_1 ∧ f 6 = .int .i64 k_1 ∧ Kp F h0 F' h ∧ St F' (fr) h ∧ (NfL nf_api_Asked F' h a) ∧ (SliceF F' h 19 e_api_Asked va a) ∧ (NfL nf_api_Asked F' h b) ∧ (SliceF F' h 19 e_api_Asked vb b) ∧ I_2 k_1) m_2 0 ⟨F_2, rfl, rfl, rfl, rfl, rfl, hK, hS, hN_a, hL_a, hN_b, hL_b, hI_2⟩ ?_
     rintro k_1 f_3 h_3 ⟨F_3, e0, e1, e4, e5, e6, hK, hS, hN_a, hL_a, hN_b, hL_b, hI0⟩
     obtain ⟨K_2, hKe_2⟩ : ∃ K : Int → Prop, K = fun k_1' => I_2 k_1' ∧ m_2 k_1' < m_2 k_1 := ⟨_, rfl⟩
     have hM : ref18_SameAsked_l2 a b Q i_1 K_1 K_2 k_1 := by rw [hKe_2]; exact hR_2 k_1 hI0
     unfold ref18_SameAsked_l2 at hM
     refine HW.fr [(0, va), (1, vb), (4, .bool false), (5, .int .i64 i_1), (6, .int .i64 k_1)] ⟨e0, e1, e4, e5, e6, trivial⟩ ?_
     refine HW.seq ?_
     refine HW.seq ?_
     refine HW.region ?_
     refine oM (.int .i64 k_1) rfl rfl ?_
     refine oM (va) rfl rfl ?_
     refine oM (.int .i64 i_1) rfl rfl ?_
     obtain ⟨ho_3, hM⟩ := hM
     refine oV (elemPtr 19 va (i_1).toNat) (q_idx ts_58 hL_a.is rfl rfl ho_3) rfl ?_
     refine oV (fieldPtr 19 va (i_1).toNat 18) (q_fldElem fa_97_2 hL_a.is rfl ho_3) rfl ?_
     refine oV (((gi a i_1).2.2).1) (q_ldField to_29 hL_a.is rfl ho_3 (by decide) rfl) rfl ?_
     refine oV (.int .i64 ((((gi a i_1).2.2).2).length : Int)) (q_len ts_29 (shp (nfi_api_Asked_18 (NfI.at hN_a.is ho_3))) rfl rfl) rfl ?_
     refine oV (.bool (decide (k_1 < ((((gi a i_1).2.2).2).length : Int)))) (q_lss rfl rfl) rfl ?_
     refine HO.nil (thenQ_normal (?_))
     refine HW.cond (decide (k_1 < ((((gi a i_1).2.2).2).length : Int))) rfl (fun c_6 => ?_) (fun c_6 => ?_)
     ·
      replace hM := hM.1 (of_decide_eq_true c_6)
      refine HW.skip (thenQ_normal (?_))
      refine HW.seq ?_
      refine HW.block ?_
      refine HW.seq ?_
      refine HW.regionA 17 mixed (fun h => (NfI nf_api_Asked h a) ∧ (SliceIs h 19 e_api_Asked va a) ∧ (NfI nf_api_Asked h b) ∧ (SliceIs h 19 e_api_Asked vb b)) [] (by kernel_rfl) ?_
      refine HA.val (k := 0) (v := va) rfl rfl (by kernel_rfl) (by kernel_rfl) (want_none) rfl (fun _ ⟨hN_a, hL_a, hN_b, hL_b⟩ => q_move rfl) ?_
      refine HA.val (k := 1) (v := .int .i64 i_1) rfl rfl (by kernel_rfl) (by kernel_rfl) (want_none) rfl (fun _ ⟨hN_a, hL_a, hN_b, hL_b⟩ => q_move rfl) ?_
      refine HA.val (k := 2) (v := elemPtr 19 va (i_1).toNat) rfl rfl (by kernel_rfl) (by kernel_rfl) (want_none) rfl (fun _ ⟨hN_a, hL_a, hN_b, hL_b⟩ => q_idx ts_58 hL_a rfl rfl ho_3) ?_
      refine HA.val (k := 3) (v := fieldPtr 19 va (i_1).toNat 18) rfl rfl (by kernel_rfl) (by kernel_rfl) (want_none) rfl (fun _ ⟨hN_a, hL_a, hN_b, hL_b⟩ => q_fldElem fa_97_2 hL_a rfl ho_3) ?_
      refine HA.val (k := 4) (v := ((gi a i_1).2.2).1) rfl rfl (by kernel_rfl) (by kernel_rfl) (want_none) rfl (fun _ ⟨hN_a, hL_a, hN_b, hL_b⟩ => q_ldField to_29 hL_a rfl ho_3 (by decide) rfl) ?_
      refine HA.val (k := 5) (v := .int .i64 k_1) rfl rfl (by kernel_rfl) (by kernel_rfl) (want_none) rfl (fun _ ⟨hN_a, hL_a, hN_b, hL_b⟩ => q_move rfl) ?_
      obtain ⟨ho_4, hM⟩ := hM
      refine HA.val (k := 6) (v := elemPtr 17 (((gi a i_1).2.2).1) (k_1).toNat) rfl rfl (by kernel_rfl) (by kernel_rfl) (want_none) rfl (fun _ ⟨hN_a, hL_a, hN_b, hL_b⟩ => q_idx ts_29 (nfi_api_Asked_18 (NfI.at hN_a ho_3)) rfl rfl ho_4) ?_
      refine HA.val (k := 7) (v := .agg (eA (gi (((gi a i_1).2.2).2) k_1)).toArray) rfl rfl (by kernel_rfl) (by kernel_rfl) (want_none) rfl (fun _ ⟨hN_a, hL_a, hN_b, hL_b⟩ => q_ldElemAgg (cs := (eA (gi (((gi a i_1).2.2).2) k_1))) ta_28 (nfi_api_Asked_18 (NfI.at hN_a ho_3)) rfl ho_4 rfl) ?_
      refine HA.val (k := 8) (v := vb) rfl rfl (by kernel_rfl) (by kernel_rfl) (want_none) rfl (fun _ ⟨hN_a, hL_a, hN_b, hL_b⟩ => q_move rfl) ?_
      refine HA.val (k := 9) (v := .int .i64 i_1) rfl rfl (by kernel_rfl) (by kernel_rfl) (want_none) rfl (fun _ ⟨hN_a, hL_a, hN_b, hL_b⟩ => q_move rfl) ?_
      obtain ⟨ho_5, hM⟩ := hM
      refine HA.val (k := 10) (v := elemPtr 19 vb (i_1).toNat) rfl rfl (by kernel_rfl) (by kernel_rfl) (want_none) rfl (fun _ ⟨hN_a, hL_a, hN_b, hL_b⟩ => q_idx ts_58 hL_b rfl rfl ho_5) ?_
      refine HA.val (k := 11) (v := fieldPtr 19 vb (i_1).toNat 18) rfl rfl (by kernel_rfl) (by kernel_rfl) (want_none) rfl (fun _ ⟨hN_a, hL_a, hN_b, hL_b⟩ => q_fldElem fa_97_2 hL_b rfl ho_5) ?_
      refine HA.val (k := 12) (v := ((gi b i_1).2.2).1) rfl rfl (by kernel_rfl) (by kernel_rfl) (want_none) rfl (fun _ ⟨hN_a, hL_a, hN_b, hL_b⟩ => q_ldField to_29 hL_b rfl ho_5 (by decide) rfl) ?_
      refine HA.val (k := 13) (v := .int .i64 k_1) rfl rfl (by kernel_rfl) (by kernel_rfl) (want_none) rfl (fun _ ⟨hN_a, hL_a, hN_b, hL_b⟩ => q_move rfl) ?_
      obtain ⟨ho_6, hM⟩ := hM
      refine HA.val (k := 14) (v := elemPtr 17 (((gi b i_1).2.2).1) (k_1).toNat) rfl rfl (by kernel_rfl) (by kernel_rfl) (want_none) rfl (fun _ ⟨hN_a, hL_a, hN_b, hL_b⟩ => q_idx ts_29 (nfi_api_Asked_18 (NfI.at hN_b ho_5)) rfl rfl ho_6) ?_
      refine HA.val (k := 15) (v := .agg (eA (gi (((gi b i_1).2.2).2) k_1)).toArray) rfl rfl (by kernel_rfl) (by kernel_rfl) (want_none) rfl (fun _ ⟨hN_a, hL_a, hN_b, hL_b⟩ => q_ldElemAgg (cs := (eA (gi (((gi b i_1).2.2).2) k_1))) ta_28 (nfi_api_Asked_18 (NfI.at hN_b ho_5)) rfl ho_6 rfl) ?_
      refine HA.val (k := 16) (v := .bool (!decide (((gi (((gi a i_1).2.2).2) k_1) : TA) = (gi (((gi b i_1).2.2).2) k_1)))) rfl rfl (by kernel_rfl) (by kernel_rfl) (want_none) rfl (fun _ ⟨hN_a, hL_a, hN_b, hL_b⟩ => q_neqAgg (a := (gi (((gi a i_1).2.2).2) k_1)) (b := (gi (((gi b i_1).2.2).2) k_1)) (fun a b w => teq_28 9997 a b w) (by kernel_rfl) rfl rfl rfl rfl) ?_
      refine HA.nil ⟨⟨hN_a.is, hL_a.is, hN_b.is, hL_b.is⟩, (Go.Wk.at_nil _ _)⟩ (by kernel_rfl) (thenQ_normal (?_))
      refine HW.cond (!decide (((gi (((gi a i_1).2.2).2) k_1) : TA) = (gi (((gi b i_1).2.2).2) k_1))) rfl (fun c_7 => ?_) (fun c_7 => ?_)
      ·
       replace hM := hM.1 (nd_true c_7)
       refine HW.seq ?_
       refine HW.region ?_
       refine oA (.bool false) rfl rfl ?_
       refine HO.nil (thenQ_normal (?_))
       refine HW.ret (blockQ_ret (thenQ_ret (thenQ_ret (blockQ_ret (blockQ_ret (thenQ_ret (thenQ_ret (blockQ_ret (thenQ_ret (?_))))))))))
       refine ⟨.inr rfl, .bool false, res1 rfl (rt rfl), ?_⟩
       exact ⟨F_3, false, rfl, hK, hS, hN_a, hL_a, hN_b, hL_b, hM⟩
      ·
       replace hM := hM.2 (nd_false c_7)
       refine HW.skip (blockQ_normal (thenQ_normal (?_)))
       refine HW.region ?_
       refine oM (.int .i64 k_1) rfl rfl ?_
       obtain ⟨ho_7, hM⟩ := hM
       refine oV (.int .i64 (k_1 + 1)) (q_addN _ rfl rfl rfl ho_7.1 ho_7.2) rfl ?_
       refine oA (.int .i64 (k_1 + 1)) rfl rfl ?_
       refine HO.nil (thenQ_normal (?_))
       rw [hKe_2] at hM
       exact ⟨k_1 + 1, ⟨F_3, rfl, rfl, rfl, rfl, rfl, hK, hS, hN_a, hL_a, hN_b, hL_b, hM.1⟩, hM.2⟩
     ·
      replace hM := hM.2 (of_decide_eq_false c_6)
      refine HW.exit (thenQ_exit (thenQ_exit (blockQ_exit (blockQ_normal (thenQ_normal (?_))))))
      refine HW.region ?_
      refine oM (.int .i64 i_1) rfl rfl ?_
      obtain ⟨ho_8, hM⟩ := hM
      refine oV (.int .i64 (i_1 + 1)) (q_addN _ rfl rfl rfl ho_8.1 ho_8.2) rfl ?_
      refine oA (.int .i64 (i_1 + 1)) rfl rfl ?_
      refine HO.nil (thenQ_normal (?_))
      rw [hKe_1] at hM
      exact ⟨i_1 + 1, ⟨F_3, rfl, rfl, rfl, rfl, hK, hS, hN_a, hL_a, hN_b, hL_b, hM.1⟩, hM.2⟩
  ·
   replace hM := hM.2 (of_decide_eq_false c_2)
   refine HW.exit (thenQ_exit (thenQ_exit (blockQ_exit (thenQ_normal (?_)))))
   refine HW.seq ?_
   refine HW.region ?_
   refine oA (.bool true) rfl rfl ?_
   refine HO.nil (thenQ_normal (?_))
   refine HW.ret (?_)
   refine ⟨.inr rfl, .bool true, res1 rfl (rt rfl), ?_⟩
   exact ⟨F_1, true, rfl, hK, hS, hN_a, hL_a, hN_b, hL_b, hM⟩
def cmp_isNaN_int_W (x : Int) (Q : Bool → Prop) : Prop :=
 Q (!decide (x = x))
theorem cmp_isNaN_int_walk {F : Fz} {fr : List Ow} {h0 : Heap} (x : Int) (hS : St F (fr) h0)  {Q : Bool → Prop} (hM : cmp_isNaN_int_W x Q) :
  HC Tryz.prog 234 #[.int .i64 x] h0 fun u h' => ∃ (F' : Fz) (r_1 : Bool), u = .bool r_1 ∧ Kp F h0 F' h' ∧ St F' (fr) h' ∧ Q r_1 := by
 unfold cmp_isNaN_int_W at hM
 have hK := Kp.refl F h0
 refine HC.of_HW (n := 6) Tryz.func234 rfl rfl (Nat.le_of_ble_eq_true rfl) ?_
 refine HW.seq ?_
 refine HW.region ?_
 refine oA (.bool false) rfl rfl ?_
 refine HO.nil (thenQ_normal (?_))
 refine HW.seq ?_
 refine HW.region ?_
 refine oM (.int .i64 x) rfl rfl ?_
 refine oM (.int .i64 x) rfl rfl ?_
 refine oV (.bool (!decide (x = x))) (q_neq rfl rfl) rfl ?_
 refine oA (.bool (!decide (x = x))) rfl rfl ?_
 refine HO.nil (thenQ_normal (?_))
 refine HW.ret (?_)
 refine ⟨.inr rfl, .bool (!decide (x = x)), res1 rfl (rt rfl), ?_⟩
 exact ⟨F, !decide (x = x), rfl, hK, hS, hM⟩
def cmp_Compare_int_W (x : Int) (y : Int) (Q : Int → Prop) : Prop :=
 cmp_isNaN_int_W x (fun r_2 => cmp_isNaN_int_W y (fun r_3 => (r_2 = true → (r_3 = true → Q 0) ∧ (r_3 = false → Q (-1))) ∧ (r_2 = false → (r_3 = true → Q 1) ∧ (r_3 = false → (x < y → Q (-1)) ∧ (¬ (x < y) → (y < x → Q 1) ∧ (¬ (y < x) → Q 0))))))
theorem cmp_Compare_int_walk {F : Fz} {fr : List Ow} {h0 : Heap} (x : Int) (y : Int) (hS : St F (fr) h0)  {Q : Int → Prop} (hM : cmp_Compare_int_W x y Q) :
  HC Tryz.prog 215 #[.int .i64 x, .int .i64 y] h0 fun u h' => ∃ (F' : Fz) (r_1 : Int), u = .int .i64 r_1 ∧ Kp F h0 F' h' ∧ St F' (fr) h' ∧ Q r_1 := by
 unfold cmp_Compare_int_W at hM
 have hK := Kp.refl F h0
 refine HC.of_HW (n := 20) Tryz.func215 rfl rfl (Nat.le_of_ble_eq_true rfl) ?_
 refine HW.seq ?_
 refine HW.region ?_
 refine oA (.int .i64 0) rfl rfl ?_
 refine HO.nil (thenQ_normal (?_))
 refine HW.seq ?_
 refine HW.region ?_
 refine oM (.int .i64 x) rfl rfl ?_
 refine HO.call (want_none) rfl (ec en_234 rfl rfl) (cmp_isNaN_int_walk (fr := (fr)) x hS hM) ?_
 rintro _ h_1 ⟨F_1, r_2, rfl, hk, hS, hM⟩
 replace hK := hK.trans hk
 refine oA (.bool r_2) rfl rfl ?_
 refine HO.nil (thenQ_normal (?_))
 refine HW.seq ?_
 refine HW.region ?_
 refine oM (.int .i64 y) rfl rfl ?_
 refine HO.call (want_none) rfl (ec en_234 rfl rfl) (cmp_isNaN_int_walk (fr := (fr)) y hS hM) ?_
 rintro _ h_2 ⟨F_2, r_3, rfl, hk, hS, hM⟩
 replace hK := hK.trans hk
 refine oA (.bool r_3) rfl rfl ?_
 refine HO.nil (thenQ_normal (?_))
 refine HW.seq ?_
 refine HW.seq ?_
 refine HW.region ?_
 refine oM (.bool r_2) rfl rfl ?_
 refine HO.nil (thenQ_normal (?_))
 refine HW.cond r_2 rfl (fun c_1 => ?_) (fun c_1 => ?_)
 ·
  replace hM := hM.1 c_1
  refine HW.seq ?_
  refine HW.seq ?_
  refine HW.region ?_
  refine oM (.bool r_3) rfl rfl ?_
  refine HO.nil (thenQ_normal (?_))
  refine HW.cond r_3 rfl (fun c_2 => ?_) (fun c_2 => ?_)
  ·
   replace hM := hM.1 c_2
   refine HW.seq ?_
   refine HW.region ?_
   refine oA (.int .i64 0) rfl rfl ?_
   refine HO.nil (thenQ_normal (?_))
   refine HW.ret (thenQ_ret (thenQ_ret (?_)))
   refine ⟨.inr rfl, .int .i64 0, res1 rfl (rt rfl), ?_⟩
   exact ⟨F_2, 0, rfl, hK, hS, hM⟩
  ·
   replace hM := hM.2 c_2
   refine HW.skip (thenQ_normal (?_))
   refine HW.seq ?_
   refine HW.region ?_
   refine oA (.int .i64 (-1)) rfl rfl ?_
   refine HO.nil (thenQ_normal (?_))
   refine HW.ret (thenQ_ret (?_))
   refine ⟨.inr rfl, .int .i64 (-1), res1 rfl (rt rfl), ?_⟩
   exact ⟨F_2, (-1), rfl, hK, hS, hM⟩
 ·
  replace hM := hM.2 c_1
  refine HW.skip (thenQ_normal (?_))
  refine HW.seq ?_
  refine HW.seq ?_
  refine HW.region ?_
  refine oM (.bool r_3) rfl rfl ?_
  refine HO.nil (thenQ_normal (?_))
  refine HW.cond r_3 rfl (fun c_3 => ?_) (fun c_3 => ?_)
  ·
   replace hM := hM.1 c_3
   refine HW.seq ?_
   refine HW.region ?_
   refine oA (.int .i64 1) rfl rfl ?_
   refine HO.nil (thenQ_normal (?_))
   refine HW.ret (thenQ_ret (?_))
   refine ⟨.inr rfl, .int .i64 1, res1 rfl (rt rfl), ?_⟩
   exact ⟨F_2, 1, rfl, hK, hS, hM⟩
  ·
   replace hM := hM.2 c_3
   refine HW.skip (thenQ_normal (?_))
   refine HW.seq ?_
   refine HW.seq ?_
   refine HW.region ?_
   refine oM (.int .i64 x) rfl rfl ?_
   refine oM (.int .i64 y) rfl rfl ?_
   refine oV (.bool (decide (x < y))) (q_lss rfl rfl) rfl ?_
   refine HO.nil (thenQ_normal (?_))
   refine HW.cond (decide (x < y)) rfl (fun c_4 => ?_) (fun c_4 => ?_)
   ·
    replace hM := hM.1 (of_decide_eq_true c_4)
    refine HW.seq ?_
    refine HW.region ?_
    refine oA (.int .i64 (-1)) rfl rfl ?_
    refine HO.nil (thenQ_normal (?_))
    refine HW.ret (thenQ_ret (?_))
    refine ⟨.inr rfl, .int .i64 (-1), res1 rfl (rt rfl), ?_⟩
    exact ⟨F_2, (-1), rfl, hK, hS, hM⟩
   ·
    replace hM := hM.2 (of_decide_eq_false c_4)
    refine HW.skip (thenQ_normal (?_))
    refine HW.seq ?_
    refine HW.seq ?_
    refine HW.region ?_
    refine oM (.int .i64 x) rfl rfl ?_
    refine oM (.int .i64 y) rfl rfl ?_
    refine oV (.bool (decide (y < x))) (q_gtr rfl rfl) rfl ?_
    refine HO.nil (thenQ_normal (?_))
    refine HW.cond (decide (y < x)) rfl (fun c_5 => ?_) (fun c_5 => ?_)
    ·
     replace hM := hM.1 (of_decide_eq_true c_5)
     refine HW.seq ?_
     refine HW.region ?_
     refine oA (.int .i64 1) rfl rfl ?_
     refine HO.nil (thenQ_normal (?_))
     refine HW.ret (thenQ_ret (?_))
     refine ⟨.inr rfl, .int .i64 1, res1 rfl (rt rfl), ?_⟩
     exact ⟨F_2, 1, rfl, hK, hS, hM⟩
    ·
     replace hM := hM.2 (of_decide_eq_false c_5)
     refine HW.skip (thenQ_normal (?_))
     refine HW.seq ?_
     refine HW.region ?_
     refine oA (.int .i64 0) rfl rfl ?_
     refine HO.nil (thenQ_normal (?_))
     refine HW.ret (?_)
     refine ⟨.inr rfl, .int .i64 0, res1 rfl (rt rfl), ?_⟩
     exact ⟨F_2, 0, rfl, hK, hS, hM⟩
def cmp_isNaN_string_W (x : Str) (Q : Bool → Prop) : Prop :=
 Q (!decide ((x : Str) = x))
theorem cmp_isNaN_string_walk {F : Fz} {fr : List Ow} {h0 : Heap} (x : Str) (hS : St F (fr) h0)  {Q : Bool → Prop} (hM : cmp_isNaN_string_W x Q) :
  HC Tryz.prog 235 #[.string (bs x)] h0 fun u h' => ∃ (F' : Fz) (r_1 : Bool), u = .bool r_1 ∧ Kp F h0 F' h' ∧ St F' (fr) h' ∧ Q r_1 := by
 unfold cmp_isNaN_string_W at hM
 have hK := Kp.refl F h0
 refine HC.of_HW (n := 6) Tryz.func235 rfl rfl (Nat.le_of_ble_eq_true rfl) ?_
 refine HW.seq ?_
 refine HW.region ?_
 refine oA (.bool false) rfl rfl ?_
 refine HO.nil (thenQ_normal (?_))
 refine HW.seq ?_
 refine HW.region ?_
 refine oM (.string (bs x)) rfl rfl ?_
 refine oM (.string (bs x)) rfl rfl ?_
 refine oV (.bool (!decide ((x : Str) = x))) (q_neqT rfl rfl) rfl ?_
 refine oA (.bool (!decide ((x : Str) = x))) rfl rfl ?_
 refine HO.nil (thenQ_normal (?_))
 refine HW.ret (?_)
 refine ⟨.inr rfl, .bool (!decide ((x : Str) = x)), res1 rfl (rt rfl), ?_⟩
 exact ⟨F, !decide ((x : Str) = x), rfl, hK, hS, hM⟩
def cmp_Compare_string_W (x : Str) (y : Str) (Q : Int → Prop) : Prop :=
 cmp_isNaN_string_W x (fun r_2 => cmp_isNaN_string_W y (fun r_3 => (r_2 = true → (r_3 = true → Q 0) ∧ (r_3 = false → Q (-1))) ∧ (r_2 = false → (r_3 = true → Q 1) ∧ (r_3 = false → ((x : Str) < (y : Str) → Q (-1)) ∧ (¬ ((x : Str) < (y : Str)) → (¬ ((x : Str) < (y : Str) ∨ (x : Str) = (y : Str)) → Q 1) ∧ ((x : Str) < (y : Str) ∨ (x : Str) = (y : Str) → Q 0))))))
theorem cmp_Compare_string_walk {F : Fz} {fr : List Ow} {h0 : Heap} (x : Str) (y : Str) (hS : St F (fr) h0)  {Q : Int → Prop} (hM : cmp_Compare_string_W x y Q) :
  HC Tryz.prog 216 #[.string (bs x), .string (bs y)] h0 fun u h' => ∃ (F' : Fz) (r_1 : Int), u = .int .i64 r_1 ∧ Kp F h0 F' h' ∧ St F' (fr) h' ∧ Q r_1 := by
 unfold cmp_Compare_string_W at hM
 have hK := Kp.refl F h0
 refine HC.of_HW (n := 20) Tryz.func216 rfl rfl (Nat.le_of_ble_eq_true rfl) ?_
 refine HW.seq ?_
 refine HW.region ?_
 refine oA (.int .i64 0) rfl rfl ?_
 refine HO.nil (thenQ_normal (?_))
 refine HW.seq ?_
 refine HW.region ?_
 refine oM (.string (bs x)) rfl rfl ?_
 refine HO.call (want_none) rfl (ec en_235 rfl rfl) (cmp_isNaN_string_walk (fr := (fr)) x hS hM) ?_
 rintro _ h_1 ⟨F_1, r_2, rfl, hk, hS, hM⟩
 replace hK := hK.trans hk
 refine oA (.bool r_2) rfl rfl ?_
 refine HO.nil (thenQ_normal (?_))
 refine HW.seq ?_
 refine HW.region ?_
 refine oM (.string (bs y)) rfl rfl ?_
 refine HO.call (want_none) rfl (ec en_235 rfl rfl) (cmp_isNaN_string_walk (fr := (fr)) y hS hM) ?_
 rintro _ h_2 ⟨F_2, r_3, rfl, hk, hS, hM⟩
 replace hK := hK.trans hk
 refine oA (.bool r_3) rfl rfl ?_
 refine HO.nil (thenQ_normal (?_))
 refine HW.seq ?_
 refine HW.seq ?_
 refine HW.region ?_
 refine oM (.bool r_2) rfl rfl ?_
 refine HO.nil (thenQ_normal (?_))
 refine HW.cond r_2 rfl (fun c_1 => ?_) (fun c_1 => ?_)
 ·
  replace hM := hM.1 c_1
  refine HW.seq ?_
  refine HW.seq ?_
  refine HW.region ?_
  refine oM (.bool r_3) rfl rfl ?_
  refine HO.nil (thenQ_normal (?_))
  refine HW.cond r_3 rfl (fun c_2 => ?_) (fun c_2 => ?_)
  ·
   replace hM := hM.1 c_2
   refine HW.seq ?_
   refine HW.region ?_
   refine oA (.int .i64 0) rfl rfl ?_
   refine HO.nil (thenQ_normal (?_))
   refine HW.ret (thenQ_ret (thenQ_ret (?_)))
   refine ⟨.inr rfl, .int .i64 0, res1 rfl (rt rfl), ?_⟩
   exact ⟨F_2, 0, rfl, hK, hS, hM⟩
  ·
   replace hM := hM.2 c_2
   refine HW.skip (thenQ_normal (?_))
   refine HW.seq ?_
   refine HW.region ?_
   refine oA (.int .i64 (-1)) rfl rfl ?_
   refine HO.nil (thenQ_normal (?_))
   refine HW.ret (thenQ_ret (?_))
   refine ⟨.inr rfl, .int .i64 (-1), res1 rfl (rt rfl), ?_⟩
   exact ⟨F_2, (-1), rfl, hK, hS, hM⟩
 ·
  replace hM := hM.2 c_1
  refine HW.skip (thenQ_normal (?_))
  refine HW.seq ?_
  refine HW.seq ?_
  refine HW.region ?_
  refine oM (.bool r_3) rfl rfl ?_
  refine HO.nil (thenQ_normal (?_))
  refine HW.cond r_3 rfl (fun c_3 => ?_) (fun c_3 => ?_)
  ·
   replace hM := hM.1 c_3
   refine HW.seq ?_
   refine HW.region ?_
   refine oA (.int .i64 1) rfl rfl ?_
   refine HO.nil (thenQ_normal (?_))
   refine HW.ret (thenQ_ret (?_))
   refine ⟨.inr rfl, .int .i64 1, res1 rfl (rt rfl), ?_⟩
   exact ⟨F_2, 1, rfl, hK, hS, hM⟩
  ·
   replace hM := hM.2 c_3
   refine HW.skip (thenQ_normal (?_))
   refine HW.seq ?_
   refine HW.seq ?_
   refine HW.region ?_
   refine oM (.string (bs x)) rfl rfl ?_
   refine oM (.string (bs y)) rfl rfl ?_
   refine oV (.bool (decide ((x : Str) < (y : Str)))) (q_lssT rfl rfl) rfl ?_
   refine HO.nil (thenQ_normal (?_))
   refine HW.cond (decide ((x : Str) < (y : Str))) rfl (fun c_4 => ?_) (fun c_4 => ?_)
   ·
    replace hM := hM.1 (of_decide_eq_true c_4)
    refine HW.seq ?_
    refine HW.region ?_
    refine oA (.int .i64 (-1)) rfl rfl ?_
    refine HO.nil (thenQ_normal (?_))
    refine HW.ret (thenQ_ret (?_))
    refine ⟨.inr rfl, .int .i64 (-1), res1 rfl (rt rfl), ?_⟩
    exact ⟨F_2, (-1), rfl, hK, hS, hM⟩
   ·
    replace hM := hM.2 (of_decide_eq_false c_4)
    refine HW.skip (thenQ_normal (?_))
    refine HW.seq ?_
    refine HW.seq ?_
    refine HW.region ?_
    refine oM (.string (bs x)) rfl rfl ?_
    refine oM (.string (bs y)) rfl rfl ?_
    refine oV (.bool (!decide ((x : Str) < (y : Str) ∨ (x : Str) = (y : Str)))) (q_gtrT rfl rfl) rfl ?_
    refine HO.nil (thenQ_normal (?_))
    refine HW.cond (!decide ((x : Str) < (y : Str) ∨ (x : Str) = (y : Str))) rfl (fun c_5 => ?_) (fun c_5 => ?_)
    ·
     replace hM := hM.1 (nd_true c_5)
     refine HW.seq ?_
     refine HW.region ?_
     refine oA (.int .i64 1) rfl rfl ?_
     refine HO.nil (thenQ_normal (?_))
     refine HW.ret (thenQ_ret (?_))
     refine ⟨.inr rfl, .int .i64 1, res1 rfl (rt rfl), ?_⟩
     exact ⟨F_2, 1, rfl, hK, hS, hM⟩
    ·
     replace hM := hM.2 (nd_false c_5)
     refine HW.skip (thenQ_normal (?_))
     refine HW.seq ?_
     refine HW.region ?_
     refine oA (.int .i64 0) rfl rfl ?_
     refine HO.nil (thenQ_normal (?_))
     refine HW.ret (?_)
     refine ⟨.inr rfl, .int .i64 0, res1 rfl (rt rfl), ?_⟩
     exact ⟨F_2, 0, rfl, hK, hS, hM⟩
def cmp_Or_int_l1 (vals : List Int) (Q : Int → Prop) (K_1 : Int → Prop) (n_1 : Int) : Prop :=
 (n_1 < (vals.length : Int) → ((0 : Int) ≤ n_1 ∧ n_1 < (vals.length : Int)) ∧ ((¬ ((gi vals n_1) = 0) → Q (gi vals n_1)) ∧ ((gi vals n_1) = 0 → (I64 (n_1 + 1)) ∧ (K_1 (n_1 + 1))))) ∧ (¬ (n_1 < (vals.length : Int)) → Q 0)
def cmp_Or_int_W (vals : List Int) (Q : Int → Prop) : Prop :=
 loopW (fun (K_1 : Int → Prop) (s : Int) => cmp_Or_int_l1 vals Q K_1 s) 0
theorem cmp_Or_int_walk {F : Fz} {fr : List Ow} {h0 : Heap} (vals : List Int) (vvals : Value) (hS : St F (fr) h0) (hL_vals : SliceF F h0 1 encI vvals vals) {Q : Int → Prop} (hM : cmp_Or_int_W vals Q) :
  HC Tryz.prog 214 #[vvals] h0 fun u h' => ∃ (F' : Fz) (r_1 : Int), u = .int .i64 r_1 ∧ Kp F h0 F' h' ∧ St F' (fr) h' ∧ (SliceF F' h' 1 encI vvals vals) ∧ Q r_1 := by
 unfold cmp_Or_int_W at hM
 have hK := Kp.refl F h0
 refine HC.of_HW (n := 18) Tryz.func214 rfl rfl (Nat.le_of_ble_eq_true rfl) ?_
 refine HW.seq ?_
 refine HW.region ?_
 refine oA (.int .i64 0) rfl rfl ?_
 refine HO.nil (thenQ_normal (?_))
 refine HW.seq ?_
 refine HW.region ?_
 refine oA (.int .i64 0) rfl rfl ?_
 refine HO.nil (thenQ_normal (?_))
 refine HW.seq ?_
 refine HW.seq ?_
 refine HW.region ?_
 refine oM (vvals) rfl rfl ?_
 refine oV (.int .i64 (vals.length : Int)) (q_len ts_265 (shp hL_vals.is) rfl rfl) rfl ?_
 refine oM (.int .i64 0) rfl rfl ?_
 refine HO.nil (thenQ_normal (?_))
 refine HW.block ?_
 obtain ⟨I_1, m_1, hI_1, hR_1⟩ := hM
 refine HW.loop (S := Int) (fun n_1 f h => ∃ (F' : Fz), f 2 = .int .i64 0 ∧ f 3 = .int .i64 0 ∧ f 6 = vvals ∧ f 7 = .int .i64 (vals.length : Int) ∧ f 8 = .int .i64 n_1 ∧ Kp F h0 F' h ∧ St F' (fr) h ∧ (SliceF F' h 1 encI vvals vals) ∧ I_1 n_1) m_1 0 ⟨F, rfl, rfl, rfl, rfl, rfl, hK, hS, hL_vals, hI_1⟩ ?_
 rintro n_1 f_1 h_1 ⟨F_1, e2, e3, e6, e7, e8, hK, hS, hL_vals, hI0⟩
 obtain ⟨K_1, hKe_1⟩ : ∃ K : Int → Prop, K = fun n_1' => I_1 n_1' ∧ m_1 n_1' < m_1 n_1 := ⟨_, rfl⟩
 have hM : cmp_Or_int_l1 vals Q K_1 n_1 := by rw [hKe_1]; exact hR_1 n_1 hI0
 unfold cmp_Or_int_l1 at hM
 refine HW.fr [(2, .int .i64 0), (3, .int .i64 0), (6, vvals), (7, .int .i64 (vals.length : Int)), (8, .int .i64 n_1)] ⟨e2, e3, e6, e7, e8, trivial⟩ ?_
 refine HW.seq ?_
 refine HW.region ?_
 refine oV (.bool (decide (n_1 < (vals.length : Int)))) (q_lss rfl rfl) rfl ?_
 refine HO.nil (thenQ_normal (?_))
 refine HW.seq ?_
 refine HW.cond (decide (n_1 < (vals.length : Int))) rfl (fun c_1 => ?_) (fun c_1 => ?_)
 ·
  replace hM := hM.1 (of_decide_eq_true c_1)
  refine HW.skip (thenQ_normal (?_))
  refine HW.seq ?_
  refine HW.block ?_
  refine HW.seq ?_
  refine HW.region ?_
  obtain ⟨ho_1, hM⟩ := hM
  refine oV (elemPtr 1 vvals (n_1).toNat) (q_idx ts_265 hL_vals.is rfl rfl ho_1) rfl ?_
  refine oV (.int .i64 (gi vals n_1)) (q_ldElem to_3 hL_vals.is rfl ho_1 rfl) rfl ?_
  refine oA (.int .i64 (gi vals n_1)) rfl rfl ?_
  refine HO.nil (thenQ_normal (?_))
  refine HW.seq ?_
  refine HW.region ?_
  refine oM (.int .i64 (gi vals n_1)) rfl rfl ?_
  refine oM (.int .i64 0) rfl rfl ?_
  refine oV (.bool (!decide ((gi vals n_1) = 0))) (q_neq rfl rfl) rfl ?_
  refine HO.nil (thenQ_normal (?_))
  refine HW.cond (!decide ((gi vals n_1) = 0)) rfl (fun c_2 => ?_) (fun c_2 => ?_)
  ·
   replace hM := hM.1 (nd_true c_2)
   refine HW.seq ?_
   refine HW.region ?_
   refine oM (.int .i64 (gi vals n_1)) rfl rfl ?_
   refine oA (.int .i64 (gi vals n_1)) rfl rfl ?_
   refine HO.nil (thenQ_normal (?_))
   refine HW.ret (blockQ_ret (thenQ_ret (thenQ_ret (blockQ_ret (thenQ_ret (?_))))))
   refine ⟨.inr rfl, .int .i64 (gi vals n_1), res1 rfl (rt rfl), ?_⟩
   exact ⟨F_1, (gi vals n_1), rfl, hK, hS, hL_vals, hM⟩
  ·
   replace hM := hM.2 (nd_false c_2)
   refine HW.skip (blockQ_normal (thenQ_normal (?_)))
   refine HW.region ?_
   obtain ⟨ho_2, hM⟩ := hM
   refine oV (.int .i64 (n_1 + 1)) (q_addN _ rfl rfl rfl ho_2.1 ho_2.2) rfl ?_
   refine oM (.int .i64 (n_1 + 1)) rfl rfl ?_
   refine HO.nil (thenQ_normal (?_))
   rw [hKe_1] at hM
   exact ⟨n_1 + 1, ⟨F_1, rfl, rfl, rfl, rfl, rfl, hK, hS, hL_vals, hM.1⟩, hM.2⟩
 ·
  replace hM := hM.2 (of_decide_eq_false c_1)
  refine HW.exit (thenQ_exit (thenQ_exit (blockQ_exit (thenQ_normal (?_)))))
  refine HW.seq ?_
  refine HW.region ?_
  refine oM (.int .i64 0) rfl rfl ?_
  refine oA (.int .i64 0) rfl rfl ?_
  refine HO.nil (thenQ_normal (?_))
  refine HW.ret (?_)
  refine ⟨.inr rfl, .int .i64 0, res1 rfl (rt rfl), ?_⟩
  exact ⟨F_1, 0, rfl, hK, hS, hL_vals, hM⟩
end Go.Wk
