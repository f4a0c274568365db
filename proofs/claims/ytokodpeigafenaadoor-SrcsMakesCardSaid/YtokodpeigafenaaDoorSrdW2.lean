/- Walks and mirrors of Srcs laws. -/
import Derived.Test.YtokodpeigafenaaDoorSrdW1
set_option linter.unusedSimpArgs false
set_option linter.unusedVariables false
set_option linter.unusedSectionVars false
namespace Go.Wk
open Go.HL
open Go.Proofs hiding encI
variable [DM]

def law11_SrcsMakes_l1 (a : T_api_Addr) (Q : Bool → Prop) (r_3 : List T_api_Addr) (r_5 : List T_api_Addr) (K_1 : Int → Prop) (i_1 : Int) : Prop :=
  (i_1 < (r_3.length : Int) → ((0 : Int) ≤ i_1 ∧ i_1 < (r_3.length : Int)) ∧ (srcs_Has_W r_5 (gi r_3 i_1) (fun r_12 => ((!r_12) = true → Q false) ∧ ((!r_12) = false → (I64 (i_1 + 1)) ∧ (K_1 (i_1 + 1)))))) ∧ (¬ (i_1 < (r_3.length : Int)) → law08_Addrs_W r_3 10 (fun r_13 => srcs_Has_W r_13 a (fun r_14 => ref11_Has_W r_3 a (fun r_15 => ((r_14 == r_15) = true → law11_lives_W  (fun r_16 => Q r_16)) ∧ ((r_14 == r_15) = false → Q false)))))
def law11_SrcsMakes_j1 (a : T_api_Addr) (Q : Bool → Prop) (r_3 : List T_api_Addr) (r_5 : List T_api_Addr) (b_2 : Bool) : Prop :=
  (b_2 = true → Q false) ∧ (b_2 = false → loopW (fun (K_1 : Int → Prop) (s : Int) => law11_SrcsMakes_l1 a Q r_3 r_5 K_1 s) 0)
def law11_SrcsMakes_W (l : List T_api_Addr) (a : T_api_Addr) (Q : Bool → Prop) : Prop :=
  law08_Addrs_W l 10 (fun r_2 => ref11_Of_W r_2 (fun r_3 => law08_Addrs_W l 10 (fun r_4 => srcs_Of_W r_4 (fun r_5 => ref11_Same_W r_5 r_3 (fun r_6 => ((!r_6) = true → law11_SrcsMakes_j1 a Q r_3 r_5 true) ∧ ((!r_6) = false → srcs_Good_W r_5 (fun r_7 => ((!r_7) = true → law11_SrcsMakes_j1 a Q r_3 r_5 true) ∧ ((!r_7) = false → law08_Addrs_W l 10 (fun r_8 => srcs_Good_W r_8 (fun r_9 => law08_Addrs_W l 10 (fun r_10 => ref11_Same_W r_10 r_3 (fun r_11 => law11_SrcsMakes_j1 a Q r_3 r_5 (!(r_9 == r_11))))))))))))))
set_option maxHeartbeats 40000000 in
set_option maxRecDepth 100000 in
theorem law11_SrcsMakes_walk {F : Fz} {fr : List Ow} {h0 : Heap} (l : List T_api_Addr) (a : T_api_Addr) (vl : Value) (hS : St F (fr) h0) (hL_l : SliceF F h0 17 e_api_Addr vl l) (hD : DM.on = false) {Q : Bool → Prop} (hM : law11_SrcsMakes_W l a Q) :
    HC Tryd.prog 7 #[vl, .agg (e_api_Addr a).toArray] h0 fun u h' => ∃ (F' : Fz) (r_1 : Bool), u = .bool r_1 ∧ Kp F h0 F' h' ∧ St F' (fr) h' ∧ (SliceF F' h' 17 e_api_Addr vl l) ∧ Q r_1 := by
  unfold law11_SrcsMakes_W at hM
  have hK := Kp.refl F h0
  refine HC.of_HW (n := 57) Tryd.func7 rfl rfl (Nat.le_of_ble_eq_true rfl) ?_
  refine HW.seq ?_
  refine HW.region ?_
  refine HO.eff (want_none) rfl (st_box (c := (e_api_Addr a).toArray) (k' := 17) hS rfl rfl) ?_
  rintro _ h_1 ⟨b_1, rfl, hS, hk⟩
  replace hK := hK.trans hk
  replace hL_l := hL_l.kp hk
  refine HO.val (v := .bool false) (want_none) rfl (q_assign rfl) ?_
  refine HO.nil (thenQ_normal (?_))
  refine HW.seq ?_
  refine HW.region ?_
  refine HO.val (v := vl) (want_none) rfl (q_move rfl) ?_
  refine HO.call (want_none) rfl (ec en_25 rfl rfl) (law08_Addrs_walk (fr := (Ow.box b_1 27 (e_api_Addr a).toArray :: fr)) l 10 vl hS hL_l hM) ?_
  rintro vr_1 h_2 ⟨F_1, r_2, _, rfl, hk, hS, _, hM⟩
  replace hK := hK.trans hk
  replace hL_l := hL_l.kp hk
  obtain ⟨F_2, hS, hk, hL_1⟩ := hS.freezeOwn
  replace hK := hK.trans hk
  replace hL_l := hL_l.kp hk
  refine HO.call (want_none) rfl (ec en_28 rfl rfl) (ref11_Of_walk (fr := (Ow.box b_1 27 (e_api_Addr a).toArray :: fr)) r_2 vr_1 hS hL_1 hM) ?_
  rintro vr_2 h_3 ⟨F_3, r_3, _, rfl, hk, hS, _, hL_2, hM⟩
  replace hK := hK.trans hk
  replace hL_l := hL_l.kp hk
  replace hL_1 := hL_1.kp hk
  refine HO.val (v := vr_2) (want_none) rfl (q_assign rfl) ?_
  refine HO.nil (thenQ_normal (?_))
  refine HW.seq ?_
  refine HW.region ?_
  refine HO.val (v := vl) (want_none) rfl (q_move rfl) ?_
  refine HO.call (want_none) rfl (ec en_25 rfl rfl) (law08_Addrs_walk (fr := (Ow.box b_1 27 (e_api_Addr a).toArray :: fr)) l 10 vl hS hL_l hM) ?_
  rintro vr_3 h_4 ⟨F_4, r_4, _, rfl, hk, hS, _, hM⟩
  replace hK := hK.trans hk
  replace hL_l := hL_l.kp hk
  replace hL_1 := hL_1.kp hk
  replace hL_2 := hL_2.kp hk
  have hZ_1 := hS
  have hkz_1 := (hS.freeze).2
  replace hS := hS.freeze.1
  have hL_3 : SliceF (fun b => F_4 b ∨ (Ow.own 27 17 e_api_Addr vr_3 r_4).foot b) h_4 17 e_api_Addr vr_3 r_4 := ⟨(hZ_1.own 0 rfl).slice, fun _ b hb => .inr hb⟩
  refine HO.call (want_none) rfl (ec en_35 rfl rfl) (srcs_Of_walk (fr := (Ow.box b_1 27 (e_api_Addr a).toArray :: fr)) r_4 vr_3 hS hL_3 hM) ?_
  rintro vr_4 h_5 ⟨F_5, r_5, _, rfl, hk, hS, _, hM⟩
  obtain ⟨hS, hk⟩ := hZ_1.back hk hS
  generalize (fun b => F_5 b ∧ ¬ (Ow.own 27 17 e_api_Addr vr_3 r_4).foot b) = F_6 at hS hk
  replace hK := hK.trans hk
  replace hL_l := hL_l.kp hk
  replace hL_1 := hL_1.kp hk
  replace hL_2 := hL_2.kp hk
  refine HO.val (v := vr_4) (want_none) rfl (q_assign rfl) ?_
  refine HO.nil (thenQ_normal (?_))
  refine HW.seq ?_
  refine HW.seq_mid (fun f h => ∃ (F' : Fz) (b_2 : Bool), f 3 = .pointer (some ⟨b_1, 0, none⟩) ∧ f 4 = .bool false ∧ f 5 = vr_2 ∧ f 6 = vr_4 ∧ f 32 = .bool b_2 ∧ Kp F h0 F' h ∧ St F' (Ow.box b_1 27 (e_api_Addr a).toArray :: Ow.own 27 17 e_api_Addr vr_4 r_5 :: fr) h ∧ (SliceF F' h 17 e_api_Addr vl l) ∧ (SliceF F' h 17 e_api_Addr vr_1 r_2) ∧ (SliceF F' h 17 e_api_Addr vr_2 r_3) ∧ law11_SrcsMakes_j1 a Q r_3 r_5 b_2) ?_ ?_
  · refine HW.region ?_
    refine HO.val (v := vr_4) (want_none) rfl (q_move rfl) ?_
    refine HO.val (v := vr_2) (want_none) rfl (q_move rfl) ?_
    replace hS : St F_6 (Ow.own 27 17 e_api_Addr vr_4 r_5 :: Ow.own 27 17 e_api_Addr vr_3 r_4 :: Ow.box b_1 27 (e_api_Addr a).toArray :: fr) h_5 := hS.perm2 [1, 0, 2] 3 rfl rfl
    have hZ_2 := hS
    have hkz_2 := (hS.freeze).2
    replace hS := hS.freeze.1
    have hL_4 : SliceF (fun b => F_6 b ∨ (Ow.own 27 17 e_api_Addr vr_4 r_5).foot b) h_5 17 e_api_Addr vr_4 r_5 := ⟨(hZ_2.own 0 rfl).slice, fun _ b hb => .inr hb⟩
    refine HO.call (want_none) rfl (ec en_27 rfl rfl) (ref11_Same_walk (fr := (Ow.own 27 17 e_api_Addr vr_3 r_4 :: Ow.box b_1 27 (e_api_Addr a).toArray :: fr)) r_5 r_3 vr_4 vr_2 hS hL_4 (hL_2.kp hkz_2) hM) ?_
    rintro _ h_6 ⟨F_7, r_6, rfl, hk, hS, _, _, hM⟩
    obtain ⟨hS, hk⟩ := hZ_2.back hk hS
    generalize (fun b => F_7 b ∧ ¬ (Ow.own 27 17 e_api_Addr vr_4 r_5).foot b) = F_8 at hS hk
    replace hK := hK.trans hk
    replace hL_l := hL_l.kp hk
    replace hL_1 := hL_1.kp hk
    replace hL_2 := hL_2.kp hk
    refine HO.val (v := .bool (!r_6)) (want_none) rfl (q_not rfl) ?_
    refine HO.val (v := .bool (!r_6)) (want_none) rfl (q_move rfl) ?_
    rcases Bool.eq_false_or_eq_true (!r_6) with c_1 | c_1
    · replace hM := hM.1 c_1
      refine HO.past (past_by rfl rfl c_1) rfl ?_
      refine HO.past (past_by rfl rfl c_1) rfl ?_
      refine HO.past (past_by rfl rfl c_1) rfl ?_
      refine HO.val (v := .bool true) (want_none) rfl (q_pickK true rfl c_1 rfl) ?_
      refine HO.val (v := .bool true) (want_none) rfl (q_move rfl) ?_
      refine HO.past (past_some rfl rfl) rfl ?_
      refine HO.past (past_some rfl rfl) rfl ?_
      refine HO.past (past_some rfl rfl) rfl ?_
      refine HO.past (past_some rfl rfl) rfl ?_
      refine HO.past (past_some rfl rfl) rfl ?_
      refine HO.past (past_some rfl rfl) rfl ?_
      refine HO.past (past_some rfl rfl) rfl ?_
      refine HO.past (past_some rfl rfl) rfl ?_
      refine HO.val (v := .bool true) (want_none) rfl (q_pick rfl rfl) ?_
      refine HO.nil (thenQ_normal (?_))
      replace hS : St F_8 (Ow.box b_1 27 (e_api_Addr a).toArray :: Ow.own 27 17 e_api_Addr vr_4 r_5 :: fr) h_6 := hS.perm2 [2, 0] 3 rfl rfl
      exact ⟨F_8, true, rfl, rfl, rfl, rfl, rfl, hK, hS, hL_l, hL_1, hL_2, hM⟩
    · replace hM := hM.2 c_1
      refine HO.val (v := vr_4) (want_by rfl rfl c_1) rfl (q_move rfl) ?_
      have hZ_3 := hS
      have hkz_3 := (hS.freeze).2
      replace hS := hS.freeze.1
      have hL_5 : SliceF (fun b => F_8 b ∨ (Ow.own 27 17 e_api_Addr vr_4 r_5).foot b) h_6 17 e_api_Addr vr_4 r_5 := ⟨(hZ_3.own 0 rfl).slice, fun _ b hb => .inr hb⟩
      refine HO.call (want_by rfl rfl c_1) rfl (ec en_36 rfl rfl) (srcs_Good_walk (fr := (Ow.own 27 17 e_api_Addr vr_3 r_4 :: Ow.box b_1 27 (e_api_Addr a).toArray :: fr)) r_5 vr_4 hS hL_5 hM) ?_
      rintro _ h_7 ⟨F_9, r_7, rfl, hk, hS, _, hM⟩
      obtain ⟨hS, hk⟩ := hZ_3.back hk hS
      generalize (fun b => F_9 b ∧ ¬ (Ow.own 27 17 e_api_Addr vr_4 r_5).foot b) = F_10 at hS hk
      replace hK := hK.trans hk
      replace hL_l := hL_l.kp hk
      replace hL_1 := hL_1.kp hk
      replace hL_2 := hL_2.kp hk
      refine HO.val (v := .bool (!r_7)) (want_by rfl rfl c_1) rfl (q_not rfl) ?_
      refine HO.val (v := .bool (!r_7)) (want_none) rfl (q_pickK false rfl c_1 rfl) ?_
      refine HO.val (v := .bool (!r_7)) (want_none) rfl (q_move rfl) ?_
      rcases Bool.eq_false_or_eq_true (!r_7) with c_2 | c_2
      · replace hM := hM.1 c_2
        refine HO.past (past_by rfl rfl c_2) rfl ?_
        refine HO.past (past_by rfl rfl c_2) rfl ?_
        refine HO.past (past_by rfl rfl c_2) rfl ?_
        refine HO.past (past_by rfl rfl c_2) rfl ?_
        refine HO.past (past_by rfl rfl c_2) rfl ?_
        refine HO.past (past_by rfl rfl c_2) rfl ?_
        refine HO.past (past_by rfl rfl c_2) rfl ?_
        refine HO.past (past_by rfl rfl c_2) rfl ?_
        refine HO.val (v := .bool true) (want_none) rfl (q_pickK true rfl c_2 rfl) ?_
        refine HO.nil (thenQ_normal (?_))
        replace hS : St F_10 (Ow.box b_1 27 (e_api_Addr a).toArray :: Ow.own 27 17 e_api_Addr vr_4 r_5 :: fr) h_7 := hS.perm2 [2, 0] 3 rfl rfl
        exact ⟨F_10, true, rfl, rfl, rfl, rfl, rfl, hK, hS, hL_l, hL_1, hL_2, hM⟩
      · replace hM := hM.2 c_2
        refine HO.val (v := vl) (want_by rfl rfl c_2) rfl (q_move rfl) ?_
        refine HO.call (want_by rfl rfl c_2) rfl (ec en_25 rfl rfl) (law08_Addrs_walk (fr := (Ow.own 27 17 e_api_Addr vr_4 r_5 :: Ow.own 27 17 e_api_Addr vr_3 r_4 :: Ow.box b_1 27 (e_api_Addr a).toArray :: fr)) l 10 vl hS hL_l hM) ?_
        rintro vr_5 h_8 ⟨F_11, r_8, _, rfl, hk, hS, _, hM⟩
        replace hK := hK.trans hk
        replace hL_l := hL_l.kp hk
        replace hL_1 := hL_1.kp hk
        replace hL_2 := hL_2.kp hk
        have hZ_4 := hS
        have hkz_4 := (hS.freeze).2
        replace hS := hS.freeze.1
        have hL_6 : SliceF (fun b => F_11 b ∨ (Ow.own 27 17 e_api_Addr vr_5 r_8).foot b) h_8 17 e_api_Addr vr_5 r_8 := ⟨(hZ_4.own 0 rfl).slice, fun _ b hb => .inr hb⟩
        refine HO.call (want_by rfl rfl c_2) rfl (ec en_36 rfl rfl) (srcs_Good_walk (fr := (Ow.own 27 17 e_api_Addr vr_4 r_5 :: Ow.own 27 17 e_api_Addr vr_3 r_4 :: Ow.box b_1 27 (e_api_Addr a).toArray :: fr)) r_8 vr_5 hS hL_6 hM) ?_
        rintro _ h_9 ⟨F_12, r_9, rfl, hk, hS, _, hM⟩
        obtain ⟨hS, hk⟩ := hZ_4.back hk hS
        generalize (fun b => F_12 b ∧ ¬ (Ow.own 27 17 e_api_Addr vr_5 r_8).foot b) = F_13 at hS hk
        replace hK := hK.trans hk
        replace hL_l := hL_l.kp hk
        replace hL_1 := hL_1.kp hk
        replace hL_2 := hL_2.kp hk
        refine HO.val (v := vl) (want_by rfl rfl c_2) rfl (q_move rfl) ?_
        refine HO.call (want_by rfl rfl c_2) rfl (ec en_25 rfl rfl) (law08_Addrs_walk (fr := (Ow.own 27 17 e_api_Addr vr_5 r_8 :: Ow.own 27 17 e_api_Addr vr_4 r_5 :: Ow.own 27 17 e_api_Addr vr_3 r_4 :: Ow.box b_1 27 (e_api_Addr a).toArray :: fr)) l 10 vl hS hL_l hM) ?_
        rintro vr_6 h_10 ⟨F_14, r_10, _, rfl, hk, hS, _, hM⟩
        replace hK := hK.trans hk
        replace hL_l := hL_l.kp hk
        replace hL_1 := hL_1.kp hk
        replace hL_2 := hL_2.kp hk
        refine HO.val (v := vr_2) (want_by rfl rfl c_2) rfl (q_move rfl) ?_
        have hZ_5 := hS
        have hkz_5 := (hS.freeze).2
        replace hS := hS.freeze.1
        have hL_7 : SliceF (fun b => F_14 b ∨ (Ow.own 27 17 e_api_Addr vr_6 r_10).foot b) h_10 17 e_api_Addr vr_6 r_10 := ⟨(hZ_5.own 0 rfl).slice, fun _ b hb => .inr hb⟩
        refine HO.call (want_by rfl rfl c_2) rfl (ec en_27 rfl rfl) (ref11_Same_walk (fr := (Ow.own 27 17 e_api_Addr vr_5 r_8 :: Ow.own 27 17 e_api_Addr vr_4 r_5 :: Ow.own 27 17 e_api_Addr vr_3 r_4 :: Ow.box b_1 27 (e_api_Addr a).toArray :: fr)) r_10 r_3 vr_6 vr_2 hS hL_7 (hL_2.kp hkz_5) hM) ?_
        rintro _ h_11 ⟨F_15, r_11, rfl, hk, hS, _, _, hM⟩
        obtain ⟨hS, hk⟩ := hZ_5.back hk hS
        generalize (fun b => F_15 b ∧ ¬ (Ow.own 27 17 e_api_Addr vr_6 r_10).foot b) = F_16 at hS hk
        replace hK := hK.trans hk
        replace hL_l := hL_l.kp hk
        replace hL_1 := hL_1.kp hk
        replace hL_2 := hL_2.kp hk
        refine HO.val (v := .bool (!(r_9 == r_11))) (want_by rfl rfl c_2) rfl (q_neqB Tryd.underlying4 rfl rfl) ?_
        refine HO.val (v := .bool (!(r_9 == r_11))) (want_none) rfl (q_pickK false rfl c_2 rfl) ?_
        refine HO.nil (thenQ_normal (?_))
        replace hS : St F_16 (Ow.box b_1 27 (e_api_Addr a).toArray :: Ow.own 27 17 e_api_Addr vr_4 r_5 :: fr) h_11 := hS.perm2 [4, 2] 5 rfl rfl
        exact ⟨F_16, !(r_9 == r_11), rfl, rfl, rfl, rfl, rfl, hK, hS, hL_l, hL_1, hL_2, hM⟩
  · rintro f_1 h_12 ⟨F_17, b_2, e3, e4, e5, e6, e32, hK, hS, hL_l, hL_1, hL_2, hM⟩
    unfold law11_SrcsMakes_j1 at hM
    refine HW.fr [(3, .pointer (some ⟨b_1, 0, none⟩)), (4, .bool false), (5, vr_2), (6, vr_4), (32, .bool b_2)] ⟨e3, e4, e5, e6, e32, trivial⟩ ?_
    refine HW.cond b_2 rfl (fun c_3 => ?_) (fun c_3 => ?_)
    · replace hM := hM.1 c_3
      refine HW.seq ?_
      refine HW.region ?_
      refine HO.val (v := .bool false) (want_none) rfl (q_assign rfl) ?_
      refine HO.nil (thenQ_normal (?_))
      refine HW.ret (thenQ_ret (?_))
      refine ⟨.inr rfl, .bool false, res1 rfl (rt rfl), ?_⟩
      replace hS : St F_17 (fr) h_12 := hS.perm2 [] 2 rfl rfl
      exact ⟨F_17, false, rfl, hK, hS, hL_l, hM⟩
    · replace hM := hM.2 c_3
      refine HW.skip (thenQ_normal (?_))
      refine HW.seq ?_
      refine HW.seq ?_
      refine HW.region ?_
      refine HO.val (v := .int .i64 0) (want_none) rfl (q_assign rfl) ?_
      refine HO.nil (thenQ_normal (?_))
      refine HW.block ?_
      obtain ⟨I_1, m_1, hI_1, hR_1⟩ := hM
      refine HW.loop (S := Int) (fun i_1 f h => ∃ (F' : Fz), f 3 = .pointer (some ⟨b_1, 0, none⟩) ∧ f 4 = .bool false ∧ f 5 = vr_2 ∧ f 6 = vr_4 ∧ f 7 = .int .i64 i_1 ∧ Kp F h0 F' h ∧ St F' (Ow.box b_1 27 (e_api_Addr a).toArray :: Ow.own 27 17 e_api_Addr vr_4 r_5 :: fr) h ∧ (SliceF F' h 17 e_api_Addr vl l) ∧ (SliceF F' h 17 e_api_Addr vr_1 r_2) ∧ (SliceF F' h 17 e_api_Addr vr_2 r_3) ∧ I_1 i_1) m_1 0 ⟨F_17, rfl, rfl, rfl, rfl, rfl, hK, hS, hL_l, hL_1, hL_2, hI_1⟩ ?_
      rintro i_1 f_2 h_13 ⟨F_18, e3, e4, e5, e6, e7, hK, hS, hL_l, hL_1, hL_2, hI0⟩
      obtain ⟨K_1, hKe_1⟩ : ∃ K : Int → Prop, K = fun i_1' => I_1 i_1' ∧ m_1 i_1' < m_1 i_1 := ⟨_, rfl⟩
      have hM : law11_SrcsMakes_l1 a Q r_3 r_5 K_1 i_1 := by rw [hKe_1]; exact hR_1 i_1 hI0
      unfold law11_SrcsMakes_l1 at hM
      refine HW.fr [(3, .pointer (some ⟨b_1, 0, none⟩)), (4, .bool false), (5, vr_2), (6, vr_4), (7, .int .i64 i_1)] ⟨e3, e4, e5, e6, e7, trivial⟩ ?_
      refine HW.seq ?_
      refine HW.seq ?_
      refine HW.region ?_
      refine HO.val (v := .int .i64 i_1) (want_none) rfl (q_move rfl) ?_
      refine HO.val (v := vr_2) (want_none) rfl (q_move rfl) ?_
      refine HO.val (v := .int .i64 (r_3.length : Int)) (want_none) rfl (q_len ts_22 (shp hL_2.is) rfl rfl) ?_
      refine HO.val (v := .bool (decide (i_1 < (r_3.length : Int)))) (want_none) rfl (q_lss rfl rfl) ?_
      refine HO.nil (thenQ_normal (?_))
      refine HW.cond (decide (i_1 < (r_3.length : Int))) rfl (fun c_4 => ?_) (fun c_4 => ?_)
      · replace hM := hM.1 (of_decide_eq_true c_4)
        refine HW.skip (thenQ_normal (?_))
        refine HW.seq ?_
        refine HW.block ?_
        refine HW.seq ?_
        refine HW.region ?_
        refine HO.val (v := vr_4) (want_none) rfl (q_move rfl) ?_
        refine HO.val (v := vr_2) (want_none) rfl (q_move rfl) ?_
        refine HO.val (v := .int .i64 i_1) (want_none) rfl (q_move rfl) ?_
        obtain ⟨ho_1, hM⟩ := hM
        refine HO.val (v := elemPtr 17 vr_2 (i_1).toNat) (want_none) rfl (q_idx ts_22 hL_2.is rfl rfl ho_1) ?_
        refine HO.val (v := .agg (e_api_Addr (gi r_3 i_1)).toArray) (want_none) rfl (q_ldElemAgg (cs := (e_api_Addr (gi r_3 i_1))) ta_27 hL_2.is rfl ho_1 rfl) ?_
        replace hS : St F_18 (Ow.own 27 17 e_api_Addr vr_4 r_5 :: Ow.box b_1 27 (e_api_Addr a).toArray :: fr) h_13 := hS.perm2 [1, 0] 2 rfl rfl
        have hZ_6 := hS
        have hkz_6 := (hS.freeze).2
        replace hS := hS.freeze.1
        have hL_8 : SliceF (fun b => F_18 b ∨ (Ow.own 27 17 e_api_Addr vr_4 r_5).foot b) h_13 17 e_api_Addr vr_4 r_5 := ⟨(hZ_6.own 0 rfl).slice, fun _ b hb => .inr hb⟩
        refine HO.call (want_none) rfl (ec en_37 rfl rfl) (srcs_Has_walk (fr := (Ow.box b_1 27 (e_api_Addr a).toArray :: fr)) r_5 (gi r_3 i_1) vr_4 hS hL_8 hM) ?_
        rintro _ h_14 ⟨F_19, r_12, rfl, hk, hS, _, hM⟩
        obtain ⟨hS, hk⟩ := hZ_6.back hk hS
        generalize (fun b => F_19 b ∧ ¬ (Ow.own 27 17 e_api_Addr vr_4 r_5).foot b) = F_20 at hS hk
        replace hK := hK.trans hk
        replace hL_l := hL_l.kp hk
        replace hL_1 := hL_1.kp hk
        replace hL_2 := hL_2.kp hk
        refine HO.val (v := .bool (!r_12)) (want_none) rfl (q_not rfl) ?_
        refine HO.nil (thenQ_normal (?_))
        refine HW.cond (!r_12) rfl (fun c_5 => ?_) (fun c_5 => ?_)
        · replace hM := hM.1 c_5
          refine HW.seq ?_
          refine HW.region ?_
          refine HO.val (v := .bool false) (want_none) rfl (q_assign rfl) ?_
          refine HO.nil (thenQ_normal (?_))
          refine HW.ret (blockQ_ret (thenQ_ret (thenQ_ret (blockQ_ret (thenQ_ret (?_))))))
          refine ⟨.inr rfl, .bool false, res1 rfl (rt rfl), ?_⟩
          replace hS : St F_20 (fr) h_14 := hS.perm2 [] 2 rfl rfl
          exact ⟨F_20, false, rfl, hK, hS, hL_l, hM⟩
        · replace hM := hM.2 c_5
          refine HW.skip (blockQ_normal (thenQ_normal (?_)))
          refine HW.region ?_
          refine HO.val (v := .int .i64 i_1) (want_none) rfl (q_move rfl) ?_
          obtain ⟨ho_2, hM⟩ := hM
          refine HO.val (v := .int .i64 (i_1 + 1)) (want_none) rfl (q_addN _ rfl rfl rfl ho_2.1 ho_2.2) ?_
          refine HO.val (v := .int .i64 (i_1 + 1)) (want_none) rfl (q_assign rfl) ?_
          refine HO.nil (thenQ_normal (?_))
          replace hS : St F_20 (Ow.box b_1 27 (e_api_Addr a).toArray :: Ow.own 27 17 e_api_Addr vr_4 r_5 :: fr) h_14 := hS.perm2 [1, 0] 2 rfl rfl
          rw [hKe_1] at hM
          exact ⟨i_1 + 1, ⟨F_20, rfl, rfl, rfl, rfl, rfl, hK, hS, hL_l, hL_1, hL_2, hM.1⟩, hM.2⟩
      · replace hM := hM.2 (of_decide_eq_false c_4)
        refine HW.exit (thenQ_exit (thenQ_exit (blockQ_exit (thenQ_normal (?_)))))
        refine HW.seq ?_
        refine HW.regionA 12 mixed (fun h => (Blk h b_1 (.cells (e_api_Addr a).toArray 27 (0, 0)))) [] (by kernel_rfl) ?_
        refine HA.val (k := 0) (v := vr_2) rfl rfl (by kernel_rfl) (by kernel_rfl) (want_none) rfl (fun _ c307 => q_move rfl) ?_
        refine HA.val (k := 2) (v := .agg (e_api_Addr a).toArray) rfl rfl (by kernel_rfl) (by kernel_rfl) (want_none) rfl (fun _ c307 => q_loadAgg (cs := (e_api_Addr a)) ta_27 rfl rfl (Blk.cells (k := 17) c307 rfl)) ?_
        refine HA.val (k := 4) (v := vr_2) rfl rfl (by kernel_rfl) (by kernel_rfl) (want_none) rfl (fun _ c307 => q_move rfl) ?_
        refine HA.val (k := 5) (v := .agg (e_api_Addr a).toArray) rfl rfl (by kernel_rfl) (by kernel_rfl) (want_none) rfl (fun _ c307 => q_loadAgg (cs := (e_api_Addr a)) ta_27 rfl rfl (Blk.cells (k := 17) c307 rfl)) ?_
        refine HA.one (k := 1) ⟨(hS.box 0 rfl), (Go.Wk.at_nil _ _)⟩ (by kernel_rfl) ?_
        refine HS.call rfl (want_none) rfl (ec en_25 rfl rfl) (law08_Addrs_walk (fr := (Ow.box b_1 27 (e_api_Addr a).toArray :: Ow.own 27 17 e_api_Addr vr_4 r_5 :: fr)) r_3 10 vr_2 hS hL_2 hM) ?_
        rintro vr_7 h_15 ⟨F_21, r_13, _, rfl, hk, hS, _, hM⟩
        replace hK := hK.trans hk
        replace hL_l := hL_l.kp hk
        replace hL_1 := hL_1.kp hk
        replace hL_2 := hL_2.kp hk
        refine HA.one (k := 3) ⟨(hS.box 1 rfl), (Go.Wk.at_nil _ _)⟩ (by kernel_rfl) ?_
        have hZ_7 := hS
        have hkz_7 := (hS.freeze).2
        replace hS := hS.freeze.1
        have hL_9 : SliceF (fun b => F_21 b ∨ (Ow.own 27 17 e_api_Addr vr_7 r_13).foot b) h_15 17 e_api_Addr vr_7 r_13 := ⟨(hZ_7.own 0 rfl).slice, fun _ b hb => .inr hb⟩
        refine HS.call rfl (want_none) rfl (ec en_37 rfl rfl) (srcs_Has_walk (fr := (Ow.box b_1 27 (e_api_Addr a).toArray :: Ow.own 27 17 e_api_Addr vr_4 r_5 :: fr)) r_13 a vr_7 hS hL_9 hM) ?_
        rintro _ h_16 ⟨F_22, r_14, rfl, hk, hS, _, hM⟩
        obtain ⟨hS, hk⟩ := hZ_7.back hk hS
        generalize (fun b => F_22 b ∧ ¬ (Ow.own 27 17 e_api_Addr vr_7 r_13).foot b) = F_23 at hS hk
        replace hK := hK.trans hk
        replace hL_l := hL_l.kp hk
        replace hL_1 := hL_1.kp hk
        replace hL_2 := hL_2.kp hk
        refine HA.one (k := 6) ⟨(hS.box 1 rfl), (Go.Wk.at_nil _ _)⟩ (by kernel_rfl) ?_
        refine HS.call rfl (want_none) rfl (ec en_38 rfl rfl) (ref11_Has_walk (fr := (Ow.own 27 17 e_api_Addr vr_7 r_13 :: Ow.box b_1 27 (e_api_Addr a).toArray :: Ow.own 27 17 e_api_Addr vr_4 r_5 :: fr)) r_3 a vr_2 hS hL_2 hM) ?_
        rintro _ h_17 ⟨F_24, r_15, rfl, hk, hS, _, hM⟩
        replace hK := hK.trans hk
        replace hL_l := hL_l.kp hk
        replace hL_1 := hL_1.kp hk
        replace hL_2 := hL_2.kp hk
        refine HA.val (k := 7) (v := .bool (r_14 == r_15)) rfl rfl (by kernel_rfl) (by kernel_rfl) (want_none) rfl (fun _ c307 => q_eqlB Tryd.underlying4 rfl rfl) ?_
        refine HA.val (k := 8) (v := .bool (r_14 == r_15)) rfl rfl (by kernel_rfl) (by kernel_rfl) (want_none) rfl (fun _ c307 => q_move rfl) ?_
        rcases Bool.eq_false_or_eq_true (r_14 == r_15) with c_6 | c_6
        · replace hM := hM.1 c_6
          refine HA.one (k := 9) ⟨(hS.box 1 rfl), (Go.Wk.at_nil _ _)⟩ (by kernel_rfl) ?_
          refine HS.call rfl (want_by rfl rfl c_6) rfl (ec en_39 rfl rfl) (law11_lives_walk (fr := (Ow.own 27 17 e_api_Addr vr_7 r_13 :: Ow.box b_1 27 (e_api_Addr a).toArray :: Ow.own 27 17 e_api_Addr vr_4 r_5 :: fr))  hS hD hM) ?_
          rintro _ h_18 ⟨F_25, r_16, rfl, hk, hS, hM⟩
          replace hK := hK.trans hk
          replace hL_l := hL_l.kp hk
          replace hL_1 := hL_1.kp hk
          replace hL_2 := hL_2.kp hk
          refine HA.val (k := 10) (v := .bool r_16) rfl rfl (by kernel_rfl) (by kernel_rfl) (want_none) rfl (fun _ c307 => q_pickK true rfl c_6 rfl) ?_
          refine HA.val (k := 11) (v := .bool r_16) rfl rfl (by kernel_rfl) (by kernel_rfl) (want_none) rfl (fun _ c307 => q_assign rfl) ?_
          refine HA.nil ⟨(hS.box 1 rfl), (Go.Wk.at_nil _ _)⟩ (by kernel_rfl) (thenQ_normal (?_))
          refine HW.ret (?_)
          refine ⟨.inr rfl, .bool r_16, res1 rfl (rt rfl), ?_⟩
          replace hS : St F_25 (fr) h_18 := hS.perm2 [] 3 rfl rfl
          exact ⟨F_25, r_16, rfl, hK, hS, hL_l, hM⟩
        · replace hM := hM.2 c_6
          refine HA.one (k := 9) ⟨(hS.box 1 rfl), (Go.Wk.at_nil _ _)⟩ (by kernel_rfl) ?_
          refine HS.past rfl (past_by rfl rfl c_6) rfl ?_
          refine HA.val (k := 10) (v := .bool false) rfl rfl (by kernel_rfl) (by kernel_rfl) (want_none) rfl (fun _ c307 => q_pickK false rfl c_6 rfl) ?_
          refine HA.val (k := 11) (v := .bool false) rfl rfl (by kernel_rfl) (by kernel_rfl) (want_none) rfl (fun _ c307 => q_assign rfl) ?_
          refine HA.nil ⟨(hS.box 1 rfl), (Go.Wk.at_nil _ _)⟩ (by kernel_rfl) (thenQ_normal (?_))
          refine HW.ret (?_)
          refine ⟨.inr rfl, .bool false, res1 rfl (rt rfl), ?_⟩
          replace hS : St F_24 (fr) h_17 := hS.perm2 [] 3 rfl rfl
          exact ⟨F_24, false, rfl, hK, hS, hL_l, hM⟩

def srcs_walk_1_api_Addr_W (x : T_api_Addr) (is : Bool) (c0_v : List T_api_Addr) (Q : (List T_api_Addr) → Prop) : Prop :=
  (is = true → ((c0_v.length + ([x] : List T_api_Addr).length) * 17 ≤ 140737488355328) ∧ (Q (c0_v ++ ([x] : List T_api_Addr)))) ∧ (is = false → Q c0_v)
set_option maxHeartbeats 40000000 in
set_option maxRecDepth 100000 in
theorem srcs_walk_1_api_Addr_walk {F : Fz} {fr : List Ow} {h0 : Heap} (x : T_api_Addr) (is : Bool) (c0_v : List T_api_Addr) (bc0 : Nat) (vc0_v : Value) (hS : St F (Ow.box bc0 22 #[vc0_v] :: Ow.own 27 17 e_api_Addr vc0_v c0_v :: fr) h0)  {Q : (List T_api_Addr) → Prop} (hM : srcs_walk_1_api_Addr_W x is c0_v Q) :
    HC Tryd.prog 77 #[.agg (e_api_Addr x).toArray, .bool is, .pointer (some ⟨bc0, 0, none⟩)] h0 fun u h' => ∃ (F' : Fz) (a2_0_2 : List T_api_Addr) (v_1 : Value), u = .tuple #[] ∧ Kp F h0 F' h' ∧ St F' (Ow.box bc0 22 #[v_1] :: Ow.own 27 17 e_api_Addr v_1 a2_0_2 :: fr) h' ∧ Q a2_0_2 := by
  unfold srcs_walk_1_api_Addr_W at hM
  have hK := Kp.refl F h0
  refine HC.of_HW (n := 10) Tryd.func77 rfl rfl (Nat.le_of_ble_eq_true rfl) ?_
  refine HW.seq ?_
  refine HW.region ?_
  refine HO.eff (want_none) rfl (st_box (c := (e_api_Addr x).toArray) (k' := 17) hS rfl rfl) ?_
  rintro _ h_1 ⟨b_1, rfl, hS, hk⟩
  replace hK := hK.trans hk
  refine HO.nil (thenQ_normal (?_))
  refine HW.seq ?_
  refine HW.region ?_
  refine HO.val (v := .bool is) (want_none) rfl (q_move rfl) ?_
  refine HO.nil (thenQ_normal (?_))
  refine HW.cond is rfl (fun c_1 => ?_) (fun c_1 => ?_)
  · replace hM := hM.1 c_1
    refine HW.region ?_
    refine HO.val (v := vc0_v) (want_none) rfl (q_load to_22 rfl (Blk.cell (hS.box 1 rfl) rfl)) ?_
    refine HO.val (v := .agg (e_api_Addr x).toArray) (want_none) rfl (q_loadAgg (cs := (e_api_Addr x)) ta_27 rfl rfl (Blk.cells (k := 17) (hS.box 0 rfl) rfl)) ?_
    refine HO.eff (want_none) rfl (st_lit (enc := e_api_Addr) (cells := #[.bool x.1, .int .u8 (b8 x.2 0), .int .u8 (b8 x.2 1), .int .u8 (b8 x.2 2), .int .u8 (b8 x.2 3), .int .u8 (b8 x.2 4), .int .u8 (b8 x.2 5), .int .u8 (b8 x.2 6), .int .u8 (b8 x.2 7), .int .u8 (b8 x.2 8), .int .u8 (b8 x.2 9), .int .u8 (b8 x.2 10), .int .u8 (b8 x.2 11), .int .u8 (b8 x.2 12), .int .u8 (b8 x.2 13), .int .u8 (b8 x.2 14), .int .u8 (b8 x.2 15)]) #[.bool false, .int .u8 0, .int .u8 0, .int .u8 0, .int .u8 0, .int .u8 0, .int .u8 0, .int .u8 0, .int .u8 0, .int .u8 0, .int .u8 0, .int .u8 0, .int .u8 0, .int .u8 0, .int .u8 0, .int .u8 0, .int .u8 0] ([x] : List T_api_Addr) hS tl_22 (by decide) (by decide) (by kernel_rfl) (by kernel_rfl) rfl (by intro x hx; rfl) rfl) ?_
    rintro _ h_2 ⟨b_2, rfl, hS, hk⟩
    replace hK := hK.trans hk
    obtain ⟨ho_1, hM⟩ := hM
    refine HO.eff (want_none) rfl (st_append te_22 hS (i := 3) rfl (hS.own 0 rfl).slice rfl rfl rfl (by intro a _ u hu; simp [e_api_Addr, encI, encN, encB, encT] at hu; rcases hu with rfl | rfl | rfl | rfl | rfl | rfl | rfl | rfl | rfl | rfl | rfl | rfl | rfl | rfl | rfl | rfl | rfl <;> rfl) ho_1 (by omega)) ?_
    rintro v_2 h_3 ⟨hS, hk⟩
    replace hS : St F (Ow.own 27 17 e_api_Addr (.slice (some ⟨b_2, 0, none⟩) 1 1) ([x] : List T_api_Addr) :: Ow.box b_1 27 (e_api_Addr x).toArray :: Ow.box bc0 22 #[vc0_v] :: Ow.own 27 17 e_api_Addr v_2 (c0_v ++ ([x] : List T_api_Addr)) :: fr) h_3 := hS
    replace hK := hK.trans hk
    refine HO.sto (want_none) rfl (st_store (c' := #[v_2]) hS (i := 2) rfl to_22 rfl rfl (shp (hS.own 3 rfl).slice).cells (shp (hS.own 3 rfl).slice).one (Nat.le_of_ble_eq_true rfl) rfl) ?_
    rintro h_4 ⟨hS, hk⟩
    replace hS : St F (Ow.own 27 17 e_api_Addr (.slice (some ⟨b_2, 0, none⟩) 1 1) ([x] : List T_api_Addr) :: Ow.box b_1 27 (e_api_Addr x).toArray :: Ow.box bc0 22 #[v_2] :: Ow.own 27 17 e_api_Addr v_2 (c0_v ++ ([x] : List T_api_Addr)) :: fr) h_4 := hS
    replace hK := hK.trans hk
    refine HO.nil (?_)
    refine ⟨.inl rfl, .tuple #[], res0 rfl , ?_⟩
    replace hS : St F (Ow.box bc0 22 #[v_2] :: Ow.own 27 17 e_api_Addr v_2 (c0_v ++ ([x] : List T_api_Addr)) :: fr) h_4 := hS.perm2 [2, 3] 4 rfl rfl
    exact ⟨F, c0_v ++ ([x] : List T_api_Addr), v_2, rfl, hK, hS, hM⟩
  · replace hM := hM.2 c_1
    refine HW.skip (?_)
    refine ⟨.inl rfl, .tuple #[], res0 rfl , ?_⟩
    replace hS : St F (Ow.box bc0 22 #[vc0_v] :: Ow.own 27 17 e_api_Addr vc0_v c0_v :: fr) h_1 := hS.perm2 [1, 2] 3 rfl rfl
    exact ⟨F, c0_v, vc0_v, rfl, hK, hS, hM⟩

def srcs_walk_api_Addr_l3 (second : Bool) (Q : (List T_api_Addr) → Prop) (b_2 : List T_api_Addr) (K_3 : (List T_api_Addr) → Int → Prop) (out_0_3 : List T_api_Addr) (n_2 : Int) : Prop :=
  (n_2 < (b_2.length : Int) → ((0 : Int) ≤ n_2 ∧ n_2 < (b_2.length : Int)) ∧ (srcs_walk_1_api_Addr_W (gi b_2 n_2) second out_0_3 (fun a2_0_5 => (I64 (n_2 + 1)) ∧ (K_3 a2_0_5 (n_2 + 1))))) ∧ (¬ (n_2 < (b_2.length : Int)) → Q out_0_3)
def srcs_walk_api_Addr_l2 (first : Bool) (second : Bool) (Q : (List T_api_Addr) → Prop) (a_1 : List T_api_Addr) (b_2 : List T_api_Addr) (K_2 : (List T_api_Addr) → Int → Prop) (out_0_2 : List T_api_Addr) (n_1 : Int) : Prop :=
  (n_1 < (a_1.length : Int) → ((0 : Int) ≤ n_1 ∧ n_1 < (a_1.length : Int)) ∧ (srcs_walk_1_api_Addr_W (gi a_1 n_1) first out_0_2 (fun a2_0_4 => (I64 (n_1 + 1)) ∧ (K_2 a2_0_4 (n_1 + 1))))) ∧ (¬ (n_1 < (a_1.length : Int)) → loopW (fun (K_3 : (List T_api_Addr × Int) → Prop) (s : List T_api_Addr × Int) => srcs_walk_api_Addr_l3 second Q b_2 (fun out_0_3 n_2 => K_3 (out_0_3, n_2)) s.1 s.2) (out_0_2, 0))
def srcs_walk_api_Addr_j1 (cf_order : T_api_Addr → T_api_Addr → Int) (first : Bool) (both : Bool) (second : Bool) (Q : (List T_api_Addr) → Prop) (a_1 : List T_api_Addr) (b_2 : List T_api_Addr) (out_0_1 : List T_api_Addr) (K_1 : (List T_api_Addr) → (List T_api_Addr) → (List T_api_Addr) → Prop) (b_3 : Bool) : Prop :=
  (b_3 = true → ((0 : Int) ≤ 0 ∧ 0 < (a_1.length : Int)) ∧ (((0 : Int) ≤ 0 ∧ 0 < (b_2.length : Int)) ∧ (((cf_order (gi a_1 0) (gi b_2 0)) < 0 → srcs_walk_1_api_Addr_W (gi a_1 0) first out_0_1 (fun a2_0_1 => ((0 : Int) ≤ 1 ∧ 1 ≤ (a_1.length : Int)) ∧ (K_1 (cut a_1 1 (a_1.length : Int)) b_2 a2_0_1))) ∧ (¬ ((cf_order (gi a_1 0) (gi b_2 0)) < 0) → (0 < (cf_order (gi a_1 0) (gi b_2 0)) → srcs_walk_1_api_Addr_W (gi b_2 0) second out_0_1 (fun a2_0_2 => ((0 : Int) ≤ 1 ∧ 1 ≤ (b_2.length : Int)) ∧ (K_1 a_1 (cut b_2 1 (b_2.length : Int)) a2_0_2))) ∧ (¬ (0 < (cf_order (gi a_1 0) (gi b_2 0))) → srcs_walk_1_api_Addr_W (gi a_1 0) both out_0_1 (fun a2_0_3 => ((0 : Int) ≤ 1 ∧ 1 ≤ (a_1.length : Int)) ∧ (((0 : Int) ≤ 1 ∧ 1 ≤ (b_2.length : Int)) ∧ (K_1 (cut a_1 1 (a_1.length : Int)) (cut b_2 1 (b_2.length : Int)) a2_0_3)))))))) ∧ (b_3 = false → loopW (fun (K_2 : (List T_api_Addr × Int) → Prop) (s : List T_api_Addr × Int) => srcs_walk_api_Addr_l2 first second Q a_1 b_2 (fun out_0_2 n_1 => K_2 (out_0_2, n_1)) s.1 s.2) (out_0_1, 0))
def srcs_walk_api_Addr_l1 (cf_order : T_api_Addr → T_api_Addr → Int) (first : Bool) (both : Bool) (second : Bool) (Q : (List T_api_Addr) → Prop) (K_1 : (List T_api_Addr) → (List T_api_Addr) → (List T_api_Addr) → Prop) (a_1 : List T_api_Addr) (b_2 : List T_api_Addr) (out_0_1 : List T_api_Addr) : Prop :=
  (0 < (a_1.length : Int) → srcs_walk_api_Addr_j1 cf_order first both second Q a_1 b_2 out_0_1 K_1 (decide (0 < (b_2.length : Int)))) ∧ (¬ (0 < (a_1.length : Int)) → srcs_walk_api_Addr_j1 cf_order first both second Q a_1 b_2 out_0_1 K_1 false)
def srcs_walk_api_Addr_W (a : List T_api_Addr) (b : List T_api_Addr) (cf_order : T_api_Addr → T_api_Addr → Int) (first : Bool) (both : Bool) (second : Bool) (Q : (List T_api_Addr) → Prop) : Prop :=
  loopW (fun (K_1 : (List T_api_Addr × List T_api_Addr × List T_api_Addr) → Prop) (s : List T_api_Addr × List T_api_Addr × List T_api_Addr) => srcs_walk_api_Addr_l1 cf_order first both second Q (fun a_1 b_2 out_0_1 => K_1 (a_1, b_2, out_0_1)) s.1 s.2.1 s.2.2) (a, b, [])
set_option maxHeartbeats 40000000 in
set_option maxRecDepth 100000 in
theorem srcs_walk_api_Addr_walk {F : Fz} {fr : List Ow} {h0 : Heap} (a : List T_api_Addr) (b : List T_api_Addr) (cf_order : T_api_Addr → T_api_Addr → Int) (first : Bool) (both : Bool) (second : Bool) (va : Value) (vb : Value) (g_order : Nat) (fs_order : Array Value) (cs_order : Array Value) (hS : St F (fr) h0) (hL_a : SliceF F h0 17 e_api_Addr va a) (hL_b : SliceF F h0 17 e_api_Addr vb b) (hF_cf_order : FnP Tryd.prog F h0 g_order fs_order cs_order (fun x : T_api_Addr × T_api_Addr => [.agg (e_api_Addr x.1).toArray, .agg (e_api_Addr x.2).toArray]) (fun x => .int .i64 (cf_order x.1 x.2))) {Q : (List T_api_Addr) → Prop} (hM : srcs_walk_api_Addr_W a b cf_order first both second Q) :
    HC Tryd.prog 64 #[va, vb, .func (.func g_order) fs_order cs_order, .bool first, .bool both, .bool second] h0 fun u h' => ∃ (F' : Fz) (r_1 : List T_api_Addr) (vr_1 : Value), u = vr_1 ∧ Kp F h0 F' h' ∧ St F' (Ow.own 27 17 e_api_Addr vr_1 r_1 :: fr) h' ∧ (SliceF F' h' 17 e_api_Addr va a) ∧ (SliceF F' h' 17 e_api_Addr vb b) ∧ (FnP Tryd.prog F' h' g_order fs_order cs_order (fun x : T_api_Addr × T_api_Addr => [.agg (e_api_Addr x.1).toArray, .agg (e_api_Addr x.2).toArray]) (fun x => .int .i64 (cf_order x.1 x.2))) ∧ Q r_1 := by
  unfold srcs_walk_api_Addr_W at hM
  have hK := Kp.refl F h0
  refine HC.of_HW (n := 92) Tryd.func64 rfl rfl (Nat.le_of_ble_eq_true rfl) ?_
  refine HW.seq ?_
  refine HW.region ?_
  refine HO.val (v := .slice none 0 0) (want_none) rfl (q_assign rfl) ?_
  refine HO.nil (thenQ_normal (?_))
  refine HW.seq ?_
  refine HW.region ?_
  refine HO.eff (want_none) rfl (st_alloc (c := #[.slice none 0 0]) hS tz_22 rfl) ?_
  rintro _ h_1 ⟨b_1, rfl, hS, hk⟩
  replace hK := hK.trans hk
  replace hL_a := hL_a.kp hk
  replace hL_b := hL_b.kp hk
  replace hF_cf_order := hF_cf_order.kp hk
  refine HO.nil (thenQ_normal (?_))
  refine HW.seq ?_
  refine HW.region ?_
  refine HO.val (v := .func (.func 77) #[] #[.pointer (some ⟨b_1, 0, none⟩)]) (want_none) rfl (q_makeFunc rfl rfl) ?_
  refine HO.val (v := .func (.func 77) #[] #[.pointer (some ⟨b_1, 0, none⟩)]) (want_none) rfl (q_assign rfl) ?_
  refine HO.nil (thenQ_normal (?_))
  refine HW.seq ?_
  refine HW.block ?_
  obtain ⟨I_1, m_1, hI_1, hR_1⟩ := hM
  replace hS := hS.nilOwn 27 17 e_api_Addr
  replace hS : St F (Ow.box b_1 22 #[.slice none 0 0] :: Ow.own 27 17 e_api_Addr (.slice none 0 0) ([] : List T_api_Addr) :: fr) h_1 := hS.perm2 [1, 0] 2 rfl rfl
  refine HW.loop (S := List T_api_Addr × List T_api_Addr × List T_api_Addr) (fun s f h => match s with | (a_1, b_2, out_0_1) => ∃ (F' : Fz) (va_1 : Value) (vb_1 : Value) (vout_0_1 : Value), f 0 = va_1 ∧ f 1 = vb_1 ∧ f 2 = .func (.func g_order) fs_order cs_order ∧ f 3 = .bool first ∧ f 4 = .bool both ∧ f 5 = .bool second ∧ f 12 = .slice none 0 0 ∧ f 13 = .pointer (some ⟨b_1, 0, none⟩) ∧ f 14 = .func (.func 77) #[] #[.pointer (some ⟨b_1, 0, none⟩)] ∧ Kp F h0 F' h ∧ St F' (Ow.box b_1 22 #[vout_0_1] :: Ow.own 27 17 e_api_Addr vout_0_1 out_0_1 :: fr) h ∧ (SliceF F' h 17 e_api_Addr va a) ∧ (SliceF F' h 17 e_api_Addr vb b) ∧ (FnP Tryd.prog F' h g_order fs_order cs_order (fun x : T_api_Addr × T_api_Addr => [.agg (e_api_Addr x.1).toArray, .agg (e_api_Addr x.2).toArray]) (fun x => .int .i64 (cf_order x.1 x.2))) ∧ (SliceF F' h 17 e_api_Addr va_1 a_1) ∧ (SliceF F' h 17 e_api_Addr vb_1 b_2) ∧ I_1 (a_1, b_2, out_0_1)) m_1 (a, b, []) ⟨F, va, vb, .slice none 0 0, rfl, rfl, rfl, rfl, rfl, rfl, rfl, rfl, rfl, hK, hS, hL_a, hL_b, hF_cf_order, hL_a, hL_b, hI_1⟩ ?_
  rintro ⟨a_1, b_2, out_0_1⟩ f_1 h_2 ⟨F_1, va_1, vb_1, vout_0_1, e0, e1, e2, e3, e4, e5, e12, e13, e14, hK, hS, hL_a, hL_b, hF_cf_order, hL_1, hL_2, hI0⟩
  obtain ⟨K_1, hKe_1⟩ : ∃ K : (List T_api_Addr) → (List T_api_Addr) → (List T_api_Addr) → Prop, K = fun a_1' b_2' out_0_1' => I_1 (a_1', b_2', out_0_1') ∧ m_1 (a_1', b_2', out_0_1') < m_1 (a_1, b_2, out_0_1) := ⟨_, rfl⟩
  have hM : srcs_walk_api_Addr_l1 cf_order first both second Q K_1 a_1 b_2 out_0_1 := by rw [hKe_1]; exact hR_1 (a_1, b_2, out_0_1) hI0
  unfold srcs_walk_api_Addr_l1 at hM
  refine HW.fr [(0, va_1), (1, vb_1), (2, .func (.func g_order) fs_order cs_order), (3, .bool first), (4, .bool both), (5, .bool second), (12, .slice none 0 0), (13, .pointer (some ⟨b_1, 0, none⟩)), (14, .func (.func 77) #[] #[.pointer (some ⟨b_1, 0, none⟩)])] ⟨e0, e1, e2, e3, e4, e5, e12, e13, e14, trivial⟩ ?_
  refine HW.seq ?_
  refine HW.seq_mid (fun f h => ∃ (F' : Fz) (b_3 : Bool), f 0 = va_1 ∧ f 1 = vb_1 ∧ f 2 = .func (.func g_order) fs_order cs_order ∧ f 3 = .bool first ∧ f 4 = .bool both ∧ f 5 = .bool second ∧ f 12 = .slice none 0 0 ∧ f 13 = .pointer (some ⟨b_1, 0, none⟩) ∧ f 14 = .func (.func 77) #[] #[.pointer (some ⟨b_1, 0, none⟩)] ∧ f 28 = .bool b_3 ∧ Kp F h0 F' h ∧ St F' (Ow.box b_1 22 #[vout_0_1] :: Ow.own 27 17 e_api_Addr vout_0_1 out_0_1 :: fr) h ∧ (SliceF F' h 17 e_api_Addr va a) ∧ (SliceF F' h 17 e_api_Addr vb b) ∧ (FnP Tryd.prog F' h g_order fs_order cs_order (fun x : T_api_Addr × T_api_Addr => [.agg (e_api_Addr x.1).toArray, .agg (e_api_Addr x.2).toArray]) (fun x => .int .i64 (cf_order x.1 x.2))) ∧ (SliceF F' h 17 e_api_Addr va_1 a_1) ∧ (SliceF F' h 17 e_api_Addr vb_1 b_2) ∧ srcs_walk_api_Addr_j1 cf_order first both second Q a_1 b_2 out_0_1 K_1 b_3) ?_ ?_
  · refine HW.region ?_
    refine HO.val (v := va_1) (want_none) rfl (q_move rfl) ?_
    refine HO.val (v := .int .i64 (a_1.length : Int)) (want_none) rfl (q_len ts_22 (shp hL_1.is) rfl rfl) ?_
    refine HO.val (v := .bool (decide (0 < (a_1.length : Int)))) (want_none) rfl (q_gtr rfl rfl) ?_
    refine HO.val (v := .bool (decide (0 < (a_1.length : Int)))) (want_none) rfl (q_move rfl) ?_
    rcases Bool.eq_false_or_eq_true (decide (0 < (a_1.length : Int))) with c_1 | c_1
    · replace hM := hM.1 (of_decide_eq_true c_1)
      refine HO.val (v := vb_1) (want_by rfl rfl c_1) rfl (q_move rfl) ?_
      refine HO.val (v := .int .i64 (b_2.length : Int)) (want_by rfl rfl c_1) rfl (q_len ts_22 (shp hL_2.is) rfl rfl) ?_
      refine HO.val (v := .bool (decide (0 < (b_2.length : Int)))) (want_by rfl rfl c_1) rfl (q_gtr rfl rfl) ?_
      refine HO.val (v := .bool (decide (0 < (b_2.length : Int)))) (want_none) rfl (q_pickK true rfl c_1 rfl) ?_
      refine HO.nil (thenQ_normal (?_))
      exact ⟨F_1, decide (0 < (b_2.length : Int)), rfl, rfl, rfl, rfl, rfl, rfl, rfl, rfl, rfl, rfl, hK, hS, hL_a, hL_b, hF_cf_order, hL_1, hL_2, hM⟩
    · replace hM := hM.2 (of_decide_eq_false c_1)
      refine HO.past (past_by rfl rfl c_1) rfl ?_
      refine HO.past (past_by rfl rfl c_1) rfl ?_
      refine HO.past (past_by rfl rfl c_1) rfl ?_
      refine HO.val (v := .bool false) (want_none) rfl (q_pickK false rfl c_1 rfl) ?_
      refine HO.nil (thenQ_normal (?_))
      exact ⟨F_1, false, rfl, rfl, rfl, rfl, rfl, rfl, rfl, rfl, rfl, rfl, hK, hS, hL_a, hL_b, hF_cf_order, hL_1, hL_2, hM⟩
  · rintro f_2 h_3 ⟨F_2, b_3, e0, e1, e2, e3, e4, e5, e12, e13, e14, e28, hK, hS, hL_a, hL_b, hF_cf_order, hL_1, hL_2, hM⟩
    unfold srcs_walk_api_Addr_j1 at hM
    refine HW.fr [(0, va_1), (1, vb_1), (2, .func (.func g_order) fs_order cs_order), (3, .bool first), (4, .bool both), (5, .bool second), (12, .slice none 0 0), (13, .pointer (some ⟨b_1, 0, none⟩)), (14, .func (.func 77) #[] #[.pointer (some ⟨b_1, 0, none⟩)]), (28, .bool b_3)] ⟨e0, e1, e2, e3, e4, e5, e12, e13, e14, e28, trivial⟩ ?_
    refine HW.cond b_3 rfl (fun c_2 => ?_) (fun c_2 => ?_)
    · replace hM := hM.1 c_2
      refine HW.skip (thenQ_normal (?_))
      refine HW.block ?_
      refine HW.seq ?_
      refine HW.regionA 9 mixed (fun h => (SliceIs h 17 e_api_Addr va_1 a_1) ∧ (SliceIs h 17 e_api_Addr vb_1 b_2)) [] (by kernel_rfl) ?_
      refine HA.val (k := 0) (v := .func (.func g_order) fs_order cs_order) rfl rfl (by kernel_rfl) (by kernel_rfl) (want_none) rfl (fun _ ⟨hL_1, hL_2⟩ => q_move rfl) ?_
      refine HA.val (k := 1) (v := va_1) rfl rfl (by kernel_rfl) (by kernel_rfl) (want_none) rfl (fun _ ⟨hL_1, hL_2⟩ => q_move rfl) ?_
      obtain ⟨ho_1, hM⟩ := hM
      refine HA.val (k := 2) (v := elemPtr 17 va_1 (0 : Int).toNat) rfl rfl (by kernel_rfl) (by kernel_rfl) (want_none) rfl (fun _ ⟨hL_1, hL_2⟩ => q_idx ts_22 hL_1 rfl rfl ho_1) ?_
      refine HA.val (k := 3) (v := .agg (e_api_Addr (gi a_1 0)).toArray) rfl rfl (by kernel_rfl) (by kernel_rfl) (want_none) rfl (fun _ ⟨hL_1, hL_2⟩ => q_ldElemAgg (cs := (e_api_Addr (gi a_1 0))) ta_27 hL_1 rfl ho_1 rfl) ?_
      refine HA.val (k := 4) (v := vb_1) rfl rfl (by kernel_rfl) (by kernel_rfl) (want_none) rfl (fun _ ⟨hL_1, hL_2⟩ => q_move rfl) ?_
      obtain ⟨ho_2, hM⟩ := hM
      refine HA.val (k := 5) (v := elemPtr 17 vb_1 (0 : Int).toNat) rfl rfl (by kernel_rfl) (by kernel_rfl) (want_none) rfl (fun _ ⟨hL_1, hL_2⟩ => q_idx ts_22 hL_2 rfl rfl ho_2) ?_
      refine HA.val (k := 6) (v := .agg (e_api_Addr (gi b_2 0)).toArray) rfl rfl (by kernel_rfl) (by kernel_rfl) (want_none) rfl (fun _ ⟨hL_1, hL_2⟩ => q_ldElemAgg (cs := (e_api_Addr (gi b_2 0))) ta_27 hL_2 rfl ho_2 rfl) ?_
      refine HA.one (k := 7) ⟨⟨hL_1.is, hL_2.is⟩, (Go.Wk.at_nil _ _)⟩ (by kernel_rfl) ?_
      refine HS.call rfl (want_none) rfl (hF_cf_order.ec ((gi a_1 0), (gi b_2 0)) rfl rfl) (hF_cf_order.hc ((gi a_1 0), (gi b_2 0)) hS) ?_
      rintro _ h_4 ⟨rfl, hS, hk⟩
      replace hK := hK.trans hk
      replace hL_a := hL_a.kp hk
      replace hL_b := hL_b.kp hk
      replace hF_cf_order := hF_cf_order.kp hk
      replace hL_1 := hL_1.kp hk
      replace hL_2 := hL_2.kp hk
      refine HA.val (k := 8) (v := .int .i64 (cf_order (gi a_1 0) (gi b_2 0))) rfl rfl (by kernel_rfl) (by kernel_rfl) (want_none) rfl (fun _ ⟨hL_1, hL_2⟩ => q_assign rfl) ?_
      refine HA.nil ⟨⟨hL_1.is, hL_2.is⟩, (Go.Wk.at_nil _ _)⟩ (by kernel_rfl) (thenQ_normal (?_))
      refine HW.block ?_
      refine HW.seq ?_
      refine HW.region ?_
      refine HO.val (v := .int .i64 (cf_order (gi a_1 0) (gi b_2 0))) (want_none) rfl (q_move rfl) ?_
      refine HO.val (v := .bool (decide ((cf_order (gi a_1 0) (gi b_2 0)) < 0))) (want_none) rfl (q_lss rfl rfl) ?_
      refine HO.val (v := .bool (decide ((cf_order (gi a_1 0) (gi b_2 0)) < 0))) (want_none) rfl (q_assign rfl) ?_
      refine HO.nil (thenQ_normal (?_))
      refine HW.cond (decide ((cf_order (gi a_1 0) (gi b_2 0)) < 0)) rfl (fun c_3 => ?_) (fun c_3 => ?_)
      · replace hM := hM.1 (of_decide_eq_true c_3)
        refine HW.seq ?_
        refine HW.region ?_
        refine HO.val (v := .func (.func 77) #[] #[.pointer (some ⟨b_1, 0, none⟩)]) (want_none) rfl (q_move rfl) ?_
        refine HO.val (v := va_1) (want_none) rfl (q_move rfl) ?_
        refine HO.val (v := elemPtr 17 va_1 (0 : Int).toNat) (want_none) rfl (q_idx ts_22 hL_1.is rfl rfl ho_1) ?_
        refine HO.val (v := .agg (e_api_Addr (gi a_1 0)).toArray) (want_none) rfl (q_ldElemAgg (cs := (e_api_Addr (gi a_1 0))) ta_27 hL_1.is rfl ho_1 rfl) ?_
        refine HO.val (v := .bool first) (want_none) rfl (q_move rfl) ?_
        refine HO.call (want_none) rfl (ec en_77 rfl rfl) (srcs_walk_1_api_Addr_walk (fr := (fr)) (gi a_1 0) first out_0_1 b_1 vout_0_1 hS hM) ?_
        rintro _ h_5 ⟨F_3, a2_0_1, v_1, rfl, hk, hS, hM⟩
        replace hK := hK.trans hk
        replace hL_a := hL_a.kp hk
        replace hL_b := hL_b.kp hk
        replace hF_cf_order := hF_cf_order.kp hk
        replace hL_1 := hL_1.kp hk
        replace hL_2 := hL_2.kp hk
        refine HO.nil (thenQ_normal (?_))
        refine HW.region ?_
        refine HO.val (v := va_1) (want_none) rfl (q_move rfl) ?_
        obtain ⟨ho_3, hM⟩ := hM
        refine HO.val (v := cutV 17 va_1 (1 : Int).toNat ((a_1.length : Int)).toNat) (want_none) rfl (q_slL ts_22 hL_1.is rfl rfl ho_3) ?_
        refine HO.val (v := cutV 17 va_1 (1 : Int).toNat ((a_1.length : Int)).toNat) (want_none) rfl (q_assign rfl) ?_
        refine HO.nil (blockQ_normal (blockQ_normal (thenQ_normal (?_))))
        rw [hKe_1] at hM
        exact ⟨(cut a_1 1 (a_1.length : Int), b_2, a2_0_1), ⟨F_3, cutV 17 va_1 (1 : Int).toNat ((a_1.length : Int)).toNat, vb_1, v_1, rfl, rfl, rfl, rfl, rfl, rfl, rfl, rfl, rfl, hK, hS, hL_a, hL_b, hF_cf_order, (cutF hL_1 1 (a_1.length : Int) ho_3.1 ho_3.2 (Int.le_refl _)), hL_2, hM.1⟩, hM.2⟩
      · replace hM := hM.2 (of_decide_eq_false c_3)
        refine HW.seq ?_
        refine HW.region ?_
        refine HO.val (v := .int .i64 (cf_order (gi a_1 0) (gi b_2 0))) (want_none) rfl (q_move rfl) ?_
        refine HO.val (v := .bool (decide (0 < (cf_order (gi a_1 0) (gi b_2 0))))) (want_none) rfl (q_gtr rfl rfl) ?_
        refine HO.val (v := .bool (decide (0 < (cf_order (gi a_1 0) (gi b_2 0))))) (want_none) rfl (q_assign rfl) ?_
        refine HO.nil (thenQ_normal (?_))
        refine HW.cond (decide (0 < (cf_order (gi a_1 0) (gi b_2 0)))) rfl (fun c_4 => ?_) (fun c_4 => ?_)
        · replace hM := hM.1 (of_decide_eq_true c_4)
          refine HW.seq ?_
          refine HW.region ?_
          refine HO.val (v := .func (.func 77) #[] #[.pointer (some ⟨b_1, 0, none⟩)]) (want_none) rfl (q_move rfl) ?_
          refine HO.val (v := vb_1) (want_none) rfl (q_move rfl) ?_
          refine HO.val (v := elemPtr 17 vb_1 (0 : Int).toNat) (want_none) rfl (q_idx ts_22 hL_2.is rfl rfl ho_2) ?_
          refine HO.val (v := .agg (e_api_Addr (gi b_2 0)).toArray) (want_none) rfl (q_ldElemAgg (cs := (e_api_Addr (gi b_2 0))) ta_27 hL_2.is rfl ho_2 rfl) ?_
          refine HO.val (v := .bool second) (want_none) rfl (q_move rfl) ?_
          refine HO.call (want_none) rfl (ec en_77 rfl rfl) (srcs_walk_1_api_Addr_walk (fr := (fr)) (gi b_2 0) second out_0_1 b_1 vout_0_1 hS hM) ?_
          rintro _ h_6 ⟨F_4, a2_0_2, v_2, rfl, hk, hS, hM⟩
          replace hK := hK.trans hk
          replace hL_a := hL_a.kp hk
          replace hL_b := hL_b.kp hk
          replace hF_cf_order := hF_cf_order.kp hk
          replace hL_1 := hL_1.kp hk
          replace hL_2 := hL_2.kp hk
          refine HO.nil (thenQ_normal (?_))
          refine HW.region ?_
          refine HO.val (v := vb_1) (want_none) rfl (q_move rfl) ?_
          obtain ⟨ho_4, hM⟩ := hM
          refine HO.val (v := cutV 17 vb_1 (1 : Int).toNat ((b_2.length : Int)).toNat) (want_none) rfl (q_slL ts_22 hL_2.is rfl rfl ho_4) ?_
          refine HO.val (v := cutV 17 vb_1 (1 : Int).toNat ((b_2.length : Int)).toNat) (want_none) rfl (q_assign rfl) ?_
          refine HO.nil (blockQ_normal (blockQ_normal (thenQ_normal (?_))))
          rw [hKe_1] at hM
          exact ⟨(a_1, cut b_2 1 (b_2.length : Int), a2_0_2), ⟨F_4, va_1, cutV 17 vb_1 (1 : Int).toNat ((b_2.length : Int)).toNat, v_2, rfl, rfl, rfl, rfl, rfl, rfl, rfl, rfl, rfl, hK, hS, hL_a, hL_b, hF_cf_order, hL_1, (cutF hL_2 1 (b_2.length : Int) ho_4.1 ho_4.2 (Int.le_refl _)), hM.1⟩, hM.2⟩
        · replace hM := hM.2 (of_decide_eq_false c_4)
          refine HW.seq ?_
          refine HW.region ?_
          refine HO.val (v := .func (.func 77) #[] #[.pointer (some ⟨b_1, 0, none⟩)]) (want_none) rfl (q_move rfl) ?_
          refine HO.val (v := va_1) (want_none) rfl (q_move rfl) ?_
          refine HO.val (v := elemPtr 17 va_1 (0 : Int).toNat) (want_none) rfl (q_idx ts_22 hL_1.is rfl rfl ho_1) ?_
          refine HO.val (v := .agg (e_api_Addr (gi a_1 0)).toArray) (want_none) rfl (q_ldElemAgg (cs := (e_api_Addr (gi a_1 0))) ta_27 hL_1.is rfl ho_1 rfl) ?_
          refine HO.val (v := .bool both) (want_none) rfl (q_move rfl) ?_
          refine HO.call (want_none) rfl (ec en_77 rfl rfl) (srcs_walk_1_api_Addr_walk (fr := (fr)) (gi a_1 0) both out_0_1 b_1 vout_0_1 hS hM) ?_
          rintro _ h_7 ⟨F_5, a2_0_3, v_3, rfl, hk, hS, hM⟩
          replace hK := hK.trans hk
          replace hL_a := hL_a.kp hk
          replace hL_b := hL_b.kp hk
          replace hF_cf_order := hF_cf_order.kp hk
          replace hL_1 := hL_1.kp hk
          replace hL_2 := hL_2.kp hk
          refine HO.nil (thenQ_normal (?_))
          refine HW.regionA 6 mixed (fun h => (SliceIs h 17 e_api_Addr va a) ∧ (SliceIs h 17 e_api_Addr vb b) ∧ (True) ∧ (SliceIs h 17 e_api_Addr va_1 a_1) ∧ (SliceIs h 17 e_api_Addr vb_1 b_2) ∧ (Blk h b_1 (.cells #[v_3] 22 (0, 0))) ∧ (OwnIs h 0 27 17 e_api_Addr v_3 a2_0_3)) [] (by kernel_rfl) ?_
          refine HA.val (k := 0) (v := va_1) rfl rfl (by kernel_rfl) (by kernel_rfl) (want_none) rfl (fun _ ⟨hL_a, hL_b, hF_cf_order, hL_1, hL_2, c356, c357⟩ => q_move rfl) ?_
          obtain ⟨ho_5, hM⟩ := hM
          refine HA.val (k := 1) (v := cutV 17 va_1 (1 : Int).toNat ((a_1.length : Int)).toNat) rfl rfl (by kernel_rfl) (by kernel_rfl) (want_none) rfl (fun _ ⟨hL_a, hL_b, hF_cf_order, hL_1, hL_2, c356, c357⟩ => q_slL ts_22 hL_1 rfl rfl ho_5) ?_
          refine HA.val (k := 2) (v := vb_1) rfl rfl (by kernel_rfl) (by kernel_rfl) (want_none) rfl (fun _ ⟨hL_a, hL_b, hF_cf_order, hL_1, hL_2, c356, c357⟩ => q_move rfl) ?_
          obtain ⟨ho_6, hM⟩ := hM
          refine HA.val (k := 3) (v := cutV 17 vb_1 (1 : Int).toNat ((b_2.length : Int)).toNat) rfl rfl (by kernel_rfl) (by kernel_rfl) (want_none) rfl (fun _ ⟨hL_a, hL_b, hF_cf_order, hL_1, hL_2, c356, c357⟩ => q_slL ts_22 hL_2 rfl rfl ho_6) ?_
          refine HA.val (k := 4) (v := cutV 17 va_1 (1 : Int).toNat ((a_1.length : Int)).toNat) rfl rfl (by kernel_rfl) (by kernel_rfl) (want_none) rfl (fun _ ⟨hL_a, hL_b, hF_cf_order, hL_1, hL_2, c356, c357⟩ => q_assign rfl) ?_
          refine HA.val (k := 5) (v := cutV 17 vb_1 (1 : Int).toNat ((b_2.length : Int)).toNat) rfl rfl (by kernel_rfl) (by kernel_rfl) (want_none) rfl (fun _ ⟨hL_a, hL_b, hF_cf_order, hL_1, hL_2, c356, c357⟩ => q_assign rfl) ?_
          refine HA.nil ⟨⟨hL_a.is, hL_b.is, trivial, hL_1.is, hL_2.is, (hS.box 0 rfl), (hS.own 1 rfl)⟩, (Go.Wk.at_nil _ _)⟩ (by kernel_rfl) (blockQ_normal (blockQ_normal (thenQ_normal (?_))))
          rw [hKe_1] at hM
          exact ⟨(cut a_1 1 (a_1.length : Int), cut b_2 1 (b_2.length : Int), a2_0_3), ⟨F_5, cutV 17 va_1 (1 : Int).toNat ((a_1.length : Int)).toNat, cutV 17 vb_1 (1 : Int).toNat ((b_2.length : Int)).toNat, v_3, rfl, rfl, rfl, rfl, rfl, rfl, rfl, rfl, rfl, hK, hS, hL_a, hL_b, hF_cf_order, (cutF hL_1 1 (a_1.length : Int) ho_5.1 ho_5.2 (Int.le_refl _)), (cutF hL_2 1 (b_2.length : Int) ho_6.1 ho_6.2 (Int.le_refl _)), hM.1⟩, hM.2⟩
    · replace hM := hM.2 c_2
      refine HW.exit (thenQ_exit (thenQ_exit (blockQ_exit (thenQ_normal (?_)))))
      refine HW.seq ?_
      refine HW.seq ?_
      refine HW.region ?_
      refine HO.val (v := va_1) (want_none) rfl (q_move rfl) ?_
      refine HO.val (v := .int .i64 (a_1.length : Int)) (want_none) rfl (q_len ts_22 (shp hL_1.is) rfl rfl) ?_
      refine HO.val (v := .int .i64 0) (want_none) rfl (q_move rfl) ?_
      refine HO.nil (thenQ_normal (?_))
      refine HW.block ?_
      obtain ⟨I_2, m_2, hI_2, hR_2⟩ := hM
      refine HW.loop (S := List T_api_Addr × Int) (fun s f h => match s with | (out_0_2, n_1) => ∃ (F' : Fz) (vout_0_2 : Value), f 1 = vb_1 ∧ f 3 = .bool first ∧ f 5 = .bool second ∧ f 12 = .slice none 0 0 ∧ f 13 = .pointer (some ⟨b_1, 0, none⟩) ∧ f 14 = .func (.func 77) #[] #[.pointer (some ⟨b_1, 0, none⟩)] ∧ f 69 = va_1 ∧ f 70 = .int .i64 (a_1.length : Int) ∧ f 71 = .int .i64 n_1 ∧ Kp F h0 F' h ∧ St F' (Ow.box b_1 22 #[vout_0_2] :: Ow.own 27 17 e_api_Addr vout_0_2 out_0_2 :: fr) h ∧ (SliceF F' h 17 e_api_Addr va a) ∧ (SliceF F' h 17 e_api_Addr vb b) ∧ (FnP Tryd.prog F' h g_order fs_order cs_order (fun x : T_api_Addr × T_api_Addr => [.agg (e_api_Addr x.1).toArray, .agg (e_api_Addr x.2).toArray]) (fun x => .int .i64 (cf_order x.1 x.2))) ∧ (SliceF F' h 17 e_api_Addr va_1 a_1) ∧ (SliceF F' h 17 e_api_Addr vb_1 b_2) ∧ I_2 (out_0_2, n_1)) m_2 (out_0_1, 0) ⟨F_2, vout_0_1, rfl, rfl, rfl, rfl, rfl, rfl, rfl, rfl, rfl, hK, hS, hL_a, hL_b, hF_cf_order, hL_1, hL_2, hI_2⟩ ?_
      rintro ⟨out_0_2, n_1⟩ f_3 h_8 ⟨F_6, vout_0_2, e1, e3, e5, e12, e13, e14, e69, e70, e71, hK, hS, hL_a, hL_b, hF_cf_order, hL_1, hL_2, hI0⟩
      obtain ⟨K_2, hKe_2⟩ : ∃ K : (List T_api_Addr) → Int → Prop, K = fun out_0_2' n_1' => I_2 (out_0_2', n_1') ∧ m_2 (out_0_2', n_1') < m_2 (out_0_2, n_1) := ⟨_, rfl⟩
      have hM : srcs_walk_api_Addr_l2 first second Q a_1 b_2 K_2 out_0_2 n_1 := by rw [hKe_2]; exact hR_2 (out_0_2, n_1) hI0
      unfold srcs_walk_api_Addr_l2 at hM
      refine HW.fr [(1, vb_1), (3, .bool first), (5, .bool second), (12, .slice none 0 0), (13, .pointer (some ⟨b_1, 0, none⟩)), (14, .func (.func 77) #[] #[.pointer (some ⟨b_1, 0, none⟩)]), (69, va_1), (70, .int .i64 (a_1.length : Int)), (71, .int .i64 n_1)] ⟨e1, e3, e5, e12, e13, e14, e69, e70, e71, trivial⟩ ?_
      refine HW.seq ?_
      refine HW.region ?_
      refine HO.val (v := .bool (decide (n_1 < (a_1.length : Int)))) (want_none) rfl (q_lss rfl rfl) ?_
      refine HO.nil (thenQ_normal (?_))
      refine HW.seq ?_
      refine HW.cond (decide (n_1 < (a_1.length : Int))) rfl (fun c_5 => ?_) (fun c_5 => ?_)
      · replace hM := hM.1 (of_decide_eq_true c_5)
        refine HW.skip (thenQ_normal (?_))
        refine HW.seq ?_
        refine HW.block ?_
        refine HW.seq ?_
        refine HW.region ?_
        obtain ⟨ho_7, hM⟩ := hM
        refine HO.val (v := elemPtr 17 va_1 (n_1).toNat) (want_none) rfl (q_idx ts_22 hL_1.is rfl rfl ho_7) ?_
        refine HO.val (v := .agg (e_api_Addr (gi a_1 n_1)).toArray) (want_none) rfl (q_ldElemAgg (cs := (e_api_Addr (gi a_1 n_1))) ta_27 hL_1.is rfl ho_7 rfl) ?_
        refine HO.eff (want_none) rfl (st_alloc (c := (e_api_Addr (false, (default : Ba 16))).toArray) hS tz_27 rfl) ?_
        rintro _ h_9 ⟨b_4, rfl, hS, hk⟩
        replace hK := hK.trans hk
        replace hL_a := hL_a.kp hk
        replace hL_b := hL_b.kp hk
        replace hF_cf_order := hF_cf_order.kp hk
        replace hL_1 := hL_1.kp hk
        replace hL_2 := hL_2.kp hk
        refine HO.sto (want_none) rfl (st_storeAgg (c' := (e_api_Addr (gi a_1 n_1)).toArray) hS (i := 0) rfl ta_27 rfl rfl rfl (one_e_api_Addr _) (Nat.le_of_ble_eq_true rfl) rfl) ?_
        rintro h_10 ⟨hS, hk⟩
        replace hS : St F_6 (Ow.box b_4 27 (e_api_Addr (gi a_1 n_1)).toArray :: Ow.box b_1 22 #[vout_0_2] :: Ow.own 27 17 e_api_Addr vout_0_2 out_0_2 :: fr) h_10 := hS
        replace hK := hK.trans hk
        replace hL_a := hL_a.kp hk
        replace hL_b := hL_b.kp hk
        replace hF_cf_order := hF_cf_order.kp hk
        replace hL_1 := hL_1.kp hk
        replace hL_2 := hL_2.kp hk
        refine HO.nil (thenQ_normal (?_))
        refine HW.region ?_
        refine HO.val (v := .func (.func 77) #[] #[.pointer (some ⟨b_1, 0, none⟩)]) (want_none) rfl (q_move rfl) ?_
        refine HO.val (v := .agg (e_api_Addr (gi a_1 n_1)).toArray) (want_none) rfl (q_loadAgg (cs := (e_api_Addr (gi a_1 n_1))) ta_27 rfl rfl (Blk.cells (k := 17) (hS.box 0 rfl) rfl)) ?_
        refine HO.val (v := .bool first) (want_none) rfl (q_move rfl) ?_
        replace hS : St F_6 (Ow.box b_1 22 #[vout_0_2] :: Ow.own 27 17 e_api_Addr vout_0_2 out_0_2 :: Ow.box b_4 27 (e_api_Addr (gi a_1 n_1)).toArray :: fr) h_10 := hS.perm2 [1, 2, 0] 3 rfl rfl
        refine HO.call (want_none) rfl (ec en_77 rfl rfl) (srcs_walk_1_api_Addr_walk (fr := (Ow.box b_4 27 (e_api_Addr (gi a_1 n_1)).toArray :: fr)) (gi a_1 n_1) first out_0_2 b_1 vout_0_2 hS hM) ?_
        rintro _ h_11 ⟨F_7, a2_0_4, v_4, rfl, hk, hS, hM⟩
        replace hK := hK.trans hk
        replace hL_a := hL_a.kp hk
        replace hL_b := hL_b.kp hk
        replace hF_cf_order := hF_cf_order.kp hk
        replace hL_1 := hL_1.kp hk
        replace hL_2 := hL_2.kp hk
        refine HO.nil (blockQ_normal (thenQ_normal (?_)))
        refine HW.region ?_
        obtain ⟨ho_8, hM⟩ := hM
        refine HO.val (v := .int .i64 (n_1 + 1)) (want_none) rfl (q_addN _ rfl rfl rfl ho_8.1 ho_8.2) ?_
        refine HO.val (v := .int .i64 (n_1 + 1)) (want_none) rfl (q_move rfl) ?_
        refine HO.nil (thenQ_normal (?_))
        replace hS : St F_7 (Ow.box b_1 22 #[v_4] :: Ow.own 27 17 e_api_Addr v_4 a2_0_4 :: fr) h_11 := hS.perm2 [0, 1] 3 rfl rfl
        rw [hKe_2] at hM
        exact ⟨(a2_0_4, n_1 + 1), ⟨F_7, v_4, rfl, rfl, rfl, rfl, rfl, rfl, rfl, rfl, rfl, hK, hS, hL_a, hL_b, hF_cf_order, hL_1, hL_2, hM.1⟩, hM.2⟩
      · replace hM := hM.2 (of_decide_eq_false c_5)
        refine HW.exit (thenQ_exit (thenQ_exit (blockQ_exit (thenQ_normal (?_)))))
        refine HW.seq ?_
        refine HW.seq ?_
        refine HW.region ?_
        refine HO.val (v := vb_1) (want_none) rfl (q_move rfl) ?_
        refine HO.val (v := .int .i64 (b_2.length : Int)) (want_none) rfl (q_len ts_22 (shp hL_2.is) rfl rfl) ?_
        refine HO.val (v := .int .i64 0) (want_none) rfl (q_move rfl) ?_
        refine HO.nil (thenQ_normal (?_))
        refine HW.block ?_
        obtain ⟨I_3, m_3, hI_3, hR_3⟩ := hM
        refine HW.loop (S := List T_api_Addr × Int) (fun s f h => match s with | (out_0_3, n_2) => ∃ (F' : Fz) (vout_0_3 : Value), f 5 = .bool second ∧ f 12 = .slice none 0 0 ∧ f 13 = .pointer (some ⟨b_1, 0, none⟩) ∧ f 14 = .func (.func 77) #[] #[.pointer (some ⟨b_1, 0, none⟩)] ∧ f 80 = vb_1 ∧ f 81 = .int .i64 (b_2.length : Int) ∧ f 82 = .int .i64 n_2 ∧ Kp F h0 F' h ∧ St F' (Ow.box b_1 22 #[vout_0_3] :: Ow.own 27 17 e_api_Addr vout_0_3 out_0_3 :: fr) h ∧ (SliceF F' h 17 e_api_Addr va a) ∧ (SliceF F' h 17 e_api_Addr vb b) ∧ (FnP Tryd.prog F' h g_order fs_order cs_order (fun x : T_api_Addr × T_api_Addr => [.agg (e_api_Addr x.1).toArray, .agg (e_api_Addr x.2).toArray]) (fun x => .int .i64 (cf_order x.1 x.2))) ∧ (SliceF F' h 17 e_api_Addr va_1 a_1) ∧ (SliceF F' h 17 e_api_Addr vb_1 b_2) ∧ I_3 (out_0_3, n_2)) m_3 (out_0_2, 0) ⟨F_6, vout_0_2, rfl, rfl, rfl, rfl, rfl, rfl, rfl, hK, hS, hL_a, hL_b, hF_cf_order, hL_1, hL_2, hI_3⟩ ?_
        rintro ⟨out_0_3, n_2⟩ f_4 h_12 ⟨F_8, vout_0_3, e5, e12, e13, e14, e80, e81, e82, hK, hS, hL_a, hL_b, hF_cf_order, hL_1, hL_2, hI0⟩
        obtain ⟨K_3, hKe_3⟩ : ∃ K : (List T_api_Addr) → Int → Prop, K = fun out_0_3' n_2' => I_3 (out_0_3', n_2') ∧ m_3 (out_0_3', n_2') < m_3 (out_0_3, n_2) := ⟨_, rfl⟩
        have hM : srcs_walk_api_Addr_l3 second Q b_2 K_3 out_0_3 n_2 := by rw [hKe_3]; exact hR_3 (out_0_3, n_2) hI0
        unfold srcs_walk_api_Addr_l3 at hM
        refine HW.fr [(5, .bool second), (12, .slice none 0 0), (13, .pointer (some ⟨b_1, 0, none⟩)), (14, .func (.func 77) #[] #[.pointer (some ⟨b_1, 0, none⟩)]), (80, vb_1), (81, .int .i64 (b_2.length : Int)), (82, .int .i64 n_2)] ⟨e5, e12, e13, e14, e80, e81, e82, trivial⟩ ?_
        refine HW.seq ?_
        refine HW.region ?_
        refine HO.val (v := .bool (decide (n_2 < (b_2.length : Int)))) (want_none) rfl (q_lss rfl rfl) ?_
        refine HO.nil (thenQ_normal (?_))
        refine HW.seq ?_
        refine HW.cond (decide (n_2 < (b_2.length : Int))) rfl (fun c_6 => ?_) (fun c_6 => ?_)
        · replace hM := hM.1 (of_decide_eq_true c_6)
          refine HW.skip (thenQ_normal (?_))
          refine HW.seq ?_
          refine HW.block ?_
          refine HW.seq ?_
          refine HW.region ?_
          obtain ⟨ho_9, hM⟩ := hM
          refine HO.val (v := elemPtr 17 vb_1 (n_2).toNat) (want_none) rfl (q_idx ts_22 hL_2.is rfl rfl ho_9) ?_
          refine HO.val (v := .agg (e_api_Addr (gi b_2 n_2)).toArray) (want_none) rfl (q_ldElemAgg (cs := (e_api_Addr (gi b_2 n_2))) ta_27 hL_2.is rfl ho_9 rfl) ?_
          refine HO.eff (want_none) rfl (st_alloc (c := (e_api_Addr (false, (default : Ba 16))).toArray) hS tz_27 rfl) ?_
          rintro _ h_13 ⟨b_5, rfl, hS, hk⟩
          replace hK := hK.trans hk
          replace hL_a := hL_a.kp hk
          replace hL_b := hL_b.kp hk
          replace hF_cf_order := hF_cf_order.kp hk
          replace hL_1 := hL_1.kp hk
          replace hL_2 := hL_2.kp hk
          refine HO.sto (want_none) rfl (st_storeAgg (c' := (e_api_Addr (gi b_2 n_2)).toArray) hS (i := 0) rfl ta_27 rfl rfl rfl (one_e_api_Addr _) (Nat.le_of_ble_eq_true rfl) rfl) ?_
          rintro h_14 ⟨hS, hk⟩
          replace hS : St F_8 (Ow.box b_5 27 (e_api_Addr (gi b_2 n_2)).toArray :: Ow.box b_1 22 #[vout_0_3] :: Ow.own 27 17 e_api_Addr vout_0_3 out_0_3 :: fr) h_14 := hS
          replace hK := hK.trans hk
          replace hL_a := hL_a.kp hk
          replace hL_b := hL_b.kp hk
          replace hF_cf_order := hF_cf_order.kp hk
          replace hL_1 := hL_1.kp hk
          replace hL_2 := hL_2.kp hk
          refine HO.nil (thenQ_normal (?_))
          refine HW.region ?_
          refine HO.val (v := .func (.func 77) #[] #[.pointer (some ⟨b_1, 0, none⟩)]) (want_none) rfl (q_move rfl) ?_
          refine HO.val (v := .agg (e_api_Addr (gi b_2 n_2)).toArray) (want_none) rfl (q_loadAgg (cs := (e_api_Addr (gi b_2 n_2))) ta_27 rfl rfl (Blk.cells (k := 17) (hS.box 0 rfl) rfl)) ?_
          refine HO.val (v := .bool second) (want_none) rfl (q_move rfl) ?_
          replace hS : St F_8 (Ow.box b_1 22 #[vout_0_3] :: Ow.own 27 17 e_api_Addr vout_0_3 out_0_3 :: Ow.box b_5 27 (e_api_Addr (gi b_2 n_2)).toArray :: fr) h_14 := hS.perm2 [1, 2, 0] 3 rfl rfl
          refine HO.call (want_none) rfl (ec en_77 rfl rfl) (srcs_walk_1_api_Addr_walk (fr := (Ow.box b_5 27 (e_api_Addr (gi b_2 n_2)).toArray :: fr)) (gi b_2 n_2) second out_0_3 b_1 vout_0_3 hS hM) ?_
          rintro _ h_15 ⟨F_9, a2_0_5, v_5, rfl, hk, hS, hM⟩
          replace hK := hK.trans hk
          replace hL_a := hL_a.kp hk
          replace hL_b := hL_b.kp hk
          replace hF_cf_order := hF_cf_order.kp hk
          replace hL_1 := hL_1.kp hk
          replace hL_2 := hL_2.kp hk
          refine HO.nil (blockQ_normal (thenQ_normal (?_)))
          refine HW.region ?_
          obtain ⟨ho_10, hM⟩ := hM
          refine HO.val (v := .int .i64 (n_2 + 1)) (want_none) rfl (q_addN _ rfl rfl rfl ho_10.1 ho_10.2) ?_
          refine HO.val (v := .int .i64 (n_2 + 1)) (want_none) rfl (q_move rfl) ?_
          refine HO.nil (thenQ_normal (?_))
          replace hS : St F_9 (Ow.box b_1 22 #[v_5] :: Ow.own 27 17 e_api_Addr v_5 a2_0_5 :: fr) h_15 := hS.perm2 [0, 1] 3 rfl rfl
          rw [hKe_3] at hM
          exact ⟨(a2_0_5, n_2 + 1), ⟨F_9, v_5, rfl, rfl, rfl, rfl, rfl, rfl, rfl, hK, hS, hL_a, hL_b, hF_cf_order, hL_1, hL_2, hM.1⟩, hM.2⟩
        · replace hM := hM.2 (of_decide_eq_false c_6)
          refine HW.exit (thenQ_exit (thenQ_exit (blockQ_exit (thenQ_normal (?_)))))
          refine HW.seq ?_
          refine HW.region ?_
          refine HO.val (v := vout_0_3) (want_none) rfl (q_load to_22 rfl (Blk.cell (hS.box 0 rfl) rfl)) ?_
          refine HO.val (v := vout_0_3) (want_none) rfl (q_assign rfl) ?_
          refine HO.nil (thenQ_normal (?_))
          refine HW.ret (?_)
          refine ⟨.inr rfl, vout_0_3, res1 rfl (rt rfl), ?_⟩
          replace hS : St F_8 (Ow.own 27 17 e_api_Addr vout_0_3 out_0_3 :: fr) h_12 := hS.perm2 [1] 2 rfl rfl
          exact ⟨F_8, out_0_3, vout_0_3, rfl, hK, hS, hL_a, hL_b, hF_cf_order, hM⟩

def srcs_And_W (a : List T_api_Addr) (b : List T_api_Addr) (Q : (List T_api_Addr) → Prop) : Prop :=
  ∃ cf_1 : T_api_Addr → T_api_Addr → Int, (∀ x0 x1, addr_Cmp_W x0 x1 (fun r => r = cf_1 x0 x1)) ∧ (srcs_walk_api_Addr_W a b cf_1 false true false (fun r_2 => Q r_2))
set_option maxHeartbeats 40000000 in
set_option maxRecDepth 100000 in
theorem srcs_And_walk {F : Fz} {fr : List Ow} {h0 : Heap} (a : List T_api_Addr) (b : List T_api_Addr) (va : Value) (vb : Value) (hS : St F (fr) h0) (hL_a : SliceF F h0 17 e_api_Addr va a) (hL_b : SliceF F h0 17 e_api_Addr vb b) {Q : (List T_api_Addr) → Prop} (hM : srcs_And_W a b Q) :
    HC Tryd.prog 40 #[va, vb] h0 fun u h' => ∃ (F' : Fz) (r_1 : List T_api_Addr) (vr_1 : Value), u = vr_1 ∧ Kp F h0 F' h' ∧ St F' (Ow.own 27 17 e_api_Addr vr_1 r_1 :: fr) h' ∧ (SliceF F' h' 17 e_api_Addr va a) ∧ (SliceF F' h' 17 e_api_Addr vb b) ∧ Q r_1 := by
  unfold srcs_And_W at hM
  have hK := Kp.refl F h0
  refine HC.of_HW (n := 8) Tryd.func40 rfl rfl (Nat.le_of_ble_eq_true rfl) ?_
  refine HW.seq ?_
  refine HW.region ?_
  refine HO.val (v := .slice none 0 0) (want_none) rfl (q_assign rfl) ?_
  refine HO.nil (thenQ_normal (?_))
  refine HW.seq ?_
  refine HW.region ?_
  refine HO.val (v := va) (want_none) rfl (q_move rfl) ?_
  refine HO.val (v := vb) (want_none) rfl (q_move rfl) ?_
  obtain ⟨cf_1, hc_1, hM⟩ := hM
  have hF_1 : FnP Tryd.prog F h0 59 #[] #[] (fun x : T_api_Addr × T_api_Addr => [.agg (e_api_Addr x.1).toArray, .agg (e_api_Addr x.2).toArray]) (fun x => .int .i64 (cf_1 x.1 x.2)) := FnP.of en_59 (fun x h' hk_ => @HC.mono ⟨true⟩ _ _ _ _ _ _ (@addr_Cmp_walk ⟨true⟩ (allF h') [] h' x.1 x.2  (St.init h')  (fun r => r = cf_1 x.1 x.2) (hc_1 x.1 x.2)) (fun u h'' ⟨F', r, hu, k_, _, hr⟩ => ⟨by rw [hu, hr], F', k_⟩))
  refine HO.call (want_none) rfl (ec en_64 rfl rfl) (srcs_walk_api_Addr_walk (fr := (fr)) a b cf_1 false true false va vb 59 (#[]) (#[]) hS hL_a hL_b hF_1 hM) ?_
  rintro vr_2 h_1 ⟨F_1, r_2, _, rfl, hk, hS, _, _, _, hM⟩
  replace hK := hK.trans hk
  replace hL_a := hL_a.kp hk
  replace hL_b := hL_b.kp hk
  replace hF_1 := hF_1.kp hk
  refine HO.val (v := vr_2) (want_none) rfl (q_assign rfl) ?_
  refine HO.nil (thenQ_normal (?_))
  refine HW.ret (?_)
  refine ⟨.inr rfl, vr_2, res1 rfl (rt rfl), ?_⟩
  exact ⟨F_1, r_2, vr_2, rfl, hK, hS, hL_a, hL_b, hM⟩

def srcs_minus_W (a : List T_api_Addr) (b : List T_api_Addr) (Q : (List T_api_Addr) → Prop) : Prop :=
  ∃ cf_1 : T_api_Addr → T_api_Addr → Int, (∀ x0 x1, addr_Cmp_W x0 x1 (fun r => r = cf_1 x0 x1)) ∧ (srcs_walk_api_Addr_W a b cf_1 true false false (fun r_2 => Q r_2))
set_option maxHeartbeats 40000000 in
set_option maxRecDepth 100000 in
theorem srcs_minus_walk {F : Fz} {fr : List Ow} {h0 : Heap} (a : List T_api_Addr) (b : List T_api_Addr) (va : Value) (vb : Value) (hS : St F (fr) h0) (hL_a : SliceF F h0 17 e_api_Addr va a) (hL_b : SliceF F h0 17 e_api_Addr vb b) {Q : (List T_api_Addr) → Prop} (hM : srcs_minus_W a b Q) :
    HC Tryd.prog 65 #[va, vb] h0 fun u h' => ∃ (F' : Fz) (r_1 : List T_api_Addr) (vr_1 : Value), u = vr_1 ∧ Kp F h0 F' h' ∧ St F' (Ow.own 27 17 e_api_Addr vr_1 r_1 :: fr) h' ∧ (SliceF F' h' 17 e_api_Addr va a) ∧ (SliceF F' h' 17 e_api_Addr vb b) ∧ Q r_1 := by
  unfold srcs_minus_W at hM
  have hK := Kp.refl F h0
  refine HC.of_HW (n := 8) Tryd.func65 rfl rfl (Nat.le_of_ble_eq_true rfl) ?_
  refine HW.seq ?_
  refine HW.region ?_
  refine HO.val (v := .slice none 0 0) (want_none) rfl (q_assign rfl) ?_
  refine HO.nil (thenQ_normal (?_))
  refine HW.seq ?_
  refine HW.region ?_
  refine HO.val (v := va) (want_none) rfl (q_move rfl) ?_
  refine HO.val (v := vb) (want_none) rfl (q_move rfl) ?_
  obtain ⟨cf_1, hc_1, hM⟩ := hM
  have hF_1 : FnP Tryd.prog F h0 59 #[] #[] (fun x : T_api_Addr × T_api_Addr => [.agg (e_api_Addr x.1).toArray, .agg (e_api_Addr x.2).toArray]) (fun x => .int .i64 (cf_1 x.1 x.2)) := FnP.of en_59 (fun x h' hk_ => @HC.mono ⟨true⟩ _ _ _ _ _ _ (@addr_Cmp_walk ⟨true⟩ (allF h') [] h' x.1 x.2  (St.init h')  (fun r => r = cf_1 x.1 x.2) (hc_1 x.1 x.2)) (fun u h'' ⟨F', r, hu, k_, _, hr⟩ => ⟨by rw [hu, hr], F', k_⟩))
  refine HO.call (want_none) rfl (ec en_64 rfl rfl) (srcs_walk_api_Addr_walk (fr := (fr)) a b cf_1 true false false va vb 59 (#[]) (#[]) hS hL_a hL_b hF_1 hM) ?_
  rintro vr_2 h_1 ⟨F_1, r_2, _, rfl, hk, hS, _, _, _, hM⟩
  replace hK := hK.trans hk
  replace hL_a := hL_a.kp hk
  replace hL_b := hL_b.kp hk
  replace hF_1 := hF_1.kp hk
  refine HO.val (v := vr_2) (want_none) rfl (q_assign rfl) ?_
  refine HO.nil (thenQ_normal (?_))
  refine HW.ret (?_)
  refine ⟨.inr rfl, vr_2, res1 rfl (rt rfl), ?_⟩
  exact ⟨F_1, r_2, vr_2, rfl, hK, hS, hL_a, hL_b, hM⟩

def srcs_Minus_W (a : List T_api_Addr) (b : List T_api_Addr) (Q : (List T_api_Addr) → Prop) : Prop :=
  srcs_minus_W a b (fun r_2 => Q r_2)
set_option maxHeartbeats 40000000 in
set_option maxRecDepth 100000 in
theorem srcs_Minus_walk {F : Fz} {fr : List Ow} {h0 : Heap} (a : List T_api_Addr) (b : List T_api_Addr) (va : Value) (vb : Value) (hS : St F (fr) h0) (hL_a : SliceF F h0 17 e_api_Addr va a) (hL_b : SliceF F h0 17 e_api_Addr vb b) {Q : (List T_api_Addr) → Prop} (hM : srcs_Minus_W a b Q) :
    HC Tryd.prog 41 #[va, vb] h0 fun u h' => ∃ (F' : Fz) (r_1 : List T_api_Addr) (vr_1 : Value), u = vr_1 ∧ Kp F h0 F' h' ∧ St F' (Ow.own 27 17 e_api_Addr vr_1 r_1 :: fr) h' ∧ (SliceF F' h' 17 e_api_Addr va a) ∧ (SliceF F' h' 17 e_api_Addr vb b) ∧ Q r_1 := by
  unfold srcs_Minus_W at hM
  have hK := Kp.refl F h0
  refine HC.of_HW (n := 8) Tryd.func41 rfl rfl (Nat.le_of_ble_eq_true rfl) ?_
  refine HW.seq ?_
  refine HW.region ?_
  refine HO.val (v := .slice none 0 0) (want_none) rfl (q_assign rfl) ?_
  refine HO.nil (thenQ_normal (?_))
  refine HW.seq ?_
  refine HW.region ?_
  refine HO.val (v := va) (want_none) rfl (q_move rfl) ?_
  refine HO.val (v := vb) (want_none) rfl (q_move rfl) ?_
  refine HO.call (want_none) rfl (ec en_65 rfl rfl) (srcs_minus_walk (fr := (fr)) a b va vb hS hL_a hL_b hM) ?_
  rintro vr_2 h_1 ⟨F_1, r_2, _, rfl, hk, hS, _, _, hM⟩
  replace hK := hK.trans hk
  replace hL_a := hL_a.kp hk
  replace hL_b := hL_b.kp hk
  refine HO.val (v := vr_2) (want_none) rfl (q_assign rfl) ?_
  refine HO.nil (thenQ_normal (?_))
  refine HW.ret (?_)
  refine ⟨.inr rfl, vr_2, res1 rfl (rt rfl), ?_⟩
  exact ⟨F_1, r_2, vr_2, rfl, hK, hS, hL_a, hL_b, hM⟩

def srcs_Or_W (a : List T_api_Addr) (b : List T_api_Addr) (Q : (List T_api_Addr) → Prop) : Prop :=
  ∃ cf_1 : T_api_Addr → T_api_Addr → Int, (∀ x0 x1, addr_Cmp_W x0 x1 (fun r => r = cf_1 x0 x1)) ∧ (srcs_walk_api_Addr_W a b cf_1 true true true (fun r_2 => Q r_2))
set_option maxHeartbeats 40000000 in
set_option maxRecDepth 100000 in
theorem srcs_Or_walk {F : Fz} {fr : List Ow} {h0 : Heap} (a : List T_api_Addr) (b : List T_api_Addr) (va : Value) (vb : Value) (hS : St F (fr) h0) (hL_a : SliceF F h0 17 e_api_Addr va a) (hL_b : SliceF F h0 17 e_api_Addr vb b) {Q : (List T_api_Addr) → Prop} (hM : srcs_Or_W a b Q) :
    HC Tryd.prog 42 #[va, vb] h0 fun u h' => ∃ (F' : Fz) (r_1 : List T_api_Addr) (vr_1 : Value), u = vr_1 ∧ Kp F h0 F' h' ∧ St F' (Ow.own 27 17 e_api_Addr vr_1 r_1 :: fr) h' ∧ (SliceF F' h' 17 e_api_Addr va a) ∧ (SliceF F' h' 17 e_api_Addr vb b) ∧ Q r_1 := by
  unfold srcs_Or_W at hM
  have hK := Kp.refl F h0
  refine HC.of_HW (n := 8) Tryd.func42 rfl rfl (Nat.le_of_ble_eq_true rfl) ?_
  refine HW.seq ?_
  refine HW.region ?_
  refine HO.val (v := .slice none 0 0) (want_none) rfl (q_assign rfl) ?_
  refine HO.nil (thenQ_normal (?_))
  refine HW.seq ?_
  refine HW.region ?_
  refine HO.val (v := va) (want_none) rfl (q_move rfl) ?_
  refine HO.val (v := vb) (want_none) rfl (q_move rfl) ?_
  obtain ⟨cf_1, hc_1, hM⟩ := hM
  have hF_1 : FnP Tryd.prog F h0 59 #[] #[] (fun x : T_api_Addr × T_api_Addr => [.agg (e_api_Addr x.1).toArray, .agg (e_api_Addr x.2).toArray]) (fun x => .int .i64 (cf_1 x.1 x.2)) := FnP.of en_59 (fun x h' hk_ => @HC.mono ⟨true⟩ _ _ _ _ _ _ (@addr_Cmp_walk ⟨true⟩ (allF h') [] h' x.1 x.2  (St.init h')  (fun r => r = cf_1 x.1 x.2) (hc_1 x.1 x.2)) (fun u h'' ⟨F', r, hu, k_, _, hr⟩ => ⟨by rw [hu, hr], F', k_⟩))
  refine HO.call (want_none) rfl (ec en_64 rfl rfl) (srcs_walk_api_Addr_walk (fr := (fr)) a b cf_1 true true true va vb 59 (#[]) (#[]) hS hL_a hL_b hF_1 hM) ?_
  rintro vr_2 h_1 ⟨F_1, r_2, _, rfl, hk, hS, _, _, _, hM⟩
  replace hK := hK.trans hk
  replace hL_a := hL_a.kp hk
  replace hL_b := hL_b.kp hk
  replace hF_1 := hF_1.kp hk
  refine HO.val (v := vr_2) (want_none) rfl (q_assign rfl) ?_
  refine HO.nil (thenQ_normal (?_))
  refine HW.ret (?_)
  refine ⟨.inr rfl, vr_2, res1 rfl (rt rfl), ?_⟩
  exact ⟨F_1, r_2, vr_2, rfl, hK, hS, hL_a, hL_b, hM⟩

def ref11_Pick_l1 (a : List T_api_Addr) (b : List T_api_Addr) (in1 : Bool) (Q : (List T_api_Addr) → Prop) (K_1 : (List T_api_Addr) → Int → Prop) (out_1 : List T_api_Addr) (i_1 : Int) : Prop :=
  (i_1 < (a.length : Int) → ((0 : Int) ≤ i_1 ∧ i_1 < (a.length : Int)) ∧ (ref11_Has_W b (gi a i_1) (fun r_2 => ((r_2 == in1) = true → ((out_1.length + ([(gi a i_1)] : List T_api_Addr).length) * 17 ≤ 140737488355328) ∧ ((I64 (i_1 + 1)) ∧ (K_1 (out_1 ++ ([(gi a i_1)] : List T_api_Addr)) (i_1 + 1)))) ∧ ((r_2 == in1) = false → (I64 (i_1 + 1)) ∧ (K_1 out_1 (i_1 + 1)))))) ∧ (¬ (i_1 < (a.length : Int)) → Q out_1)
def ref11_Pick_W (a : List T_api_Addr) (b : List T_api_Addr) (in1 : Bool) (Q : (List T_api_Addr) → Prop) : Prop :=
  loopW (fun (K_1 : (List T_api_Addr × Int) → Prop) (s : List T_api_Addr × Int) => ref11_Pick_l1 a b in1 Q (fun out_1 i_1 => K_1 (out_1, i_1)) s.1 s.2) ([], 0)
set_option maxHeartbeats 40000000 in
set_option maxRecDepth 100000 in
theorem ref11_Pick_walk {F : Fz} {fr : List Ow} {h0 : Heap} (a : List T_api_Addr) (b : List T_api_Addr) (in1 : Bool) (va : Value) (vb : Value) (hS : St F (fr) h0) (hL_a : SliceF F h0 17 e_api_Addr va a) (hL_b : SliceF F h0 17 e_api_Addr vb b) {Q : (List T_api_Addr) → Prop} (hM : ref11_Pick_W a b in1 Q) :
    HC Tryd.prog 43 #[va, vb, .bool in1] h0 fun u h' => ∃ (F' : Fz) (r_1 : List T_api_Addr) (vr_1 : Value), u = vr_1 ∧ Kp F h0 F' h' ∧ St F' (Ow.own 27 17 e_api_Addr vr_1 r_1 :: fr) h' ∧ (SliceF F' h' 17 e_api_Addr va a) ∧ (SliceF F' h' 17 e_api_Addr vb b) ∧ Q r_1 := by
  unfold ref11_Pick_W at hM
  have hK := Kp.refl F h0
  refine HC.of_HW (n := 32) Tryd.func43 rfl rfl (Nat.le_of_ble_eq_true rfl) ?_
  refine HW.seq ?_
  refine HW.region ?_
  refine HO.val (v := .slice none 0 0) (want_none) rfl (q_assign rfl) ?_
  refine HO.nil (thenQ_normal (?_))
  refine HW.seq ?_
  refine HW.region ?_
  refine HO.eff (want_none) rfl (st_litEmpty (α := T_api_Addr) e_api_Addr hS tl_22) ?_
  rintro _ h_1 ⟨b_1, rfl, hS, hk⟩
  replace hK := hK.trans hk
  replace hL_a := hL_a.kp hk
  replace hL_b := hL_b.kp hk
  refine HO.val (v := .slice (some ⟨b_1, 0, none⟩) 0 0) (want_none) rfl (q_assign rfl) ?_
  refine HO.nil (thenQ_normal (?_))
  refine HW.seq ?_
  refine HW.seq ?_
  refine HW.region ?_
  refine HO.val (v := .int .i64 0) (want_none) rfl (q_assign rfl) ?_
  refine HO.nil (thenQ_normal (?_))
  refine HW.block ?_
  obtain ⟨I_1, m_1, hI_1, hR_1⟩ := hM
  refine HW.loop (S := List T_api_Addr × Int) (fun s f h => match s with | (out_1, i_1) => ∃ (F' : Fz) (vout_1 : Value), f 0 = va ∧ f 1 = vb ∧ f 2 = .bool in1 ∧ f 6 = .slice none 0 0 ∧ f 7 = vout_1 ∧ f 8 = .int .i64 i_1 ∧ Kp F h0 F' h ∧ St F' (Ow.own 27 17 e_api_Addr vout_1 out_1 :: fr) h ∧ (SliceF F' h 17 e_api_Addr va a) ∧ (SliceF F' h 17 e_api_Addr vb b) ∧ I_1 (out_1, i_1)) m_1 ([], 0) ⟨F, .slice (some ⟨b_1, 0, none⟩) 0 0, rfl, rfl, rfl, rfl, rfl, rfl, hK, hS, hL_a, hL_b, hI_1⟩ ?_
  rintro ⟨out_1, i_1⟩ f_1 h_2 ⟨F_1, vout_1, e0, e1, e2, e6, e7, e8, hK, hS, hL_a, hL_b, hI0⟩
  obtain ⟨K_1, hKe_1⟩ : ∃ K : (List T_api_Addr) → Int → Prop, K = fun out_1' i_1' => I_1 (out_1', i_1') ∧ m_1 (out_1', i_1') < m_1 (out_1, i_1) := ⟨_, rfl⟩
  have hM : ref11_Pick_l1 a b in1 Q K_1 out_1 i_1 := by rw [hKe_1]; exact hR_1 (out_1, i_1) hI0
  unfold ref11_Pick_l1 at hM
  refine HW.fr [(0, va), (1, vb), (2, .bool in1), (6, .slice none 0 0), (7, vout_1), (8, .int .i64 i_1)] ⟨e0, e1, e2, e6, e7, e8, trivial⟩ ?_
  refine HW.seq ?_
  refine HW.seq ?_
  refine HW.region ?_
  refine HO.val (v := .int .i64 i_1) (want_none) rfl (q_move rfl) ?_
  refine HO.val (v := va) (want_none) rfl (q_move rfl) ?_
  refine HO.val (v := .int .i64 (a.length : Int)) (want_none) rfl (q_len ts_22 (shp hL_a.is) rfl rfl) ?_
  refine HO.val (v := .bool (decide (i_1 < (a.length : Int)))) (want_none) rfl (q_lss rfl rfl) ?_
  refine HO.nil (thenQ_normal (?_))
  refine HW.cond (decide (i_1 < (a.length : Int))) rfl (fun c_1 => ?_) (fun c_1 => ?_)
  · replace hM := hM.1 (of_decide_eq_true c_1)
    refine HW.skip (thenQ_normal (?_))
    refine HW.seq ?_
    refine HW.block ?_
    refine HW.seq ?_
    refine HW.region ?_
    refine HO.val (v := vb) (want_none) rfl (q_move rfl) ?_
    refine HO.val (v := va) (want_none) rfl (q_move rfl) ?_
    refine HO.val (v := .int .i64 i_1) (want_none) rfl (q_move rfl) ?_
    obtain ⟨ho_1, hM⟩ := hM
    refine HO.val (v := elemPtr 17 va (i_1).toNat) (want_none) rfl (q_idx ts_22 hL_a.is rfl rfl ho_1) ?_
    refine HO.val (v := .agg (e_api_Addr (gi a i_1)).toArray) (want_none) rfl (q_ldElemAgg (cs := (e_api_Addr (gi a i_1))) ta_27 hL_a.is rfl ho_1 rfl) ?_
    refine HO.call (want_none) rfl (ec en_38 rfl rfl) (ref11_Has_walk (fr := (Ow.own 27 17 e_api_Addr vout_1 out_1 :: fr)) b (gi a i_1) vb hS hL_b hM) ?_
    rintro _ h_3 ⟨F_2, r_2, rfl, hk, hS, _, hM⟩
    replace hK := hK.trans hk
    replace hL_a := hL_a.kp hk
    replace hL_b := hL_b.kp hk
    refine HO.val (v := .bool in1) (want_none) rfl (q_move rfl) ?_
    refine HO.val (v := .bool (r_2 == in1)) (want_none) rfl (q_eqlB Tryd.underlying4 rfl rfl) ?_
    refine HO.nil (thenQ_normal (?_))
    refine HW.cond (r_2 == in1) rfl (fun c_2 => ?_) (fun c_2 => ?_)
    · replace hM := hM.1 c_2
      refine HW.region ?_
      refine HO.val (v := vout_1) (want_none) rfl (q_move rfl) ?_
      refine HO.val (v := va) (want_none) rfl (q_move rfl) ?_
      refine HO.val (v := .int .i64 i_1) (want_none) rfl (q_move rfl) ?_
      refine HO.val (v := elemPtr 17 va (i_1).toNat) (want_none) rfl (q_idx ts_22 hL_a.is rfl rfl ho_1) ?_
      refine HO.val (v := .agg (e_api_Addr (gi a i_1)).toArray) (want_none) rfl (q_ldElemAgg (cs := (e_api_Addr (gi a i_1))) ta_27 hL_a.is rfl ho_1 rfl) ?_
      refine HO.eff (want_none) rfl (st_lit (enc := e_api_Addr) (cells := #[.bool ((gi a i_1).1), .int .u8 (b8 ((gi a i_1).2) 0), .int .u8 (b8 ((gi a i_1).2) 1), .int .u8 (b8 ((gi a i_1).2) 2), .int .u8 (b8 ((gi a i_1).2) 3), .int .u8 (b8 ((gi a i_1).2) 4), .int .u8 (b8 ((gi a i_1).2) 5), .int .u8 (b8 ((gi a i_1).2) 6), .int .u8 (b8 ((gi a i_1).2) 7), .int .u8 (b8 ((gi a i_1).2) 8), .int .u8 (b8 ((gi a i_1).2) 9), .int .u8 (b8 ((gi a i_1).2) 10), .int .u8 (b8 ((gi a i_1).2) 11), .int .u8 (b8 ((gi a i_1).2) 12), .int .u8 (b8 ((gi a i_1).2) 13), .int .u8 (b8 ((gi a i_1).2) 14), .int .u8 (b8 ((gi a i_1).2) 15)]) #[.bool false, .int .u8 0, .int .u8 0, .int .u8 0, .int .u8 0, .int .u8 0, .int .u8 0, .int .u8 0, .int .u8 0, .int .u8 0, .int .u8 0, .int .u8 0, .int .u8 0, .int .u8 0, .int .u8 0, .int .u8 0, .int .u8 0] ([(gi a i_1)] : List T_api_Addr) hS tl_22 (by decide) (by decide) (by kernel_rfl) (by kernel_rfl) rfl (by intro x hx; rfl) rfl) ?_
      rintro _ h_4 ⟨b_2, rfl, hS, hk⟩
      replace hK := hK.trans hk
      replace hL_a := hL_a.kp hk
      replace hL_b := hL_b.kp hk
      obtain ⟨ho_2, hM⟩ := hM
      refine HO.eff (want_none) rfl (st_append te_22 hS (i := 1) rfl (hS.own 0 rfl).slice rfl rfl rfl (by intro a _ u hu; simp [e_api_Addr, encI, encN, encB, encT] at hu; rcases hu with rfl | rfl | rfl | rfl | rfl | rfl | rfl | rfl | rfl | rfl | rfl | rfl | rfl | rfl | rfl | rfl | rfl <;> rfl) ho_2 (by omega)) ?_
      rintro v_1 h_5 ⟨hS, hk⟩
      replace hS : St F_2 (Ow.own 27 17 e_api_Addr (.slice (some ⟨b_2, 0, none⟩) 1 1) ([(gi a i_1)] : List T_api_Addr) :: Ow.own 27 17 e_api_Addr v_1 (out_1 ++ ([(gi a i_1)] : List T_api_Addr)) :: fr) h_5 := hS
      replace hK := hK.trans hk
      replace hL_a := hL_a.kp hk
      replace hL_b := hL_b.kp hk
      refine HO.val (v := v_1) (want_none) rfl (q_assign rfl) ?_
      refine HO.nil (blockQ_normal (thenQ_normal (?_)))
      refine HW.region ?_
      refine HO.val (v := .int .i64 i_1) (want_none) rfl (q_move rfl) ?_
      obtain ⟨ho_3, hM⟩ := hM
      refine HO.val (v := .int .i64 (i_1 + 1)) (want_none) rfl (q_addN _ rfl rfl rfl ho_3.1 ho_3.2) ?_
      refine HO.val (v := .int .i64 (i_1 + 1)) (want_none) rfl (q_assign rfl) ?_
      refine HO.nil (thenQ_normal (?_))
      replace hS : St F_2 (Ow.own 27 17 e_api_Addr v_1 (out_1 ++ ([(gi a i_1)] : List T_api_Addr)) :: fr) h_5 := hS.perm2 [1] 2 rfl rfl
      rw [hKe_1] at hM
      exact ⟨(out_1 ++ ([(gi a i_1)] : List T_api_Addr), i_1 + 1), ⟨F_2, v_1, rfl, rfl, rfl, rfl, rfl, rfl, hK, hS, hL_a, hL_b, hM.1⟩, hM.2⟩
    · replace hM := hM.2 c_2
      refine HW.skip (blockQ_normal (thenQ_normal (?_)))
      refine HW.region ?_
      refine HO.val (v := .int .i64 i_1) (want_none) rfl (q_move rfl) ?_
      obtain ⟨ho_4, hM⟩ := hM
      refine HO.val (v := .int .i64 (i_1 + 1)) (want_none) rfl (q_addN _ rfl rfl rfl ho_4.1 ho_4.2) ?_
      refine HO.val (v := .int .i64 (i_1 + 1)) (want_none) rfl (q_assign rfl) ?_
      refine HO.nil (thenQ_normal (?_))
      rw [hKe_1] at hM
      exact ⟨(out_1, i_1 + 1), ⟨F_2, vout_1, rfl, rfl, rfl, rfl, rfl, rfl, hK, hS, hL_a, hL_b, hM.1⟩, hM.2⟩
  · replace hM := hM.2 (of_decide_eq_false c_1)
    refine HW.exit (thenQ_exit (thenQ_exit (blockQ_exit (thenQ_normal (?_)))))
    refine HW.seq ?_
    refine HW.region ?_
    refine HO.val (v := vout_1) (want_none) rfl (q_move rfl) ?_
    refine HO.val (v := vout_1) (want_none) rfl (q_assign rfl) ?_
    refine HO.nil (thenQ_normal (?_))
    refine HW.ret (?_)
    refine ⟨.inr rfl, vout_1, res1 rfl (rt rfl), ?_⟩
    exact ⟨F_1, out_1, vout_1, rfl, hK, hS, hL_a, hL_b, hM⟩

def ref11_Or_W (a : List T_api_Addr) (b : List T_api_Addr) (Q : (List T_api_Addr) → Prop) : Prop :=
  ((([] : List T_api_Addr).length + a.length) * 17 ≤ 140737488355328) ∧ ((((([] : List T_api_Addr) ++ a).length + b.length) * 17 ≤ 140737488355328) ∧ (ref11_Of_W ((([] : List T_api_Addr) ++ a) ++ b) (fun r_2 => Q r_2)))
set_option maxHeartbeats 40000000 in
set_option maxRecDepth 100000 in
theorem ref11_Or_walk {F : Fz} {fr : List Ow} {h0 : Heap} (a : List T_api_Addr) (b : List T_api_Addr) (va : Value) (vb : Value) (hS : St F (fr) h0) (hL_a : SliceF F h0 17 e_api_Addr va a) (hL_b : SliceF F h0 17 e_api_Addr vb b) {Q : (List T_api_Addr) → Prop} (hM : ref11_Or_W a b Q) :
    HC Tryd.prog 44 #[va, vb] h0 fun u h' => ∃ (F' : Fz) (r_1 : List T_api_Addr) (vr_1 : Value), u = vr_1 ∧ Kp F h0 F' h' ∧ St F' (fr) h' ∧ (SliceF F' h' 17 e_api_Addr va a) ∧ (SliceF F' h' 17 e_api_Addr vb b) ∧ (SliceF F' h' 17 e_api_Addr vr_1 r_1) ∧ Q r_1 := by
  unfold ref11_Or_W at hM
  have hK := Kp.refl F h0
  refine HC.of_HW (n := 11) Tryd.func44 rfl rfl (Nat.le_of_ble_eq_true rfl) ?_
  refine HW.seq ?_
  refine HW.region ?_
  refine HO.val (v := .slice none 0 0) (want_none) rfl (q_assign rfl) ?_
  refine HO.nil (thenQ_normal (?_))
  refine HW.seq ?_
  refine HW.region ?_
  refine HO.eff (want_none) rfl (st_litEmpty (α := T_api_Addr) e_api_Addr hS tl_22) ?_
  rintro _ h_1 ⟨b_1, rfl, hS, hk⟩
  replace hK := hK.trans hk
  replace hL_a := hL_a.kp hk
  replace hL_b := hL_b.kp hk
  refine HO.val (v := va) (want_none) rfl (q_move rfl) ?_
  obtain ⟨ho_1, hM⟩ := hM
  refine HO.eff (want_none) rfl (st_append te_22 hS (i := 0) rfl hL_a.is rfl rfl rfl (by intro a _ u hu; simp [e_api_Addr, encI, encN, encB, encT] at hu; rcases hu with rfl | rfl | rfl | rfl | rfl | rfl | rfl | rfl | rfl | rfl | rfl | rfl | rfl | rfl | rfl | rfl | rfl <;> rfl) ho_1 (by omega)) ?_
  rintro v_1 h_2 ⟨hS, hk⟩
  replace hS : St F (Ow.own 27 17 e_api_Addr v_1 (([] : List T_api_Addr) ++ a) :: fr) h_2 := hS
  replace hK := hK.trans hk
  replace hL_a := hL_a.kp hk
  replace hL_b := hL_b.kp hk
  refine HO.val (v := vb) (want_none) rfl (q_move rfl) ?_
  obtain ⟨ho_2, hM⟩ := hM
  refine HO.eff (want_none) rfl (st_append te_22 hS (i := 0) rfl hL_b.is rfl rfl rfl (by intro a _ u hu; simp [e_api_Addr, encI, encN, encB, encT] at hu; rcases hu with rfl | rfl | rfl | rfl | rfl | rfl | rfl | rfl | rfl | rfl | rfl | rfl | rfl | rfl | rfl | rfl | rfl <;> rfl) ho_2 (by omega)) ?_
  rintro v_2 h_3 ⟨hS, hk⟩
  replace hS : St F (Ow.own 27 17 e_api_Addr v_2 ((([] : List T_api_Addr) ++ a) ++ b) :: fr) h_3 := hS
  replace hK := hK.trans hk
  replace hL_a := hL_a.kp hk
  replace hL_b := hL_b.kp hk
  obtain ⟨F_1, hS, hk, hL_2⟩ := hS.freezeOwn
  replace hK := hK.trans hk
  replace hL_a := hL_a.kp hk
  replace hL_b := hL_b.kp hk
  refine HO.call (want_none) rfl (ec en_28 rfl rfl) (ref11_Of_walk (fr := (fr)) ((([] : List T_api_Addr) ++ a) ++ b) v_2 hS hL_2 hM) ?_
  rintro vr_2 h_4 ⟨F_2, r_2, _, rfl, hk, hS, _, hL_3, hM⟩
  replace hK := hK.trans hk
  replace hL_a := hL_a.kp hk
  replace hL_b := hL_b.kp hk
  replace hL_2 := hL_2.kp hk
  refine HO.val (v := vr_2) (want_none) rfl (q_assign rfl) ?_
  refine HO.nil (thenQ_normal (?_))
  refine HW.ret (?_)
  refine ⟨.inr rfl, vr_2, res1 rfl (rt rfl), ?_⟩
  exact ⟨F_2, r_2, vr_2, rfl, hK, hS, hL_a, hL_b, hL_3, hM⟩

def slices_Equal_s_api_Addr_api_Addr_l1 (s1 : List T_api_Addr) (s2 : List T_api_Addr) (Q : Bool → Prop) (K_1 : Int → Prop) (n_1 : Int) : Prop :=
  (n_1 < (s1.length : Int) → ((0 : Int) ≤ n_1 ∧ n_1 < (s1.length : Int)) ∧ (((0 : Int) ≤ n_1 ∧ n_1 < (s2.length : Int)) ∧ ((¬ (((gi s1 n_1) : T_api_Addr) = (gi s2 n_1)) → Q false) ∧ (((gi s1 n_1) : T_api_Addr) = (gi s2 n_1) → (I64 (n_1 + 1)) ∧ (K_1 (n_1 + 1)))))) ∧ (¬ (n_1 < (s1.length : Int)) → Q true)
def slices_Equal_s_api_Addr_api_Addr_W (s1 : List T_api_Addr) (s2 : List T_api_Addr) (Q : Bool → Prop) : Prop :=
  (¬ ((s1.length : Int) = (s2.length : Int)) → Q false) ∧ ((s1.length : Int) = (s2.length : Int) → loopW (fun (K_1 : Int → Prop) (s : Int) => slices_Equal_s_api_Addr_api_Addr_l1 s1 s2 Q K_1 s) 0)
set_option maxHeartbeats 40000000 in
set_option maxRecDepth 100000 in
theorem slices_Equal_s_api_Addr_api_Addr_walk {F : Fz} {fr : List Ow} {h0 : Heap} (s1 : List T_api_Addr) (s2 : List T_api_Addr) (vs1 : Value) (vs2 : Value) (hS : St F (fr) h0) (hL_s1 : SliceF F h0 17 e_api_Addr vs1 s1) (hL_s2 : SliceF F h0 17 e_api_Addr vs2 s2) {Q : Bool → Prop} (hM : slices_Equal_s_api_Addr_api_Addr_W s1 s2 Q) :
    HC Tryd.prog 66 #[vs1, vs2] h0 fun u h' => ∃ (F' : Fz) (r_1 : Bool), u = .bool r_1 ∧ Kp F h0 F' h' ∧ St F' (fr) h' ∧ (SliceF F' h' 17 e_api_Addr vs1 s1) ∧ (SliceF F' h' 17 e_api_Addr vs2 s2) ∧ Q r_1 := by
  unfold slices_Equal_s_api_Addr_api_Addr_W at hM
  have hK := Kp.refl F h0
  refine HC.of_HW (n := 26) Tryd.func66 rfl rfl (Nat.le_of_ble_eq_true rfl) ?_
  refine HW.seq ?_
  refine HW.region ?_
  refine HO.val (v := .bool false) (want_none) rfl (q_assign rfl) ?_
  refine HO.nil (thenQ_normal (?_))
  refine HW.seq ?_
  refine HW.seq ?_
  refine HW.region ?_
  refine HO.val (v := vs1) (want_none) rfl (q_move rfl) ?_
  refine HO.val (v := .int .i64 (s1.length : Int)) (want_none) rfl (q_len ts_22 (shp hL_s1.is) rfl rfl) ?_
  refine HO.val (v := vs2) (want_none) rfl (q_move rfl) ?_
  refine HO.val (v := .int .i64 (s2.length : Int)) (want_none) rfl (q_len ts_22 (shp hL_s2.is) rfl rfl) ?_
  refine HO.val (v := .bool (!decide ((s1.length : Int) = (s2.length : Int)))) (want_none) rfl (q_neq rfl rfl) ?_
  refine HO.nil (thenQ_normal (?_))
  refine HW.cond (!decide ((s1.length : Int) = (s2.length : Int))) rfl (fun c_1 => ?_) (fun c_1 => ?_)
  · replace hM := hM.1 (nd_true c_1)
    refine HW.seq ?_
    refine HW.region ?_
    refine HO.val (v := .bool false) (want_none) rfl (q_assign rfl) ?_
    refine HO.nil (thenQ_normal (?_))
    refine HW.ret (thenQ_ret (?_))
    refine ⟨.inr rfl, .bool false, res1 rfl (rt rfl), ?_⟩
    exact ⟨F, false, rfl, hK, hS, hL_s1, hL_s2, hM⟩
  · replace hM := hM.2 (nd_false c_1)
    refine HW.skip (thenQ_normal (?_))
    refine HW.seq ?_
    refine HW.seq ?_
    refine HW.region ?_
    refine HO.val (v := vs1) (want_none) rfl (q_move rfl) ?_
    refine HO.val (v := .int .i64 (s1.length : Int)) (want_none) rfl (q_len ts_22 (shp hL_s1.is) rfl rfl) ?_
    refine HO.val (v := .int .i64 0) (want_none) rfl (q_move rfl) ?_
    refine HO.nil (thenQ_normal (?_))
    refine HW.block ?_
    obtain ⟨I_1, m_1, hI_1, hR_1⟩ := hM
    refine HW.loop (S := Int) (fun n_1 f h => ∃ (F' : Fz), f 0 = vs1 ∧ f 1 = vs2 ∧ f 4 = .bool false ∧ f 12 = .int .i64 (s1.length : Int) ∧ f 13 = .int .i64 n_1 ∧ Kp F h0 F' h ∧ St F' (fr) h ∧ (SliceF F' h 17 e_api_Addr vs1 s1) ∧ (SliceF F' h 17 e_api_Addr vs2 s2) ∧ I_1 n_1) m_1 0 ⟨F, rfl, rfl, rfl, rfl, rfl, hK, hS, hL_s1, hL_s2, hI_1⟩ ?_
    rintro n_1 f_1 h_1 ⟨F_1, e0, e1, e4, e12, e13, hK, hS, hL_s1, hL_s2, hI0⟩
    obtain ⟨K_1, hKe_1⟩ : ∃ K : Int → Prop, K = fun n_1' => I_1 n_1' ∧ m_1 n_1' < m_1 n_1 := ⟨_, rfl⟩
    have hM : slices_Equal_s_api_Addr_api_Addr_l1 s1 s2 Q K_1 n_1 := by rw [hKe_1]; exact hR_1 n_1 hI0
    unfold slices_Equal_s_api_Addr_api_Addr_l1 at hM
    refine HW.fr [(0, vs1), (1, vs2), (4, .bool false), (12, .int .i64 (s1.length : Int)), (13, .int .i64 n_1)] ⟨e0, e1, e4, e12, e13, trivial⟩ ?_
    refine HW.seq ?_
    refine HW.region ?_
    refine HO.val (v := .bool (decide (n_1 < (s1.length : Int)))) (want_none) rfl (q_lss rfl rfl) ?_
    refine HO.nil (thenQ_normal (?_))
    refine HW.seq ?_
    refine HW.cond (decide (n_1 < (s1.length : Int))) rfl (fun c_2 => ?_) (fun c_2 => ?_)
    · replace hM := hM.1 (of_decide_eq_true c_2)
      refine HW.skip (thenQ_normal (?_))
      refine HW.seq ?_
      refine HW.block ?_
      refine HW.seq ?_
      refine HW.region ?_
      refine HO.val (v := .int .i64 n_1) (want_none) rfl (q_move rfl) ?_
      refine HO.val (v := .int .i64 n_1) (want_none) rfl (q_assign rfl) ?_
      refine HO.nil (thenQ_normal (?_))
      refine HW.seq ?_
      refine HW.regionA 9 mixed (fun h => (SliceIs h 17 e_api_Addr vs1 s1) ∧ (SliceIs h 17 e_api_Addr vs2 s2)) [] (by kernel_rfl) ?_
      refine HA.val (k := 0) (v := vs1) rfl rfl (by kernel_rfl) (by kernel_rfl) (want_none) rfl (fun _ ⟨hL_s1, hL_s2⟩ => q_move rfl) ?_
      refine HA.val (k := 1) (v := .int .i64 n_1) rfl rfl (by kernel_rfl) (by kernel_rfl) (want_none) rfl (fun _ ⟨hL_s1, hL_s2⟩ => q_move rfl) ?_
      obtain ⟨ho_1, hM⟩ := hM
      refine HA.val (k := 2) (v := elemPtr 17 vs1 (n_1).toNat) rfl rfl (by kernel_rfl) (by kernel_rfl) (want_none) rfl (fun _ ⟨hL_s1, hL_s2⟩ => q_idx ts_22 hL_s1 rfl rfl ho_1) ?_
      refine HA.val (k := 3) (v := .agg (e_api_Addr (gi s1 n_1)).toArray) rfl rfl (by kernel_rfl) (by kernel_rfl) (want_none) rfl (fun _ ⟨hL_s1, hL_s2⟩ => q_ldElemAgg (cs := (e_api_Addr (gi s1 n_1))) ta_27 hL_s1 rfl ho_1 rfl) ?_
      refine HA.val (k := 4) (v := vs2) rfl rfl (by kernel_rfl) (by kernel_rfl) (want_none) rfl (fun _ ⟨hL_s1, hL_s2⟩ => q_move rfl) ?_
      refine HA.val (k := 5) (v := .int .i64 n_1) rfl rfl (by kernel_rfl) (by kernel_rfl) (want_none) rfl (fun _ ⟨hL_s1, hL_s2⟩ => q_move rfl) ?_
      obtain ⟨ho_2, hM⟩ := hM
      refine HA.val (k := 6) (v := elemPtr 17 vs2 (n_1).toNat) rfl rfl (by kernel_rfl) (by kernel_rfl) (want_none) rfl (fun _ ⟨hL_s1, hL_s2⟩ => q_idx ts_22 hL_s2 rfl rfl ho_2) ?_
      refine HA.val (k := 7) (v := .agg (e_api_Addr (gi s2 n_1)).toArray) rfl rfl (by kernel_rfl) (by kernel_rfl) (want_none) rfl (fun _ ⟨hL_s1, hL_s2⟩ => q_ldElemAgg (cs := (e_api_Addr (gi s2 n_1))) ta_27 hL_s2 rfl ho_2 rfl) ?_
      refine HA.val (k := 8) (v := .bool (!decide (((gi s1 n_1) : T_api_Addr) = (gi s2 n_1)))) rfl rfl (by kernel_rfl) (by kernel_rfl) (want_none) rfl (fun _ ⟨hL_s1, hL_s2⟩ => q_neqAgg (a := (gi s1 n_1)) (b := (gi s2 n_1)) (fun a b w => teq_27 9997 a b w) (by kernel_rfl) rfl rfl rfl rfl) ?_
      refine HA.nil ⟨⟨hL_s1.is, hL_s2.is⟩, (Go.Wk.at_nil _ _)⟩ (by kernel_rfl) (thenQ_normal (?_))
      refine HW.cond (!decide (((gi s1 n_1) : T_api_Addr) = (gi s2 n_1))) rfl (fun c_3 => ?_) (fun c_3 => ?_)
      · replace hM := hM.1 (nd_true c_3)
        refine HW.seq ?_
        refine HW.region ?_
        refine HO.val (v := .bool false) (want_none) rfl (q_assign rfl) ?_
        refine HO.nil (thenQ_normal (?_))
        refine HW.ret (blockQ_ret (thenQ_ret (thenQ_ret (blockQ_ret (thenQ_ret (?_))))))
        refine ⟨.inr rfl, .bool false, res1 rfl (rt rfl), ?_⟩
        exact ⟨F_1, false, rfl, hK, hS, hL_s1, hL_s2, hM⟩
      · replace hM := hM.2 (nd_false c_3)
        refine HW.skip (blockQ_normal (thenQ_normal (?_)))
        refine HW.region ?_
        obtain ⟨ho_3, hM⟩ := hM
        refine HO.val (v := .int .i64 (n_1 + 1)) (want_none) rfl (q_addN _ rfl rfl rfl ho_3.1 ho_3.2) ?_
        refine HO.val (v := .int .i64 (n_1 + 1)) (want_none) rfl (q_move rfl) ?_
        refine HO.nil (thenQ_normal (?_))
        rw [hKe_1] at hM
        exact ⟨n_1 + 1, ⟨F_1, rfl, rfl, rfl, rfl, rfl, hK, hS, hL_s1, hL_s2, hM.1⟩, hM.2⟩
    · replace hM := hM.2 (of_decide_eq_false c_2)
      refine HW.exit (thenQ_exit (thenQ_exit (blockQ_exit (thenQ_normal (?_)))))
      refine HW.seq ?_
      refine HW.region ?_
      refine HO.val (v := .bool true) (want_none) rfl (q_assign rfl) ?_
      refine HO.nil (thenQ_normal (?_))
      refine HW.ret (?_)
      refine ⟨.inr rfl, .bool true, res1 rfl (rt rfl), ?_⟩
      exact ⟨F_1, true, rfl, hK, hS, hL_s1, hL_s2, hM⟩

def srcs_Same_W (a : List T_api_Addr) (b : List T_api_Addr) (Q : Bool → Prop) : Prop :=
  slices_Equal_s_api_Addr_api_Addr_W a b (fun r_2 => Q r_2)
set_option maxHeartbeats 40000000 in
set_option maxRecDepth 100000 in
theorem srcs_Same_walk {F : Fz} {fr : List Ow} {h0 : Heap} (a : List T_api_Addr) (b : List T_api_Addr) (va : Value) (vb : Value) (hS : St F (fr) h0) (hL_a : SliceF F h0 17 e_api_Addr va a) (hL_b : SliceF F h0 17 e_api_Addr vb b) {Q : Bool → Prop} (hM : srcs_Same_W a b Q) :
    HC Tryd.prog 45 #[va, vb] h0 fun u h' => ∃ (F' : Fz) (r_1 : Bool), u = .bool r_1 ∧ Kp F h0 F' h' ∧ St F' (fr) h' ∧ (SliceF F' h' 17 e_api_Addr va a) ∧ (SliceF F' h' 17 e_api_Addr vb b) ∧ Q r_1 := by
  unfold srcs_Same_W at hM
  have hK := Kp.refl F h0
  refine HC.of_HW (n := 8) Tryd.func45 rfl rfl (Nat.le_of_ble_eq_true rfl) ?_
  refine HW.seq ?_
  refine HW.region ?_
  refine HO.val (v := .bool false) (want_none) rfl (q_assign rfl) ?_
  refine HO.nil (thenQ_normal (?_))
  refine HW.seq ?_
  refine HW.region ?_
  refine HO.val (v := va) (want_none) rfl (q_move rfl) ?_
  refine HO.val (v := vb) (want_none) rfl (q_move rfl) ?_
  refine HO.call (want_none) rfl (ec en_66 rfl rfl) (slices_Equal_s_api_Addr_api_Addr_walk (fr := (fr)) a b va vb hS hL_a hL_b hM) ?_
  rintro _ h_1 ⟨F_1, r_2, rfl, hk, hS, _, _, hM⟩
  replace hK := hK.trans hk
  replace hL_a := hL_a.kp hk
  replace hL_b := hL_b.kp hk
  refine HO.val (v := .bool r_2) (want_none) rfl (q_assign rfl) ?_
  refine HO.nil (thenQ_normal (?_))
  refine HW.ret (?_)
  refine ⟨.inr rfl, .bool r_2, res1 rfl (rt rfl), ?_⟩
  exact ⟨F_1, r_2, rfl, hK, hS, hL_a, hL_b, hM⟩

def srcs_Within_W (a : List T_api_Addr) (b : List T_api_Addr) (Q : Bool → Prop) : Prop :=
  srcs_minus_W a b (fun r_2 => Q (decide ((r_2.length : Int) = 0)))
set_option maxHeartbeats 40000000 in
set_option maxRecDepth 100000 in
theorem srcs_Within_walk {F : Fz} {fr : List Ow} {h0 : Heap} (a : List T_api_Addr) (b : List T_api_Addr) (va : Value) (vb : Value) (hS : St F (fr) h0) (hL_a : SliceF F h0 17 e_api_Addr va a) (hL_b : SliceF F h0 17 e_api_Addr vb b) {Q : Bool → Prop} (hM : srcs_Within_W a b Q) :
    HC Tryd.prog 46 #[va, vb] h0 fun u h' => ∃ (F' : Fz) (r_1 : Bool), u = .bool r_1 ∧ Kp F h0 F' h' ∧ St F' (fr) h' ∧ (SliceF F' h' 17 e_api_Addr va a) ∧ (SliceF F' h' 17 e_api_Addr vb b) ∧ Q r_1 := by
  unfold srcs_Within_W at hM
  have hK := Kp.refl F h0
  refine HC.of_HW (n := 10) Tryd.func46 rfl rfl (Nat.le_of_ble_eq_true rfl) ?_
  refine HW.seq ?_
  refine HW.region ?_
  refine HO.val (v := .bool false) (want_none) rfl (q_assign rfl) ?_
  refine HO.nil (thenQ_normal (?_))
  refine HW.seq ?_
  refine HW.region ?_
  refine HO.val (v := va) (want_none) rfl (q_move rfl) ?_
  refine HO.val (v := vb) (want_none) rfl (q_move rfl) ?_
  refine HO.call (want_none) rfl (ec en_65 rfl rfl) (srcs_minus_walk (fr := (fr)) a b va vb hS hL_a hL_b hM) ?_
  rintro vr_1 h_1 ⟨F_1, r_2, _, rfl, hk, hS, _, _, hM⟩
  replace hK := hK.trans hk
  replace hL_a := hL_a.kp hk
  replace hL_b := hL_b.kp hk
  refine HO.val (v := .int .i64 (r_2.length : Int)) (want_none) rfl (q_len ts_22 (shp (hS.own 0 rfl).slice) rfl rfl) ?_
  refine HO.val (v := .bool (decide ((r_2.length : Int) = 0))) (want_none) rfl (q_eql rfl rfl) ?_
  refine HO.val (v := .bool (decide ((r_2.length : Int) = 0))) (want_none) rfl (q_assign rfl) ?_
  refine HO.nil (thenQ_normal (?_))
  refine HW.ret (?_)
  refine ⟨.inr rfl, .bool (decide ((r_2.length : Int) = 0)), res1 rfl (rt rfl), ?_⟩
  replace hS : St F_1 (fr) h_1 := hS.perm2 [] 1 rfl rfl
  exact ⟨F_1, decide ((r_2.length : Int) = 0), rfl, hK, hS, hL_a, hL_b, hM⟩

def law11_SrcsPairs_j1 (Q : Bool → Prop) (r_3 : List T_api_Addr) (r_5 : List T_api_Addr) (r_8 : List T_api_Addr) (r_11 : List T_api_Addr) (b_1 : Bool) : Prop :=
  (b_1 = true → Q false) ∧ (b_1 = false → srcs_Or_W r_8 r_11 (fun r_23 => ref11_Same_W r_23 r_3 (fun r_24 => (r_24 = true → srcs_Same_W r_3 r_5 (fun r_25 => ref11_Same_W r_3 r_5 (fun r_26 => ((r_25 == r_26) = true → srcs_Within_W r_3 r_5 (fun r_27 => ((r_27 == (decide ((r_11.length : Int) = 0))) = true → srcs_Within_W r_8 r_5 (fun r_28 => (r_28 = true → law11_lives_W  (fun r_29 => Q r_29)) ∧ (r_28 = false → Q false))) ∧ ((r_27 == (decide ((r_11.length : Int) = 0))) = false → Q false))) ∧ ((r_25 == r_26) = false → Q false)))) ∧ (r_24 = false → Q false))))
def law11_SrcsPairs_W (l : List T_api_Addr) (m1 : List T_api_Addr) (Q : Bool → Prop) : Prop :=
  law08_Addrs_W l 10 (fun r_2 => ref11_Of_W r_2 (fun r_3 => law08_Addrs_W m1 10 (fun r_4 => ref11_Of_W r_4 (fun r_5 => law08_Addrs_W r_3 10 (fun r_6 => law08_Addrs_W r_5 10 (fun r_7 => srcs_And_W r_6 r_7 (fun r_8 => law08_Addrs_W r_3 10 (fun r_9 => law08_Addrs_W r_5 10 (fun r_10 => srcs_Minus_W r_9 r_10 (fun r_11 => law08_Addrs_W r_3 10 (fun r_12 => law08_Addrs_W r_5 10 (fun r_13 => srcs_Or_W r_12 r_13 (fun r_14 => ref11_Pick_W r_3 r_5 true (fun r_15 => ref11_Same_W r_8 r_15 (fun r_16 => ((!r_16) = true → law11_SrcsPairs_j1 Q r_3 r_5 r_8 r_11 true) ∧ ((!r_16) = false → ref11_Pick_W r_3 r_5 false (fun r_17 => ref11_Same_W r_11 r_17 (fun r_18 => ((!r_18) = true → law11_SrcsPairs_j1 Q r_3 r_5 r_8 r_11 true) ∧ ((!r_18) = false → ref11_Or_W r_3 r_5 (fun r_19 => ref11_Same_W r_14 r_19 (fun r_20 => ((!r_20) = true → law11_SrcsPairs_j1 Q r_3 r_5 r_8 r_11 true) ∧ ((!r_20) = false → srcs_Or_W r_5 r_3 (fun r_21 => ref11_Same_W r_21 r_14 (fun r_22 => law11_SrcsPairs_j1 Q r_3 r_5 r_8 r_11 (!r_22)))))))))))))))))))))))))
set_option maxHeartbeats 40000000 in
set_option maxRecDepth 100000 in
theorem law11_SrcsPairs_walk {F : Fz} {fr : List Ow} {h0 : Heap} (l : List T_api_Addr) (m1 : List T_api_Addr) (vl : Value) (vm : Value) (hS : St F (fr) h0) (hL_l : SliceF F h0 17 e_api_Addr vl l) (hL_m1 : SliceF F h0 17 e_api_Addr vm m1) (hD : DM.on = false) {Q : Bool → Prop} (hM : law11_SrcsPairs_W l m1 Q) :
    HC Tryd.prog 8 #[vl, vm] h0 fun u h' => ∃ (F' : Fz) (r_1 : Bool), u = .bool r_1 ∧ Kp F h0 F' h' ∧ St F' (fr) h' ∧ (SliceF F' h' 17 e_api_Addr vl l) ∧ (SliceF F' h' 17 e_api_Addr vm m1) ∧ Q r_1 := by
  unfold law11_SrcsPairs_W at hM
  have hK := Kp.refl F h0
  refine HC.of_HW (n := 92) Tryd.func8 rfl rfl (Nat.le_of_ble_eq_true rfl) ?_
  refine HW.seq ?_
  refine HW.region ?_
  refine HO.val (v := .bool false) (want_none) rfl (q_assign rfl) ?_
  refine HO.nil (thenQ_normal (?_))
  refine HW.seq ?_
  refine HW.region ?_
  refine HO.val (v := vl) (want_none) rfl (q_move rfl) ?_
  refine HO.call (want_none) rfl (ec en_25 rfl rfl) (law08_Addrs_walk (fr := (fr)) l 10 vl hS hL_l hM) ?_
  rintro vr_1 h_1 ⟨F_1, r_2, _, rfl, hk, hS, _, hM⟩
  replace hK := hK.trans hk
  replace hL_l := hL_l.kp hk
  replace hL_m1 := hL_m1.kp hk
  obtain ⟨F_2, hS, hk, hL_1⟩ := hS.freezeOwn
  replace hK := hK.trans hk
  replace hL_l := hL_l.kp hk
  replace hL_m1 := hL_m1.kp hk
  refine HO.call (want_none) rfl (ec en_28 rfl rfl) (ref11_Of_walk (fr := (fr)) r_2 vr_1 hS hL_1 hM) ?_
  rintro vr_2 h_2 ⟨F_3, r_3, _, rfl, hk, hS, _, hL_2, hM⟩
  replace hK := hK.trans hk
  replace hL_l := hL_l.kp hk
  replace hL_m1 := hL_m1.kp hk
  replace hL_1 := hL_1.kp hk
  refine HO.val (v := vm) (want_none) rfl (q_move rfl) ?_
  refine HO.call (want_none) rfl (ec en_25 rfl rfl) (law08_Addrs_walk (fr := (fr)) m1 10 vm hS hL_m1 hM) ?_
  rintro vr_3 h_3 ⟨F_4, r_4, _, rfl, hk, hS, _, hM⟩
  replace hK := hK.trans hk
  replace hL_l := hL_l.kp hk
  replace hL_m1 := hL_m1.kp hk
  replace hL_1 := hL_1.kp hk
  replace hL_2 := hL_2.kp hk
  obtain ⟨F_5, hS, hk, hL_3⟩ := hS.freezeOwn
  replace hK := hK.trans hk
  replace hL_l := hL_l.kp hk
  replace hL_m1 := hL_m1.kp hk
  replace hL_1 := hL_1.kp hk
  replace hL_2 := hL_2.kp hk
  refine HO.call (want_none) rfl (ec en_28 rfl rfl) (ref11_Of_walk (fr := (fr)) r_4 vr_3 hS hL_3 hM) ?_
  rintro vr_4 h_4 ⟨F_6, r_5, _, rfl, hk, hS, _, hL_4, hM⟩
  replace hK := hK.trans hk
  replace hL_l := hL_l.kp hk
  replace hL_m1 := hL_m1.kp hk
  replace hL_1 := hL_1.kp hk
  replace hL_2 := hL_2.kp hk
  replace hL_3 := hL_3.kp hk
  refine HO.val (v := vr_2) (want_none) rfl (q_assign rfl) ?_
  refine HO.val (v := vr_4) (want_none) rfl (q_assign rfl) ?_
  refine HO.nil (thenQ_normal (?_))
  refine HW.seq ?_
  refine HW.region ?_
  refine HO.val (v := vr_2) (want_none) rfl (q_move rfl) ?_
  refine HO.call (want_none) rfl (ec en_25 rfl rfl) (law08_Addrs_walk (fr := (fr)) r_3 10 vr_2 hS hL_2 hM) ?_
  rintro vr_5 h_5 ⟨F_7, r_6, _, rfl, hk, hS, _, hM⟩
  replace hK := hK.trans hk
  replace hL_l := hL_l.kp hk
  replace hL_m1 := hL_m1.kp hk
  replace hL_1 := hL_1.kp hk
  replace hL_2 := hL_2.kp hk
  replace hL_3 := hL_3.kp hk
  replace hL_4 := hL_4.kp hk
  refine HO.val (v := vr_4) (want_none) rfl (q_move rfl) ?_
  refine HO.call (want_none) rfl (ec en_25 rfl rfl) (law08_Addrs_walk (fr := (Ow.own 27 17 e_api_Addr vr_5 r_6 :: fr)) r_5 10 vr_4 hS hL_4 hM) ?_
  rintro vr_6 h_6 ⟨F_8, r_7, _, rfl, hk, hS, _, hM⟩
  replace hK := hK.trans hk
  replace hL_l := hL_l.kp hk
  replace hL_m1 := hL_m1.kp hk
  replace hL_1 := hL_1.kp hk
  replace hL_2 := hL_2.kp hk
  replace hL_3 := hL_3.kp hk
  replace hL_4 := hL_4.kp hk
  replace hS : St F_8 (Ow.own 27 17 e_api_Addr vr_5 r_6 :: Ow.own 27 17 e_api_Addr vr_6 r_7 :: fr) h_6 := hS.perm2 [1, 0] 2 rfl rfl
  have hZ_1 := hS
  have hkz_1 := (hS.freeze).2
  replace hS := hS.freeze.1
  have hL_5 : SliceF (fun b => F_8 b ∨ (Ow.own 27 17 e_api_Addr vr_5 r_6).foot b) h_6 17 e_api_Addr vr_5 r_6 := ⟨(hZ_1.own 0 rfl).slice, fun _ b hb => .inr hb⟩
  have hZ_2 := hS
  have hkz_2 := (hS.freeze).2
  replace hS := hS.freeze.1
  have hL_6 : SliceF (fun b => (fun b => F_8 b ∨ (Ow.own 27 17 e_api_Addr vr_5 r_6).foot b) b ∨ (Ow.own 27 17 e_api_Addr vr_6 r_7).foot b) h_6 17 e_api_Addr vr_6 r_7 := ⟨(hZ_2.own 0 rfl).slice, fun _ b hb => .inr hb⟩
  refine HO.call (want_none) rfl (ec en_40 rfl rfl) (srcs_And_walk (fr := (fr)) r_6 r_7 vr_5 vr_6 hS (hL_5.kp hkz_2) hL_6 hM) ?_
  rintro vr_7 h_7 ⟨F_9, r_8, _, rfl, hk, hS, _, _, hM⟩
  obtain ⟨hS, hk⟩ := hZ_2.back hk hS
  obtain ⟨hS, hk⟩ := hZ_1.back hk hS
  generalize (fun b => (fun b => F_9 b ∧ ¬ (Ow.own 27 17 e_api_Addr vr_6 r_7).foot b) b ∧ ¬ (Ow.own 27 17 e_api_Addr vr_5 r_6).foot b) = F_10 at hS hk
  replace hK := hK.trans hk
  replace hL_l := hL_l.kp hk
  replace hL_m1 := hL_m1.kp hk
  replace hL_1 := hL_1.kp hk
  replace hL_2 := hL_2.kp hk
  replace hL_3 := hL_3.kp hk
  replace hL_4 := hL_4.kp hk
  refine HO.val (v := vr_2) (want_none) rfl (q_move rfl) ?_
  refine HO.call (want_none) rfl (ec en_25 rfl rfl) (law08_Addrs_walk (fr := (Ow.own 27 17 e_api_Addr vr_5 r_6 :: Ow.own 27 17 e_api_Addr vr_6 r_7 :: Ow.own 27 17 e_api_Addr vr_7 r_8 :: fr)) r_3 10 vr_2 hS hL_2 hM) ?_
  rintro vr_8 h_8 ⟨F_11, r_9, _, rfl, hk, hS, _, hM⟩
  replace hK := hK.trans hk
  replace hL_l := hL_l.kp hk
  replace hL_m1 := hL_m1.kp hk
  replace hL_1 := hL_1.kp hk
  replace hL_2 := hL_2.kp hk
  replace hL_3 := hL_3.kp hk
  replace hL_4 := hL_4.kp hk
  refine HO.val (v := vr_4) (want_none) rfl (q_move rfl) ?_
  refine HO.call (want_none) rfl (ec en_25 rfl rfl) (law08_Addrs_walk (fr := (Ow.own 27 17 e_api_Addr vr_8 r_9 :: Ow.own 27 17 e_api_Addr vr_5 r_6 :: Ow.own 27 17 e_api_Addr vr_6 r_7 :: Ow.own 27 17 e_api_Addr vr_7 r_8 :: fr)) r_5 10 vr_4 hS hL_4 hM) ?_
  rintro vr_9 h_9 ⟨F_12, r_10, _, rfl, hk, hS, _, hM⟩
  replace hK := hK.trans hk
  replace hL_l := hL_l.kp hk
  replace hL_m1 := hL_m1.kp hk
  replace hL_1 := hL_1.kp hk
  replace hL_2 := hL_2.kp hk
  replace hL_3 := hL_3.kp hk
  replace hL_4 := hL_4.kp hk
  replace hS : St F_12 (Ow.own 27 17 e_api_Addr vr_8 r_9 :: Ow.own 27 17 e_api_Addr vr_9 r_10 :: Ow.own 27 17 e_api_Addr vr_5 r_6 :: Ow.own 27 17 e_api_Addr vr_6 r_7 :: Ow.own 27 17 e_api_Addr vr_7 r_8 :: fr) h_9 := hS.perm2 [1, 0, 2, 3, 4] 5 rfl rfl
  have hZ_3 := hS
  have hkz_3 := (hS.freeze).2
  replace hS := hS.freeze.1
  have hL_7 : SliceF (fun b => F_12 b ∨ (Ow.own 27 17 e_api_Addr vr_8 r_9).foot b) h_9 17 e_api_Addr vr_8 r_9 := ⟨(hZ_3.own 0 rfl).slice, fun _ b hb => .inr hb⟩
  have hZ_4 := hS
  have hkz_4 := (hS.freeze).2
  replace hS := hS.freeze.1
  have hL_8 : SliceF (fun b => (fun b => F_12 b ∨ (Ow.own 27 17 e_api_Addr vr_8 r_9).foot b) b ∨ (Ow.own 27 17 e_api_Addr vr_9 r_10).foot b) h_9 17 e_api_Addr vr_9 r_10 := ⟨(hZ_4.own 0 rfl).slice, fun _ b hb => .inr hb⟩
  refine HO.call (want_none) rfl (ec en_41 rfl rfl) (srcs_Minus_walk (fr := (Ow.own 27 17 e_api_Addr vr_5 r_6 :: Ow.own 27 17 e_api_Addr vr_6 r_7 :: Ow.own 27 17 e_api_Addr vr_7 r_8 :: fr)) r_9 r_10 vr_8 vr_9 hS (hL_7.kp hkz_4) hL_8 hM) ?_
  rintro vr_10 h_10 ⟨F_13, r_11, _, rfl, hk, hS, _, _, hM⟩
  obtain ⟨hS, hk⟩ := hZ_4.back hk hS
  obtain ⟨hS, hk⟩ := hZ_3.back hk hS
  generalize (fun b => (fun b => F_13 b ∧ ¬ (Ow.own 27 17 e_api_Addr vr_9 r_10).foot b) b ∧ ¬ (Ow.own 27 17 e_api_Addr vr_8 r_9).foot b) = F_14 at hS hk
  replace hK := hK.trans hk
  replace hL_l := hL_l.kp hk
  replace hL_m1 := hL_m1.kp hk
  replace hL_1 := hL_1.kp hk
  replace hL_2 := hL_2.kp hk
  replace hL_3 := hL_3.kp hk
  replace hL_4 := hL_4.kp hk
  refine HO.val (v := vr_7) (want_none) rfl (q_assign rfl) ?_
  refine HO.val (v := vr_10) (want_none) rfl (q_assign rfl) ?_
  refine HO.nil (thenQ_normal (?_))
  refine HW.seq ?_
  refine HW.region ?_
  refine HO.val (v := vr_2) (want_none) rfl (q_move rfl) ?_
  refine HO.call (want_none) rfl (ec en_25 rfl rfl) (law08_Addrs_walk (fr := (Ow.own 27 17 e_api_Addr vr_8 r_9 :: Ow.own 27 17 e_api_Addr vr_9 r_10 :: Ow.own 27 17 e_api_Addr vr_10 r_11 :: Ow.own 27 17 e_api_Addr vr_5 r_6 :: Ow.own 27 17 e_api_Addr vr_6 r_7 :: Ow.own 27 17 e_api_Addr vr_7 r_8 :: fr)) r_3 10 vr_2 hS hL_2 hM) ?_
  rintro vr_11 h_11 ⟨F_15, r_12, _, rfl, hk, hS, _, hM⟩
  replace hK := hK.trans hk
  replace hL_l := hL_l.kp hk
  replace hL_m1 := hL_m1.kp hk
  replace hL_1 := hL_1.kp hk
  replace hL_2 := hL_2.kp hk
  replace hL_3 := hL_3.kp hk
  replace hL_4 := hL_4.kp hk
  refine HO.val (v := vr_4) (want_none) rfl (q_move rfl) ?_
  refine HO.call (want_none) rfl (ec en_25 rfl rfl) (law08_Addrs_walk (fr := (Ow.own 27 17 e_api_Addr vr_11 r_12 :: Ow.own 27 17 e_api_Addr vr_8 r_9 :: Ow.own 27 17 e_api_Addr vr_9 r_10 :: Ow.own 27 17 e_api_Addr vr_10 r_11 :: Ow.own 27 17 e_api_Addr vr_5 r_6 :: Ow.own 27 17 e_api_Addr vr_6 r_7 :: Ow.own 27 17 e_api_Addr vr_7 r_8 :: fr)) r_5 10 vr_4 hS hL_4 hM) ?_
  rintro vr_12 h_12 ⟨F_16, r_13, _, rfl, hk, hS, _, hM⟩
  replace hK := hK.trans hk
  replace hL_l := hL_l.kp hk
  replace hL_m1 := hL_m1.kp hk
  replace hL_1 := hL_1.kp hk
  replace hL_2 := hL_2.kp hk
  replace hL_3 := hL_3.kp hk
  replace hL_4 := hL_4.kp hk
  replace hS : St F_16 (Ow.own 27 17 e_api_Addr vr_11 r_12 :: Ow.own 27 17 e_api_Addr vr_12 r_13 :: Ow.own 27 17 e_api_Addr vr_8 r_9 :: Ow.own 27 17 e_api_Addr vr_9 r_10 :: Ow.own 27 17 e_api_Addr vr_10 r_11 :: Ow.own 27 17 e_api_Addr vr_5 r_6 :: Ow.own 27 17 e_api_Addr vr_6 r_7 :: Ow.own 27 17 e_api_Addr vr_7 r_8 :: fr) h_12 := hS.perm2 [1, 0, 2, 3, 4, 5, 6, 7] 8 rfl rfl
  have hZ_5 := hS
  have hkz_5 := (hS.freeze).2
  replace hS := hS.freeze.1
  have hL_9 : SliceF (fun b => F_16 b ∨ (Ow.own 27 17 e_api_Addr vr_11 r_12).foot b) h_12 17 e_api_Addr vr_11 r_12 := ⟨(hZ_5.own 0 rfl).slice, fun _ b hb => .inr hb⟩
  have hZ_6 := hS
  have hkz_6 := (hS.freeze).2
  replace hS := hS.freeze.1
  have hL_10 : SliceF (fun b => (fun b => F_16 b ∨ (Ow.own 27 17 e_api_Addr vr_11 r_12).foot b) b ∨ (Ow.own 27 17 e_api_Addr vr_12 r_13).foot b) h_12 17 e_api_Addr vr_12 r_13 := ⟨(hZ_6.own 0 rfl).slice, fun _ b hb => .inr hb⟩
  refine HO.call (want_none) rfl (ec en_42 rfl rfl) (srcs_Or_walk (fr := (Ow.own 27 17 e_api_Addr vr_8 r_9 :: Ow.own 27 17 e_api_Addr vr_9 r_10 :: Ow.own 27 17 e_api_Addr vr_10 r_11 :: Ow.own 27 17 e_api_Addr vr_5 r_6 :: Ow.own 27 17 e_api_Addr vr_6 r_7 :: Ow.own 27 17 e_api_Addr vr_7 r_8 :: fr)) r_12 r_13 vr_11 vr_12 hS (hL_9.kp hkz_6) hL_10 hM) ?_
  rintro vr_13 h_13 ⟨F_17, r_14, _, rfl, hk, hS, _, _, hM⟩
  obtain ⟨hS, hk⟩ := hZ_6.back hk hS
  obtain ⟨hS, hk⟩ := hZ_5.back hk hS
  generalize (fun b => (fun b => F_17 b ∧ ¬ (Ow.own 27 17 e_api_Addr vr_12 r_13).foot b) b ∧ ¬ (Ow.own 27 17 e_api_Addr vr_11 r_12).foot b) = F_18 at hS hk
  replace hK := hK.trans hk
  replace hL_l := hL_l.kp hk
  replace hL_m1 := hL_m1.kp hk
  replace hL_1 := hL_1.kp hk
  replace hL_2 := hL_2.kp hk
  replace hL_3 := hL_3.kp hk
  replace hL_4 := hL_4.kp hk
  refine HO.val (v := vr_13) (want_none) rfl (q_assign rfl) ?_
  refine HO.nil (thenQ_normal (?_))
  refine HW.seq ?_
  refine HW.seq_mid (fun f h => ∃ (F' : Fz) (b_1 : Bool), f 4 = .bool false ∧ f 5 = vr_2 ∧ f 6 = vr_4 ∧ f 7 = vr_7 ∧ f 8 = vr_10 ∧ f 60 = .bool b_1 ∧ Kp F h0 F' h ∧ St F' (Ow.own 27 17 e_api_Addr vr_7 r_8 :: Ow.own 27 17 e_api_Addr vr_10 r_11 :: fr) h ∧ (SliceF F' h 17 e_api_Addr vl l) ∧ (SliceF F' h 17 e_api_Addr vm m1) ∧ (SliceF F' h 17 e_api_Addr vr_1 r_2) ∧ (SliceF F' h 17 e_api_Addr vr_2 r_3) ∧ (SliceF F' h 17 e_api_Addr vr_3 r_4) ∧ (SliceF F' h 17 e_api_Addr vr_4 r_5) ∧ law11_SrcsPairs_j1 Q r_3 r_5 r_8 r_11 b_1) ?_ ?_
  · refine HW.region ?_
    refine HO.val (v := vr_7) (want_none) rfl (q_move rfl) ?_
    refine HO.val (v := vr_2) (want_none) rfl (q_move rfl) ?_
    refine HO.val (v := vr_4) (want_none) rfl (q_move rfl) ?_
    refine HO.call (want_none) rfl (ec en_43 rfl rfl) (ref11_Pick_walk (fr := (Ow.own 27 17 e_api_Addr vr_11 r_12 :: Ow.own 27 17 e_api_Addr vr_12 r_13 :: Ow.own 27 17 e_api_Addr vr_13 r_14 :: Ow.own 27 17 e_api_Addr vr_8 r_9 :: Ow.own 27 17 e_api_Addr vr_9 r_10 :: Ow.own 27 17 e_api_Addr vr_10 r_11 :: Ow.own 27 17 e_api_Addr vr_5 r_6 :: Ow.own 27 17 e_api_Addr vr_6 r_7 :: Ow.own 27 17 e_api_Addr vr_7 r_8 :: fr)) r_3 r_5 true vr_2 vr_4 hS hL_2 hL_4 hM) ?_
    rintro vr_14 h_14 ⟨F_19, r_15, _, rfl, hk, hS, _, _, hM⟩
    replace hK := hK.trans hk
    replace hL_l := hL_l.kp hk
    replace hL_m1 := hL_m1.kp hk
    replace hL_1 := hL_1.kp hk
    replace hL_2 := hL_2.kp hk
    replace hL_3 := hL_3.kp hk
    replace hL_4 := hL_4.kp hk
    replace hS : St F_19 (Ow.own 27 17 e_api_Addr vr_7 r_8 :: Ow.own 27 17 e_api_Addr vr_14 r_15 :: Ow.own 27 17 e_api_Addr vr_11 r_12 :: Ow.own 27 17 e_api_Addr vr_12 r_13 :: Ow.own 27 17 e_api_Addr vr_13 r_14 :: Ow.own 27 17 e_api_Addr vr_8 r_9 :: Ow.own 27 17 e_api_Addr vr_9 r_10 :: Ow.own 27 17 e_api_Addr vr_10 r_11 :: Ow.own 27 17 e_api_Addr vr_5 r_6 :: Ow.own 27 17 e_api_Addr vr_6 r_7 :: fr) h_14 := hS.perm2 [9, 0, 1, 2, 3, 4, 5, 6, 7, 8] 10 rfl rfl
    have hZ_7 := hS
    have hkz_7 := (hS.freeze).2
    replace hS := hS.freeze.1
    have hL_11 : SliceF (fun b => F_19 b ∨ (Ow.own 27 17 e_api_Addr vr_7 r_8).foot b) h_14 17 e_api_Addr vr_7 r_8 := ⟨(hZ_7.own 0 rfl).slice, fun _ b hb => .inr hb⟩
    have hZ_8 := hS
    have hkz_8 := (hS.freeze).2
    replace hS := hS.freeze.1
    have hL_12 : SliceF (fun b => (fun b => F_19 b ∨ (Ow.own 27 17 e_api_Addr vr_7 r_8).foot b) b ∨ (Ow.own 27 17 e_api_Addr vr_14 r_15).foot b) h_14 17 e_api_Addr vr_14 r_15 := ⟨(hZ_8.own 0 rfl).slice, fun _ b hb => .inr hb⟩
    refine HO.call (want_none) rfl (ec en_27 rfl rfl) (ref11_Same_walk (fr := (Ow.own 27 17 e_api_Addr vr_11 r_12 :: Ow.own 27 17 e_api_Addr vr_12 r_13 :: Ow.own 27 17 e_api_Addr vr_13 r_14 :: Ow.own 27 17 e_api_Addr vr_8 r_9 :: Ow.own 27 17 e_api_Addr vr_9 r_10 :: Ow.own 27 17 e_api_Addr vr_10 r_11 :: Ow.own 27 17 e_api_Addr vr_5 r_6 :: Ow.own 27 17 e_api_Addr vr_6 r_7 :: fr)) r_8 r_15 vr_7 vr_14 hS (hL_11.kp hkz_8) hL_12 hM) ?_
    rintro _ h_15 ⟨F_20, r_16, rfl, hk, hS, _, _, hM⟩
    obtain ⟨hS, hk⟩ := hZ_8.back hk hS
    obtain ⟨hS, hk⟩ := hZ_7.back hk hS
    generalize (fun b => (fun b => F_20 b ∧ ¬ (Ow.own 27 17 e_api_Addr vr_14 r_15).foot b) b ∧ ¬ (Ow.own 27 17 e_api_Addr vr_7 r_8).foot b) = F_21 at hS hk
    replace hK := hK.trans hk
    replace hL_l := hL_l.kp hk
    replace hL_m1 := hL_m1.kp hk
    replace hL_1 := hL_1.kp hk
    replace hL_2 := hL_2.kp hk
    replace hL_3 := hL_3.kp hk
    replace hL_4 := hL_4.kp hk
    refine HO.val (v := .bool (!r_16)) (want_none) rfl (q_not rfl) ?_
    refine HO.val (v := .bool (!r_16)) (want_none) rfl (q_move rfl) ?_
    rcases Bool.eq_false_or_eq_true (!r_16) with c_1 | c_1
    · replace hM := hM.1 c_1
      refine HO.past (past_by rfl rfl c_1) rfl ?_
      refine HO.past (past_by rfl rfl c_1) rfl ?_
      refine HO.past (past_by rfl rfl c_1) rfl ?_
      refine HO.past (past_by rfl rfl c_1) rfl ?_
      refine HO.past (past_by rfl rfl c_1) rfl ?_
      refine HO.past (past_by rfl rfl c_1) rfl ?_
      refine HO.val (v := .bool true) (want_none) rfl (q_pickK true rfl c_1 rfl) ?_
      refine HO.val (v := .bool true) (want_none) rfl (q_move rfl) ?_
      refine HO.past (past_some rfl rfl) rfl ?_
      refine HO.past (past_some rfl rfl) rfl ?_
      refine HO.past (past_some rfl rfl) rfl ?_
      refine HO.past (past_some rfl rfl) rfl ?_
      refine HO.past (past_some rfl rfl) rfl ?_
      refine HO.past (past_some rfl rfl) rfl ?_
      refine HO.val (v := .bool true) (want_none) rfl (q_pick rfl rfl) ?_
      refine HO.val (v := .bool true) (want_none) rfl (q_move rfl) ?_
      refine HO.past (past_some rfl rfl) rfl ?_
      refine HO.past (past_some rfl rfl) rfl ?_
      refine HO.past (past_some rfl rfl) rfl ?_
      refine HO.past (past_some rfl rfl) rfl ?_
      refine HO.past (past_some rfl rfl) rfl ?_
      refine HO.past (past_some rfl rfl) rfl ?_
      refine HO.val (v := .bool true) (want_none) rfl (q_pick rfl rfl) ?_
      refine HO.nil (thenQ_normal (?_))
      replace hS : St F_21 (Ow.own 27 17 e_api_Addr vr_7 r_8 :: Ow.own 27 17 e_api_Addr vr_10 r_11 :: fr) h_15 := hS.perm2 [0, 7] 10 rfl rfl
      exact ⟨F_21, true, rfl, rfl, rfl, rfl, rfl, rfl, hK, hS, hL_l, hL_m1, hL_1, hL_2, hL_3, hL_4, hM⟩
    · replace hM := hM.2 c_1
      refine HO.val (v := vr_10) (want_by rfl rfl c_1) rfl (q_move rfl) ?_
      refine HO.val (v := vr_2) (want_by rfl rfl c_1) rfl (q_move rfl) ?_
      refine HO.val (v := vr_4) (want_by rfl rfl c_1) rfl (q_move rfl) ?_
      refine HO.call (want_by rfl rfl c_1) rfl (ec en_43 rfl rfl) (ref11_Pick_walk (fr := (Ow.own 27 17 e_api_Addr vr_7 r_8 :: Ow.own 27 17 e_api_Addr vr_14 r_15 :: Ow.own 27 17 e_api_Addr vr_11 r_12 :: Ow.own 27 17 e_api_Addr vr_12 r_13 :: Ow.own 27 17 e_api_Addr vr_13 r_14 :: Ow.own 27 17 e_api_Addr vr_8 r_9 :: Ow.own 27 17 e_api_Addr vr_9 r_10 :: Ow.own 27 17 e_api_Addr vr_10 r_11 :: Ow.own 27 17 e_api_Addr vr_5 r_6 :: Ow.own 27 17 e_api_Addr vr_6 r_7 :: fr)) r_3 r_5 false vr_2 vr_4 hS hL_2 hL_4 hM) ?_
      rintro vr_15 h_16 ⟨F_22, r_17, _, rfl, hk, hS, _, _, hM⟩
      replace hK := hK.trans hk
      replace hL_l := hL_l.kp hk
      replace hL_m1 := hL_m1.kp hk
      replace hL_1 := hL_1.kp hk
      replace hL_2 := hL_2.kp hk
      replace hL_3 := hL_3.kp hk
      replace hL_4 := hL_4.kp hk
      replace hS : St F_22 (Ow.own 27 17 e_api_Addr vr_10 r_11 :: Ow.own 27 17 e_api_Addr vr_15 r_17 :: Ow.own 27 17 e_api_Addr vr_7 r_8 :: Ow.own 27 17 e_api_Addr vr_14 r_15 :: Ow.own 27 17 e_api_Addr vr_11 r_12 :: Ow.own 27 17 e_api_Addr vr_12 r_13 :: Ow.own 27 17 e_api_Addr vr_13 r_14 :: Ow.own 27 17 e_api_Addr vr_8 r_9 :: Ow.own 27 17 e_api_Addr vr_9 r_10 :: Ow.own 27 17 e_api_Addr vr_5 r_6 :: Ow.own 27 17 e_api_Addr vr_6 r_7 :: fr) h_16 := hS.perm2 [8, 0, 1, 2, 3, 4, 5, 6, 7, 9, 10] 11 rfl rfl
      have hZ_9 := hS
      have hkz_9 := (hS.freeze).2
      replace hS := hS.freeze.1
      have hL_13 : SliceF (fun b => F_22 b ∨ (Ow.own 27 17 e_api_Addr vr_10 r_11).foot b) h_16 17 e_api_Addr vr_10 r_11 := ⟨(hZ_9.own 0 rfl).slice, fun _ b hb => .inr hb⟩
      have hZ_10 := hS
      have hkz_10 := (hS.freeze).2
      replace hS := hS.freeze.1
      have hL_14 : SliceF (fun b => (fun b => F_22 b ∨ (Ow.own 27 17 e_api_Addr vr_10 r_11).foot b) b ∨ (Ow.own 27 17 e_api_Addr vr_15 r_17).foot b) h_16 17 e_api_Addr vr_15 r_17 := ⟨(hZ_10.own 0 rfl).slice, fun _ b hb => .inr hb⟩
      refine HO.call (want_by rfl rfl c_1) rfl (ec en_27 rfl rfl) (ref11_Same_walk (fr := (Ow.own 27 17 e_api_Addr vr_7 r_8 :: Ow.own 27 17 e_api_Addr vr_14 r_15 :: Ow.own 27 17 e_api_Addr vr_11 r_12 :: Ow.own 27 17 e_api_Addr vr_12 r_13 :: Ow.own 27 17 e_api_Addr vr_13 r_14 :: Ow.own 27 17 e_api_Addr vr_8 r_9 :: Ow.own 27 17 e_api_Addr vr_9 r_10 :: Ow.own 27 17 e_api_Addr vr_5 r_6 :: Ow.own 27 17 e_api_Addr vr_6 r_7 :: fr)) r_11 r_17 vr_10 vr_15 hS (hL_13.kp hkz_10) hL_14 hM) ?_
      rintro _ h_17 ⟨F_23, r_18, rfl, hk, hS, _, _, hM⟩
      obtain ⟨hS, hk⟩ := hZ_10.back hk hS
      obtain ⟨hS, hk⟩ := hZ_9.back hk hS
      generalize (fun b => (fun b => F_23 b ∧ ¬ (Ow.own 27 17 e_api_Addr vr_15 r_17).foot b) b ∧ ¬ (Ow.own 27 17 e_api_Addr vr_10 r_11).foot b) = F_24 at hS hk
      replace hK := hK.trans hk
      replace hL_l := hL_l.kp hk
      replace hL_m1 := hL_m1.kp hk
      replace hL_1 := hL_1.kp hk
      replace hL_2 := hL_2.kp hk
      replace hL_3 := hL_3.kp hk
      replace hL_4 := hL_4.kp hk
      refine HO.val (v := .bool (!r_18)) (want_by rfl rfl c_1) rfl (q_not rfl) ?_
      refine HO.val (v := .bool (!r_18)) (want_none) rfl (q_pickK false rfl c_1 rfl) ?_
      refine HO.val (v := .bool (!r_18)) (want_none) rfl (q_move rfl) ?_
      rcases Bool.eq_false_or_eq_true (!r_18) with c_2 | c_2
      · replace hM := hM.1 c_2
        refine HO.past (past_by rfl rfl c_2) rfl ?_
        refine HO.past (past_by rfl rfl c_2) rfl ?_
        refine HO.past (past_by rfl rfl c_2) rfl ?_
        refine HO.past (past_by rfl rfl c_2) rfl ?_
        refine HO.past (past_by rfl rfl c_2) rfl ?_
        refine HO.past (past_by rfl rfl c_2) rfl ?_
        refine HO.val (v := .bool true) (want_none) rfl (q_pickK true rfl c_2 rfl) ?_
        refine HO.val (v := .bool true) (want_none) rfl (q_move rfl) ?_
        refine HO.past (past_some rfl rfl) rfl ?_
        refine HO.past (past_some rfl rfl) rfl ?_
        refine HO.past (past_some rfl rfl) rfl ?_
        refine HO.past (past_some rfl rfl) rfl ?_
        refine HO.past (past_some rfl rfl) rfl ?_
        refine HO.past (past_some rfl rfl) rfl ?_
        refine HO.val (v := .bool true) (want_none) rfl (q_pick rfl rfl) ?_
        refine HO.nil (thenQ_normal (?_))
        replace hS : St F_24 (Ow.own 27 17 e_api_Addr vr_7 r_8 :: Ow.own 27 17 e_api_Addr vr_10 r_11 :: fr) h_17 := hS.perm2 [2, 0] 11 rfl rfl
        exact ⟨F_24, true, rfl, rfl, rfl, rfl, rfl, rfl, hK, hS, hL_l, hL_m1, hL_1, hL_2, hL_3, hL_4, hM⟩
      · replace hM := hM.2 c_2
        refine HO.val (v := vr_13) (want_by rfl rfl c_2) rfl (q_move rfl) ?_
        refine HO.val (v := vr_2) (want_by rfl rfl c_2) rfl (q_move rfl) ?_
        refine HO.val (v := vr_4) (want_by rfl rfl c_2) rfl (q_move rfl) ?_
        refine HO.call (want_by rfl rfl c_2) rfl (ec en_44 rfl rfl) (ref11_Or_walk (fr := (Ow.own 27 17 e_api_Addr vr_10 r_11 :: Ow.own 27 17 e_api_Addr vr_15 r_17 :: Ow.own 27 17 e_api_Addr vr_7 r_8 :: Ow.own 27 17 e_api_Addr vr_14 r_15 :: Ow.own 27 17 e_api_Addr vr_11 r_12 :: Ow.own 27 17 e_api_Addr vr_12 r_13 :: Ow.own 27 17 e_api_Addr vr_13 r_14 :: Ow.own 27 17 e_api_Addr vr_8 r_9 :: Ow.own 27 17 e_api_Addr vr_9 r_10 :: Ow.own 27 17 e_api_Addr vr_5 r_6 :: Ow.own 27 17 e_api_Addr vr_6 r_7 :: fr)) r_3 r_5 vr_2 vr_4 hS hL_2 hL_4 hM) ?_
        rintro vr_16 h_18 ⟨F_25, r_19, _, rfl, hk, hS, _, _, hL_15, hM⟩
        replace hK := hK.trans hk
        replace hL_l := hL_l.kp hk
        replace hL_m1 := hL_m1.kp hk
        replace hL_1 := hL_1.kp hk
        replace hL_2 := hL_2.kp hk
        replace hL_3 := hL_3.kp hk
        replace hL_4 := hL_4.kp hk
        replace hS : St F_25 (Ow.own 27 17 e_api_Addr vr_13 r_14 :: Ow.own 27 17 e_api_Addr vr_10 r_11 :: Ow.own 27 17 e_api_Addr vr_15 r_17 :: Ow.own 27 17 e_api_Addr vr_7 r_8 :: Ow.own 27 17 e_api_Addr vr_14 r_15 :: Ow.own 27 17 e_api_Addr vr_11 r_12 :: Ow.own 27 17 e_api_Addr vr_12 r_13 :: Ow.own 27 17 e_api_Addr vr_8 r_9 :: Ow.own 27 17 e_api_Addr vr_9 r_10 :: Ow.own 27 17 e_api_Addr vr_5 r_6 :: Ow.own 27 17 e_api_Addr vr_6 r_7 :: fr) h_18 := hS.perm2 [6, 0, 1, 2, 3, 4, 5, 7, 8, 9, 10] 11 rfl rfl
        have hZ_11 := hS
        have hkz_11 := (hS.freeze).2
        replace hS := hS.freeze.1
        have hL_16 : SliceF (fun b => F_25 b ∨ (Ow.own 27 17 e_api_Addr vr_13 r_14).foot b) h_18 17 e_api_Addr vr_13 r_14 := ⟨(hZ_11.own 0 rfl).slice, fun _ b hb => .inr hb⟩
        refine HO.call (want_by rfl rfl c_2) rfl (ec en_27 rfl rfl) (ref11_Same_walk (fr := (Ow.own 27 17 e_api_Addr vr_10 r_11 :: Ow.own 27 17 e_api_Addr vr_15 r_17 :: Ow.own 27 17 e_api_Addr vr_7 r_8 :: Ow.own 27 17 e_api_Addr vr_14 r_15 :: Ow.own 27 17 e_api_Addr vr_11 r_12 :: Ow.own 27 17 e_api_Addr vr_12 r_13 :: Ow.own 27 17 e_api_Addr vr_8 r_9 :: Ow.own 27 17 e_api_Addr vr_9 r_10 :: Ow.own 27 17 e_api_Addr vr_5 r_6 :: Ow.own 27 17 e_api_Addr vr_6 r_7 :: fr)) r_14 r_19 vr_13 vr_16 hS hL_16 (hL_15.kp hkz_11) hM) ?_
        rintro _ h_19 ⟨F_26, r_20, rfl, hk, hS, _, _, hM⟩
        obtain ⟨hS, hk⟩ := hZ_11.back hk hS
        generalize (fun b => F_26 b ∧ ¬ (Ow.own 27 17 e_api_Addr vr_13 r_14).foot b) = F_27 at hS hk
        replace hK := hK.trans hk
        replace hL_l := hL_l.kp hk
        replace hL_m1 := hL_m1.kp hk
        replace hL_1 := hL_1.kp hk
        replace hL_2 := hL_2.kp hk
        replace hL_3 := hL_3.kp hk
        replace hL_4 := hL_4.kp hk
        replace hL_15 := hL_15.kp hk
        refine HO.val (v := .bool (!r_20)) (want_by rfl rfl c_2) rfl (q_not rfl) ?_
        refine HO.val (v := .bool (!r_20)) (want_none) rfl (q_pickK false rfl c_2 rfl) ?_
        refine HO.val (v := .bool (!r_20)) (want_none) rfl (q_move rfl) ?_
        rcases Bool.eq_false_or_eq_true (!r_20) with c_3 | c_3
        · replace hM := hM.1 c_3
          refine HO.past (past_by rfl rfl c_3) rfl ?_
          refine HO.past (past_by rfl rfl c_3) rfl ?_
          refine HO.past (past_by rfl rfl c_3) rfl ?_
          refine HO.past (past_by rfl rfl c_3) rfl ?_
          refine HO.past (past_by rfl rfl c_3) rfl ?_
          refine HO.past (past_by rfl rfl c_3) rfl ?_
          refine HO.val (v := .bool true) (want_none) rfl (q_pickK true rfl c_3 rfl) ?_
          refine HO.nil (thenQ_normal (?_))
          replace hS : St F_27 (Ow.own 27 17 e_api_Addr vr_7 r_8 :: Ow.own 27 17 e_api_Addr vr_10 r_11 :: fr) h_19 := hS.perm2 [3, 1] 11 rfl rfl
          exact ⟨F_27, true, rfl, rfl, rfl, rfl, rfl, rfl, hK, hS, hL_l, hL_m1, hL_1, hL_2, hL_3, hL_4, hM⟩
        · replace hM := hM.2 c_3
          refine HO.val (v := vr_4) (want_by rfl rfl c_3) rfl (q_move rfl) ?_
          refine HO.val (v := vr_2) (want_by rfl rfl c_3) rfl (q_move rfl) ?_
          refine HO.call (want_by rfl rfl c_3) rfl (ec en_42 rfl rfl) (srcs_Or_walk (fr := (Ow.own 27 17 e_api_Addr vr_13 r_14 :: Ow.own 27 17 e_api_Addr vr_10 r_11 :: Ow.own 27 17 e_api_Addr vr_15 r_17 :: Ow.own 27 17 e_api_Addr vr_7 r_8 :: Ow.own 27 17 e_api_Addr vr_14 r_15 :: Ow.own 27 17 e_api_Addr vr_11 r_12 :: Ow.own 27 17 e_api_Addr vr_12 r_13 :: Ow.own 27 17 e_api_Addr vr_8 r_9 :: Ow.own 27 17 e_api_Addr vr_9 r_10 :: Ow.own 27 17 e_api_Addr vr_5 r_6 :: Ow.own 27 17 e_api_Addr vr_6 r_7 :: fr)) r_5 r_3 vr_4 vr_2 hS hL_4 hL_2 hM) ?_
          rintro vr_17 h_20 ⟨F_28, r_21, _, rfl, hk, hS, _, _, hM⟩
          replace hK := hK.trans hk
          replace hL_l := hL_l.kp hk
          replace hL_m1 := hL_m1.kp hk
          replace hL_1 := hL_1.kp hk
          replace hL_2 := hL_2.kp hk
          replace hL_3 := hL_3.kp hk
          replace hL_4 := hL_4.kp hk
          replace hL_15 := hL_15.kp hk
          refine HO.val (v := vr_13) (want_by rfl rfl c_3) rfl (q_move rfl) ?_
          have hZ_12 := hS
          have hkz_12 := (hS.freeze).2
          replace hS := hS.freeze.1
          have hL_17 : SliceF (fun b => F_28 b ∨ (Ow.own 27 17 e_api_Addr vr_17 r_21).foot b) h_20 17 e_api_Addr vr_17 r_21 := ⟨(hZ_12.own 0 rfl).slice, fun _ b hb => .inr hb⟩
          have hZ_13 := hS
          have hkz_13 := (hS.freeze).2
          replace hS := hS.freeze.1
          have hL_18 : SliceF (fun b => (fun b => F_28 b ∨ (Ow.own 27 17 e_api_Addr vr_17 r_21).foot b) b ∨ (Ow.own 27 17 e_api_Addr vr_13 r_14).foot b) h_20 17 e_api_Addr vr_13 r_14 := ⟨(hZ_13.own 0 rfl).slice, fun _ b hb => .inr hb⟩
          refine HO.call (want_by rfl rfl c_3) rfl (ec en_27 rfl rfl) (ref11_Same_walk (fr := (Ow.own 27 17 e_api_Addr vr_10 r_11 :: Ow.own 27 17 e_api_Addr vr_15 r_17 :: Ow.own 27 17 e_api_Addr vr_7 r_8 :: Ow.own 27 17 e_api_Addr vr_14 r_15 :: Ow.own 27 17 e_api_Addr vr_11 r_12 :: Ow.own 27 17 e_api_Addr vr_12 r_13 :: Ow.own 27 17 e_api_Addr vr_8 r_9 :: Ow.own 27 17 e_api_Addr vr_9 r_10 :: Ow.own 27 17 e_api_Addr vr_5 r_6 :: Ow.own 27 17 e_api_Addr vr_6 r_7 :: fr)) r_21 r_14 vr_17 vr_13 hS (hL_17.kp hkz_13) hL_18 hM) ?_
          rintro _ h_21 ⟨F_29, r_22, rfl, hk, hS, _, _, hM⟩
          obtain ⟨hS, hk⟩ := hZ_13.back hk hS
          obtain ⟨hS, hk⟩ := hZ_12.back hk hS
          generalize (fun b => (fun b => F_29 b ∧ ¬ (Ow.own 27 17 e_api_Addr vr_13 r_14).foot b) b ∧ ¬ (Ow.own 27 17 e_api_Addr vr_17 r_21).foot b) = F_30 at hS hk
          replace hK := hK.trans hk
          replace hL_l := hL_l.kp hk
          replace hL_m1 := hL_m1.kp hk
          replace hL_1 := hL_1.kp hk
          replace hL_2 := hL_2.kp hk
          replace hL_3 := hL_3.kp hk
          replace hL_4 := hL_4.kp hk
          replace hL_15 := hL_15.kp hk
          refine HO.val (v := .bool (!r_22)) (want_by rfl rfl c_3) rfl (q_not rfl) ?_
          refine HO.val (v := .bool (!r_22)) (want_none) rfl (q_pickK false rfl c_3 rfl) ?_
          refine HO.nil (thenQ_normal (?_))
          replace hS : St F_30 (Ow.own 27 17 e_api_Addr vr_7 r_8 :: Ow.own 27 17 e_api_Addr vr_10 r_11 :: fr) h_21 := hS.perm2 [4, 2] 12 rfl rfl
          exact ⟨F_30, !r_22, rfl, rfl, rfl, rfl, rfl, rfl, hK, hS, hL_l, hL_m1, hL_1, hL_2, hL_3, hL_4, hM⟩
  · rintro f_1 h_22 ⟨F_31, b_1, e4, e5, e6, e7, e8, e60, hK, hS, hL_l, hL_m1, hL_1, hL_2, hL_3, hL_4, hM⟩
    unfold law11_SrcsPairs_j1 at hM
    refine HW.fr [(4, .bool false), (5, vr_2), (6, vr_4), (7, vr_7), (8, vr_10), (60, .bool b_1)] ⟨e4, e5, e6, e7, e8, e60, trivial⟩ ?_
    refine HW.cond b_1 rfl (fun c_4 => ?_) (fun c_4 => ?_)
    · replace hM := hM.1 c_4
      refine HW.seq ?_
      refine HW.region ?_
      refine HO.val (v := .bool false) (want_none) rfl (q_assign rfl) ?_
      refine HO.nil (thenQ_normal (?_))
      refine HW.ret (thenQ_ret (?_))
      refine ⟨.inr rfl, .bool false, res1 rfl (rt rfl), ?_⟩
      replace hS : St F_31 (fr) h_22 := hS.perm2 [] 2 rfl rfl
      exact ⟨F_31, false, rfl, hK, hS, hL_l, hL_m1, hM⟩
    · replace hM := hM.2 c_4
      refine HW.skip (thenQ_normal (?_))
      refine HW.seq ?_
      refine HW.region ?_
      refine HO.val (v := vr_7) (want_none) rfl (q_move rfl) ?_
      refine HO.val (v := vr_10) (want_none) rfl (q_move rfl) ?_
      have hZ_14 := hS
      have hkz_14 := (hS.freeze).2
      replace hS := hS.freeze.1
      have hL_19 : SliceF (fun b => F_31 b ∨ (Ow.own 27 17 e_api_Addr vr_7 r_8).foot b) h_22 17 e_api_Addr vr_7 r_8 := ⟨(hZ_14.own 0 rfl).slice, fun _ b hb => .inr hb⟩
      have hZ_15 := hS
      have hkz_15 := (hS.freeze).2
      replace hS := hS.freeze.1
      have hL_20 : SliceF (fun b => (fun b => F_31 b ∨ (Ow.own 27 17 e_api_Addr vr_7 r_8).foot b) b ∨ (Ow.own 27 17 e_api_Addr vr_10 r_11).foot b) h_22 17 e_api_Addr vr_10 r_11 := ⟨(hZ_15.own 0 rfl).slice, fun _ b hb => .inr hb⟩
      refine HO.call (want_none) rfl (ec en_42 rfl rfl) (srcs_Or_walk (fr := (fr)) r_8 r_11 vr_7 vr_10 hS (hL_19.kp hkz_15) hL_20 hM) ?_
      rintro vr_18 h_23 ⟨F_32, r_23, _, rfl, hk, hS, _, _, hM⟩
      obtain ⟨hS, hk⟩ := hZ_15.back hk hS
      obtain ⟨hS, hk⟩ := hZ_14.back hk hS
      generalize (fun b => (fun b => F_32 b ∧ ¬ (Ow.own 27 17 e_api_Addr vr_10 r_11).foot b) b ∧ ¬ (Ow.own 27 17 e_api_Addr vr_7 r_8).foot b) = F_33 at hS hk
      replace hK := hK.trans hk
      replace hL_l := hL_l.kp hk
      replace hL_m1 := hL_m1.kp hk
      replace hL_1 := hL_1.kp hk
      replace hL_2 := hL_2.kp hk
      replace hL_3 := hL_3.kp hk
      replace hL_4 := hL_4.kp hk
      refine HO.val (v := vr_2) (want_none) rfl (q_move rfl) ?_
      replace hS : St F_33 (Ow.own 27 17 e_api_Addr vr_18 r_23 :: Ow.own 27 17 e_api_Addr vr_7 r_8 :: Ow.own 27 17 e_api_Addr vr_10 r_11 :: fr) h_23 := hS.perm2 [2, 0, 1] 3 rfl rfl
      have hZ_16 := hS
      have hkz_16 := (hS.freeze).2
      replace hS := hS.freeze.1
      have hL_21 : SliceF (fun b => F_33 b ∨ (Ow.own 27 17 e_api_Addr vr_18 r_23).foot b) h_23 17 e_api_Addr vr_18 r_23 := ⟨(hZ_16.own 0 rfl).slice, fun _ b hb => .inr hb⟩
      refine HO.call (want_none) rfl (ec en_27 rfl rfl) (ref11_Same_walk (fr := (Ow.own 27 17 e_api_Addr vr_7 r_8 :: Ow.own 27 17 e_api_Addr vr_10 r_11 :: fr)) r_23 r_3 vr_18 vr_2 hS hL_21 (hL_2.kp hkz_16) hM) ?_
      rintro _ h_24 ⟨F_34, r_24, rfl, hk, hS, _, _, hM⟩
      obtain ⟨hS, hk⟩ := hZ_16.back hk hS
      generalize (fun b => F_34 b ∧ ¬ (Ow.own 27 17 e_api_Addr vr_18 r_23).foot b) = F_35 at hS hk
      replace hK := hK.trans hk
      replace hL_l := hL_l.kp hk
      replace hL_m1 := hL_m1.kp hk
      replace hL_1 := hL_1.kp hk
      replace hL_2 := hL_2.kp hk
      replace hL_3 := hL_3.kp hk
      replace hL_4 := hL_4.kp hk
      refine HO.val (v := .bool r_24) (want_none) rfl (q_move rfl) ?_
      rcases Bool.eq_false_or_eq_true r_24 with c_5 | c_5
      · replace hM := hM.1 c_5
        refine HO.val (v := vr_2) (want_by rfl rfl c_5) rfl (q_move rfl) ?_
        refine HO.val (v := vr_4) (want_by rfl rfl c_5) rfl (q_move rfl) ?_
        refine HO.call (want_by rfl rfl c_5) rfl (ec en_45 rfl rfl) (srcs_Same_walk (fr := (Ow.own 27 17 e_api_Addr vr_18 r_23 :: Ow.own 27 17 e_api_Addr vr_7 r_8 :: Ow.own 27 17 e_api_Addr vr_10 r_11 :: fr)) r_3 r_5 vr_2 vr_4 hS hL_2 hL_4 hM) ?_
        rintro _ h_25 ⟨F_36, r_25, rfl, hk, hS, _, _, hM⟩
        replace hK := hK.trans hk
        replace hL_l := hL_l.kp hk
        replace hL_m1 := hL_m1.kp hk
        replace hL_1 := hL_1.kp hk
        replace hL_2 := hL_2.kp hk
        replace hL_3 := hL_3.kp hk
        replace hL_4 := hL_4.kp hk
        refine HO.val (v := vr_2) (want_by rfl rfl c_5) rfl (q_move rfl) ?_
        refine HO.val (v := vr_4) (want_by rfl rfl c_5) rfl (q_move rfl) ?_
        refine HO.call (want_by rfl rfl c_5) rfl (ec en_27 rfl rfl) (ref11_Same_walk (fr := (Ow.own 27 17 e_api_Addr vr_18 r_23 :: Ow.own 27 17 e_api_Addr vr_7 r_8 :: Ow.own 27 17 e_api_Addr vr_10 r_11 :: fr)) r_3 r_5 vr_2 vr_4 hS hL_2 hL_4 hM) ?_
        rintro _ h_26 ⟨F_37, r_26, rfl, hk, hS, _, _, hM⟩
        replace hK := hK.trans hk
        replace hL_l := hL_l.kp hk
        replace hL_m1 := hL_m1.kp hk
        replace hL_1 := hL_1.kp hk
        replace hL_2 := hL_2.kp hk
        replace hL_3 := hL_3.kp hk
        replace hL_4 := hL_4.kp hk
        refine HO.val (v := .bool (r_25 == r_26)) (want_by rfl rfl c_5) rfl (q_eqlB Tryd.underlying4 rfl rfl) ?_
        refine HO.val (v := .bool (r_25 == r_26)) (want_none) rfl (q_pickK true rfl c_5 rfl) ?_
        refine HO.val (v := .bool (r_25 == r_26)) (want_none) rfl (q_move rfl) ?_
        rcases Bool.eq_false_or_eq_true (r_25 == r_26) with c_6 | c_6
        · replace hM := hM.1 c_6
          refine HO.val (v := vr_2) (want_by rfl rfl c_6) rfl (q_move rfl) ?_
          refine HO.val (v := vr_4) (want_by rfl rfl c_6) rfl (q_move rfl) ?_
          refine HO.call (want_by rfl rfl c_6) rfl (ec en_46 rfl rfl) (srcs_Within_walk (fr := (Ow.own 27 17 e_api_Addr vr_18 r_23 :: Ow.own 27 17 e_api_Addr vr_7 r_8 :: Ow.own 27 17 e_api_Addr vr_10 r_11 :: fr)) r_3 r_5 vr_2 vr_4 hS hL_2 hL_4 hM) ?_
          rintro _ h_27 ⟨F_38, r_27, rfl, hk, hS, _, _, hM⟩
          replace hK := hK.trans hk
          replace hL_l := hL_l.kp hk
          replace hL_m1 := hL_m1.kp hk
          replace hL_1 := hL_1.kp hk
          replace hL_2 := hL_2.kp hk
          replace hL_3 := hL_3.kp hk
          replace hL_4 := hL_4.kp hk
          refine HO.val (v := vr_10) (want_by rfl rfl c_6) rfl (q_move rfl) ?_
          refine HO.val (v := .int .i64 (r_11.length : Int)) (want_by rfl rfl c_6) rfl (q_len ts_22 (shp (hS.own 2 rfl).slice) rfl rfl) ?_
          refine HO.val (v := .bool (decide ((r_11.length : Int) = 0))) (want_by rfl rfl c_6) rfl (q_eql rfl rfl) ?_
          refine HO.val (v := .bool (r_27 == (decide ((r_11.length : Int) = 0)))) (want_by rfl rfl c_6) rfl (q_eqlB Tryd.underlying4 rfl rfl) ?_
          refine HO.val (v := .bool (r_27 == (decide ((r_11.length : Int) = 0)))) (want_none) rfl (q_pickK true rfl c_6 rfl) ?_
          refine HO.val (v := .bool (r_27 == (decide ((r_11.length : Int) = 0)))) (want_none) rfl (q_move rfl) ?_
          rcases Bool.eq_false_or_eq_true (r_27 == (decide ((r_11.length : Int) = 0))) with c_7 | c_7
          · replace hM := hM.1 c_7
            refine HO.val (v := vr_7) (want_by rfl rfl c_7) rfl (q_move rfl) ?_
            refine HO.val (v := vr_4) (want_by rfl rfl c_7) rfl (q_move rfl) ?_
            replace hS : St F_38 (Ow.own 27 17 e_api_Addr vr_7 r_8 :: Ow.own 27 17 e_api_Addr vr_18 r_23 :: Ow.own 27 17 e_api_Addr vr_10 r_11 :: fr) h_27 := hS.perm2 [1, 0, 2] 3 rfl rfl
            have hZ_17 := hS
            have hkz_17 := (hS.freeze).2
            replace hS := hS.freeze.1
            have hL_22 : SliceF (fun b => F_38 b ∨ (Ow.own 27 17 e_api_Addr vr_7 r_8).foot b) h_27 17 e_api_Addr vr_7 r_8 := ⟨(hZ_17.own 0 rfl).slice, fun _ b hb => .inr hb⟩
            refine HO.call (want_by rfl rfl c_7) rfl (ec en_46 rfl rfl) (srcs_Within_walk (fr := (Ow.own 27 17 e_api_Addr vr_18 r_23 :: Ow.own 27 17 e_api_Addr vr_10 r_11 :: fr)) r_8 r_5 vr_7 vr_4 hS hL_22 (hL_4.kp hkz_17) hM) ?_
            rintro _ h_28 ⟨F_39, r_28, rfl, hk, hS, _, _, hM⟩
            obtain ⟨hS, hk⟩ := hZ_17.back hk hS
            generalize (fun b => F_39 b ∧ ¬ (Ow.own 27 17 e_api_Addr vr_7 r_8).foot b) = F_40 at hS hk
            replace hK := hK.trans hk
            replace hL_l := hL_l.kp hk
            replace hL_m1 := hL_m1.kp hk
            replace hL_1 := hL_1.kp hk
            replace hL_2 := hL_2.kp hk
            replace hL_3 := hL_3.kp hk
            replace hL_4 := hL_4.kp hk
            refine HO.val (v := .bool r_28) (want_none) rfl (q_pickK true rfl c_7 rfl) ?_
            refine HO.val (v := .bool r_28) (want_none) rfl (q_move rfl) ?_
            rcases Bool.eq_false_or_eq_true r_28 with c_8 | c_8
            · replace hM := hM.1 c_8
              refine HO.call (want_by rfl rfl c_8) rfl (ec en_39 rfl rfl) (law11_lives_walk (fr := (Ow.own 27 17 e_api_Addr vr_7 r_8 :: Ow.own 27 17 e_api_Addr vr_18 r_23 :: Ow.own 27 17 e_api_Addr vr_10 r_11 :: fr))  hS hD hM) ?_
              rintro _ h_29 ⟨F_41, r_29, rfl, hk, hS, hM⟩
              replace hK := hK.trans hk
              replace hL_l := hL_l.kp hk
              replace hL_m1 := hL_m1.kp hk
              replace hL_1 := hL_1.kp hk
              replace hL_2 := hL_2.kp hk
              replace hL_3 := hL_3.kp hk
              replace hL_4 := hL_4.kp hk
              refine HO.val (v := .bool r_29) (want_none) rfl (q_pickK true rfl c_8 rfl) ?_
              refine HO.val (v := .bool r_29) (want_none) rfl (q_assign rfl) ?_
              refine HO.nil (thenQ_normal (?_))
              refine HW.ret (?_)
              refine ⟨.inr rfl, .bool r_29, res1 rfl (rt rfl), ?_⟩
              replace hS : St F_41 (fr) h_29 := hS.perm2 [] 3 rfl rfl
              exact ⟨F_41, r_29, rfl, hK, hS, hL_l, hL_m1, hM⟩
            · replace hM := hM.2 c_8
              refine HO.past (past_by rfl rfl c_8) rfl ?_
              refine HO.val (v := .bool false) (want_none) rfl (q_pickK false rfl c_8 rfl) ?_
              refine HO.val (v := .bool false) (want_none) rfl (q_assign rfl) ?_
              refine HO.nil (thenQ_normal (?_))
              refine HW.ret (?_)
              refine ⟨.inr rfl, .bool false, res1 rfl (rt rfl), ?_⟩
              replace hS : St F_40 (fr) h_28 := hS.perm2 [] 3 rfl rfl
              exact ⟨F_40, false, rfl, hK, hS, hL_l, hL_m1, hM⟩
          · replace hM := hM.2 c_7
            refine HO.past (past_by rfl rfl c_7) rfl ?_
            refine HO.past (past_by rfl rfl c_7) rfl ?_
            refine HO.past (past_by rfl rfl c_7) rfl ?_
            refine HO.val (v := .bool false) (want_none) rfl (q_pickK false rfl c_7 rfl) ?_
            refine HO.val (v := .bool false) (want_none) rfl (q_move rfl) ?_
            refine HO.past (past_some rfl rfl) rfl ?_
            refine HO.val (v := .bool false) (want_none) rfl (q_pick rfl rfl) ?_
            refine HO.val (v := .bool false) (want_none) rfl (q_assign rfl) ?_
            refine HO.nil (thenQ_normal (?_))
            refine HW.ret (?_)
            refine ⟨.inr rfl, .bool false, res1 rfl (rt rfl), ?_⟩
            replace hS : St F_38 (fr) h_27 := hS.perm2 [] 3 rfl rfl
            exact ⟨F_38, false, rfl, hK, hS, hL_l, hL_m1, hM⟩
        · replace hM := hM.2 c_6
          refine HO.past (past_by rfl rfl c_6) rfl ?_
          refine HO.past (past_by rfl rfl c_6) rfl ?_
          refine HO.past (past_by rfl rfl c_6) rfl ?_
          refine HO.past (past_by rfl rfl c_6) rfl ?_
          refine HO.past (past_by rfl rfl c_6) rfl ?_
          refine HO.past (past_by rfl rfl c_6) rfl ?_
          refine HO.past (past_by rfl rfl c_6) rfl ?_
          refine HO.val (v := .bool false) (want_none) rfl (q_pickK false rfl c_6 rfl) ?_
          refine HO.val (v := .bool false) (want_none) rfl (q_move rfl) ?_
          refine HO.past (past_some rfl rfl) rfl ?_
          refine HO.past (past_some rfl rfl) rfl ?_
          refine HO.past (past_some rfl rfl) rfl ?_
          refine HO.val (v := .bool false) (want_none) rfl (q_pick rfl rfl) ?_
          refine HO.val (v := .bool false) (want_none) rfl (q_move rfl) ?_
          refine HO.past (past_some rfl rfl) rfl ?_
          refine HO.val (v := .bool false) (want_none) rfl (q_pick rfl rfl) ?_
          refine HO.val (v := .bool false) (want_none) rfl (q_assign rfl) ?_
          refine HO.nil (thenQ_normal (?_))
          refine HW.ret (?_)
          refine ⟨.inr rfl, .bool false, res1 rfl (rt rfl), ?_⟩
          replace hS : St F_37 (fr) h_26 := hS.perm2 [] 3 rfl rfl
          exact ⟨F_37, false, rfl, hK, hS, hL_l, hL_m1, hM⟩
      · replace hM := hM.2 c_5
        refine HO.past (past_by rfl rfl c_5) rfl ?_
        refine HO.past (past_by rfl rfl c_5) rfl ?_
        refine HO.past (past_by rfl rfl c_5) rfl ?_
        refine HO.past (past_by rfl rfl c_5) rfl ?_
        refine HO.past (past_by rfl rfl c_5) rfl ?_
        refine HO.past (past_by rfl rfl c_5) rfl ?_
        refine HO.past (past_by rfl rfl c_5) rfl ?_
        refine HO.val (v := .bool false) (want_none) rfl (q_pickK false rfl c_5 rfl) ?_
        refine HO.val (v := .bool false) (want_none) rfl (q_move rfl) ?_
        refine HO.past (past_some rfl rfl) rfl ?_
        refine HO.past (past_some rfl rfl) rfl ?_
        refine HO.past (past_some rfl rfl) rfl ?_
        refine HO.past (past_some rfl rfl) rfl ?_
        refine HO.past (past_some rfl rfl) rfl ?_
        refine HO.past (past_some rfl rfl) rfl ?_
        refine HO.past (past_some rfl rfl) rfl ?_
        refine HO.val (v := .bool false) (want_none) rfl (q_pick rfl rfl) ?_
        refine HO.val (v := .bool false) (want_none) rfl (q_move rfl) ?_
        refine HO.past (past_some rfl rfl) rfl ?_
        refine HO.past (past_some rfl rfl) rfl ?_
        refine HO.past (past_some rfl rfl) rfl ?_
        refine HO.val (v := .bool false) (want_none) rfl (q_pick rfl rfl) ?_
        refine HO.val (v := .bool false) (want_none) rfl (q_move rfl) ?_
        refine HO.past (past_some rfl rfl) rfl ?_
        refine HO.val (v := .bool false) (want_none) rfl (q_pick rfl rfl) ?_
        refine HO.val (v := .bool false) (want_none) rfl (q_assign rfl) ?_
        refine HO.nil (thenQ_normal (?_))
        refine HW.ret (?_)
        refine ⟨.inr rfl, .bool false, res1 rfl (rt rfl), ?_⟩
        replace hS : St F_35 (fr) h_24 := hS.perm2 [] 3 rfl rfl
        exact ⟨F_35, false, rfl, hK, hS, hL_l, hL_m1, hM⟩
end Go.Wk
